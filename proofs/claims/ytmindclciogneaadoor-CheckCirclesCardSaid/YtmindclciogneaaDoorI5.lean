/- What props.Take does. -/
import Derived.Test.YtmindclciogneaaDoorI4
import Derived.Laws.Tables
import Derived.Laws.CopyOwn
namespace Go.Proofs.YtmindclciogneaaDoor
open Go.RowKit

theorem results_cell3 {P : Program} {fn : Func} {p u v : Tmp} {ty : TypeId} (h : fn.results = #[.cell p ty, .tmp u, .tmp v]) (tmps : Array Value) (w : World) (g : Nat) (t : TypeId) (cs : Array Value) (fr : Nat × Nat) (d : TypeDesc)
    (hp : tmps.getD p undef = .pointer (some ⟨g, 0, none⟩)) (hg : w.heap[g]? = some (.cells cs t fr))
    (hu : P.underlying ty = some d) (hd : (match d with | .struct _ | .array _ _ => true | _ => false) = true) (hi : (P.info? ty).map (·.size) = some cs.size) :
    (results fn tmps).run P w = .ok (.tuple #[.agg cs, tmps.getD u undef, tmps.getD v undef]) w := by
  have hp' : tmps[p]?.getD undef = .pointer (some ⟨g, 0, none⟩) := by simpa using hp
  simp [results, h, hp', asAddr, run_loadVar_row w g t ty cs fr d hg hu hd hi]
/-- A Props as a value. -/
def pv (p : Bs × Bs) : Value := .agg #[.string ⟨p.1.toArray⟩, .string ⟨p.2.toArray⟩]
theorem info_pp : (Tryd.prog.info? 127).map (·.size) = some 2 := by kernel_rfl
theorem wordB_idx (l : Bs) : Lib.indexByte l 32 = if (wordB l).length < l.length then ((wordB l).length : Int) else -1 := by
  induction l with
  | nil => rfl
  | cons x t ih =>
    by_cases hx : x = 32
    · subst hx
      simp [Lib.indexByte, wordB]
    · have e : wordB (x :: t) = x :: wordB t := by simp [wordB, hx]
      have hb : (x == 32) = false := by simpa using hx
      rw [Lib.indexByte, hb, ih, e]
      simp only [List.length_cons, Bool.false_eq_true, if_false]
      by_cases hq : (wordB t).length < t.length
      · rw [if_pos hq, if_pos (Nat.succ_lt_succ hq), if_neg (by simp only [beq_iff_eq]; omega)]
        simp
      · rw [if_neg hq, if_neg (fun h => hq (Nat.lt_of_succ_lt_succ h))]
        rfl
theorem wordB_le (l : Bs) : (wordB l).length ≤ l.length := (List.takeWhile_prefix _).length_le
theorem wordB_take (l : Bs) : l.take (wordB l).length = wordB l := (List.prefix_iff_eq_take.1 (List.takeWhile_prefix (p := (· != (32 : UInt8))) (l := l))).symm
theorem leftB_drop (l : Bs) : l.drop (l.length - (leftB l).length) = leftB l := by
  obtain ⟨s, hs⟩ := List.dropWhile_suffix (l := l) (· == (32 : UInt8))
  have hs2 : s ++ leftB l = l := hs
  have hlen : l.length = s.length + (leftB l).length := by rw [← List.length_append, hs2]
  conv => lhs; arg 2; rw [← hs2]
  rw [hlen, Nat.add_sub_cancel, List.drop_left]
theorem propsGo_cons (f : Nat) (x : UInt8) (t : Bs) (p : Bs × Bs) (n i : Nat) : propsGo (f + 1) (x :: t) p n i =
    if x = 38 ∨ x = 33 then
      match addB p (wordB (x :: t)) with
      | none => (([], []), 0, false)
      | some q => propsGo f (leftB ((x :: t).drop (wordB (x :: t)).length)) q (i + (wordB (x :: t)).length) (i + (x :: t).length - (leftB ((x :: t).drop (wordB (x :: t)).length)).length)
    else (p, n, true) := rfl
theorem PP.new (w : World) : PP (w.alloc (.cells #[.string ⟨#[]⟩, .string ⟨#[]⟩] 127)) w.heap.size ([], []) := heap_alloc_new w _

set_option maxRecDepth 20000 in
set_option maxHeartbeats 1000000 in
theorem props_any (A : Option Addr) (c : Nat) (l : Bs) (w : World) (h : BA w A l) (hlc : l.length ≤ c) (hc : c ≤ 9223372036854775807) (hl : l.length ≤ 1000000000) :
    Calls Tryd.prog 115 #[.slice A l.length c] w fun e w' => e = .returned (.tuple #[pv (propsB l).1, .int .i64 (propsB l).2.1, .bool (propsB l).2.2]) ∧ Below w.heap.size w w' := by
  obtain ⟨V, hV⟩ : ∃ V, propsB l = V := ⟨_, rfl⟩
  rw [hV]
  have HV := Lib.hid hV
  clear hV
  have hP0 := PP.new w
  have hbel0 : Below w.heap.size w (w.alloc (.cells #[.string ⟨#[]⟩, .string ⟨#[]⟩] 127)) := (Below.refl _ _).alloc (Nat.le_refl _) _
  go_enter Tryd.func115, Tryd.ntmps115
  go_wp2
  go_loopw [3, 5, 6, 7] (fun a i _ _ wr => ∃ (k f n : Nat) (p : Bs × Bs), a = .int .i64 n ∧ i = .int .i64 k ∧ k ≤ l.length ∧ n ≤ l.length ∧ l.length - k ≤ f ∧ PP wr w.heap.size p ∧ propsGo f (l.drop k) p n k = V ∧ Below w.heap.size w wr) (fun _ i _ _ _ => l.length - (intOf i).toNat)
  case atStart => exact ⟨0, l.length, 0, ([], []), rfl, rfl, by omega, by omega, by omega, hP0, HV.out, hbel0⟩
  case round =>
    obtain ⟨k, f, n, p, rfl, rfl, hk, hn, hf, hP, hK, hbel⟩ := hrel
    have hsz := hbel.size
    by_cases hlt : k < l.length
    · obtain ⟨f', rfl⟩ : ∃ f', f = f' + 1 := ⟨f - 1, by omega⟩
      obtain ⟨b, o, rfl, hcell0⟩ := h (by omega)
      have hx : wr.cell? ⟨b, o + k, none⟩ = some (.int .u8 (l.getD k 0).toNat) := (hbel.cell (World.block_lt_of_cell? w _ (hcell0 k hlt))).trans (hcell0 k hlt)
      have hltb : decide ((k : Int) < l.length) = true := by simp; omega
      have hd := drop_cons l k hlt
      rw [hd, propsGo_cons, ← hd] at hK
      have hbaT := (h.below hbel).drop k hlc
      have hTl : (l.drop k).length = l.length - k := List.length_drop
      have hTk : 0 < (l.drop k).length := by omega
      have hix := fun W (hW : BA W (cutA (some ⟨b, o, none⟩) c k) (l.drop k)) => idxb_any (cutA (some ⟨b, o, none⟩) c k) (c - k) (l.drop k) 32 W hW hTk
      rw [wordB_idx] at hix
      have hwl := wordB_le (l.drop k)
      have hwt := wordB_take (l.drop k)
      have hsl1 := fun W => cut_from (P := Tryd.prog) 51 5 .i64 Tryd.underlying51 Tryd.sizeOf5 (some ⟨b, o, none⟩) l.length c k hk W
      rw [← hTl] at hsl1
      have hix := hix wr hbaT
      have hw1 : 1 ≤ (wordB (l.drop k)).length ∨ (l.getD k 0 ≠ 38 ∧ l.getD k 0 ≠ 33) := by
        rw [hd]
        by_cases e : l.getD k 0 = 32
        · rw [e]; exact .inr (by decide)
        · refine .inl ?_
          rw [wordB, List.takeWhile_cons_of_pos (by simpa using e)]
          simp
      have hsl2 := fun W => cut_to (P := Tryd.prog) 51 5 .i64 Tryd.underlying51 Tryd.sizeOf5 (cutA (some ⟨b, o, none⟩) c k) (l.drop k).length (c - k) (wordB (l.drop k)).length (by omega) W
      have hbaW := hbaT.take (wordB (l.drop k)).length
      rw [hwt] at hbaW
      have hcv := conv_str (P := Tryd.prog) wr 51 9 5 Tryd.underlying51 Tryd.underlying5 Tryd.underlying9 (cutA (some ⟨b, o, none⟩) c k) (c - k) (wordB (l.drop k)) hbaW
      have hadd := add_any w.heap.size p (wordB (l.drop k)) wr hP (by omega)
      have htd : (l.drop k).drop (wordB (l.drop k)).length = l.drop (k + (wordB (l.drop k)).length) := by rw [List.drop_drop]
      have hn1 : k + (wordB (l.drop k)).length ≤ l.length := by omega
      have hsl3 := fun W => cut_from (P := Tryd.prog) 51 5 .i64 Tryd.underlying51 Tryd.sizeOf5 (some ⟨b, o, none⟩) l.length c (k + (wordB (l.drop k)).length) hn1 W
      have hl3 : (l.drop (k + (wordB (l.drop k)).length)).length = l.length - (k + (wordB (l.drop k)).length) := List.length_drop
      rw [← hl3] at hsl3
      simp only [Int.natCast_add] at hsl3
      have htr := fun W (hW : Below w.heap.size w W) => triml_any (cutA (some ⟨b, o, none⟩) c (k + (wordB (l.drop k)).length)) (c - (k + (wordB (l.drop k)).length)) (l.drop (k + (wordB (l.drop k)).length)) W ((h.below hW).drop _ hlc) (by omega) (by omega)
      have hlb := leftB_le (l.drop (k + (wordB (l.drop k)).length))
      have hld := leftB_drop (l.drop (k + (wordB (l.drop k)).length))
      rw [List.drop_drop] at hld
      have hwhole : ¬ (wordB (l.drop k)).length < (l.drop k).length → wordB (l.drop k) = l.drop k := fun hh => by
        rw [← hwt, List.take_of_length_le (by omega)]
      rw [htd] at hK
      have HK := Lib.hid hK
      clear hK HV hbel0 hP0 htd hwt hbaW hd hcell0
      have HTL := Lib.hid hTl
      have HL3 := Lib.hid hl3
      have HLD := Lib.hid hld
      have HLB := Lib.hid hlb
      have HW1 := Lib.hid hw1
      have HWH := Lib.hid hwhole
      have HWL := Lib.hid hwl
      clear hTl hl3 hld hlb hw1 hwhole hwl hbaT h
      generalize leftB (l.drop (k + (wordB (l.drop k)).length)) = LB at *
      generalize l.drop (k + (wordB (l.drop k)).length) = D at *
      generalize wordB (l.drop k) = W at *
      generalize l.drop k = T at *
      generalize cutA (some ⟨b, o, none⟩) c k = A1 at *
      generalize cutA (some ⟨b, o, none⟩) c (k + W.length) = A3 at *
      generalize l.getD k 0 = x at *
      have ne_of : ∀ d : UInt8, ¬ x = d → ((x.toNat : Int) == d.toNat) = false := fun d hd => by
        simp only [beq_eq_false_iff_ne]
        intro e
        exact hd (UInt8.toNat_inj.1 (by omega))
      by_cases hx38 : x = 38 ∨ x = 33
      · have HK2 : Hid (V = match addB p W with
          | none => (([], []), 0, false)
          | some q => propsGo f' LB q (k + W.length) (k + T.length - LB.length)) := Lib.hid (by rw [← HK.out, if_pos hx38])
        have hw0 : 1 ≤ W.length := by
          rcases HW1.out with hh | hh
          · exact hh
          · exact absurd hx38 (not_or.2 hh)
        have tests : wr.cell? ⟨b, o + k, none⟩ = some (.int .u8 38) ∨ wr.cell? ⟨b, o + k, none⟩ = some (.int .u8 33) := by
          rcases hx38 with e | e
          · rw [e] at hx; exact .inl hx
          · rw [e] at hx; exact .inr hx
        clear HK hx hx38 ne_of HW1
        generalize addB p W = q at *
        rcases tests with hx | hx
        all_goals
          by_cases hwT : W.length < T.length
          · have hzb : decide ((0 : Int) ≤ W.length) = true := by simp
            rw [if_pos hwT] at hix
            clear hwT HWH
            go_wp2_with fail
            refine hix.mono ?_
            rintro e w' ⟨rfl, rfl⟩
            clear hix
            go_wp2_with fail
            refine hadd.mono ?_
            rintro e w2 ⟨rfl, hP2, hB2⟩
            have hbel2 : Below w.heap.size w w2 := hbel.trans (hB2 _ (Nat.le_refl _))
            have htr := htr w2 hbel2
            clear hadd hcv hsl1 hsl2 hx hB2 hP hbel
            cases q with
            | none =>
              have HF : Hid (V = (([], []), 0, false)) := HK2
              have hP2 : PP w2 w.heap.size p := hP2
              have hc0 := hP2.cell0
              have hc1 := hP2.cell1
              have hf0 := hP2.free 0
              have hf1 := hP2.free 1
              have hP3 := (hP2.set0 []).set1 []
              clear HK2 htr hsl3 hP2
              go_wp2
              refine bodyPost_ret (results_cell3 rfl _ _ w.heap.size _ _ _ _ rfl hP3 Tryd.underlying127 rfl info_pp) rfl ?_
              exact ⟨by rw [HF.out]; rfl, (hbel2.setCell (Nat.le_refl _) _).setCell (Nat.le_refl _) _⟩
            | some q =>
              have HK3 : Hid (V = propsGo f' LB q (k + W.length) (k + T.length - LB.length)) := HK2
              have hP2 : PP w2 w.heap.size q := hP2
              clear HK2
              go_wp2_with fail
              refine htr.mono ?_
              rintro e w' ⟨A4, c4, rfl, rfl⟩
              clear htr hsl3
              have hLBle : LB.length ≤ l.length := by
                have h1 := HL3.out
                have h2 := HLB.out
                omega
              go_wp2
              have htl := HTL.out
              have hl3 := HL3.out
              have hlb := HLB.out
              have hld := HLD.out
              go_roundw
              case rel =>
                refine ⟨l.length - LB.length, f', k + W.length, q, by go_num, ?_, by omega, by omega, by omega, hP2, ?_, hbel2⟩
                · congr 1
                  omega
                · rw [show l.length - LB.length = k + W.length + (D.length - LB.length) by omega, hld, show k + W.length + (D.length - LB.length) = k + T.length - LB.length by omega]
                  exact HK3.out.symm
              case measure => simp [intOf]; omega
          · have hzb : decide ((0 : Int) ≤ -1) = false := by decide
            rw [if_neg hwT] at hix
            have hWT := HWH.out hwT
            clear hwT HWH
            subst hWT
            go_wp2_with fail
            refine hix.mono ?_
            rintro e w' ⟨rfl, rfl⟩
            clear hix
            go_wp2_with fail
            refine hadd.mono ?_
            rintro e w2 ⟨rfl, hP2, hB2⟩
            have hbel2 : Below w.heap.size w w2 := hbel.trans (hB2 _ (Nat.le_refl _))
            have htr := htr w2 hbel2
            clear hadd hcv hsl1 hsl2 hx hB2 hP hbel
            cases q with
            | none =>
              have HF : Hid (V = (([], []), 0, false)) := HK2
              have hP2 : PP w2 w.heap.size p := hP2
              have hc0 := hP2.cell0
              have hc1 := hP2.cell1
              have hf0 := hP2.free 0
              have hf1 := hP2.free 1
              have hP3 := (hP2.set0 []).set1 []
              clear HK2 htr hsl3 hP2
              go_wp2
              refine bodyPost_ret (results_cell3 rfl _ _ w.heap.size _ _ _ _ rfl hP3 Tryd.underlying127 rfl info_pp) rfl ?_
              exact ⟨by rw [HF.out]; rfl, (hbel2.setCell (Nat.le_refl _) _).setCell (Nat.le_refl _) _⟩
            | some q =>
              have HK3 : Hid (V = propsGo f' LB q (k + W.length) (k + W.length - LB.length)) := HK2
              have hP2 : PP w2 w.heap.size q := hP2
              clear HK2
              go_wp2_with fail
              refine htr.mono ?_
              rintro e w' ⟨A4, c4, rfl, rfl⟩
              clear htr hsl3
              have hLBle : LB.length ≤ l.length := by
                have h1 := HL3.out
                have h2 := HLB.out
                omega
              go_wp2
              have htl := HTL.out
              have hl3 := HL3.out
              have hlb := HLB.out
              have hld := HLD.out
              go_roundw
              case rel =>
                refine ⟨l.length - LB.length, f', k + W.length, q, by go_num, ?_, by omega, by omega, by omega, hP2, ?_, hbel2⟩
                · congr 1
                  omega
                · rw [show l.length - LB.length = k + W.length + (D.length - LB.length) by omega, hld, show k + W.length + (D.length - LB.length) = k + W.length - LB.length by omega]
                  exact HK3.out.symm
              case measure => simp [intOf]; omega
      · have HF : Hid (V = (p, n, true)) := Lib.hid (by rw [← HK.out, if_neg hx38])
        have d1 : ((x.toNat : Int) == 38) = false := ne_of 38 (fun e => hx38 (.inl e))
        have d2 : ((x.toNat : Int) == 33) = false := ne_of 33 (fun e => hx38 (.inr e))
        clear HK hx38 ne_of hix hsl1 hsl2 hcv hadd hsl3 htr HW1 HWH
        have hc0 := hP.cell0
        have hc1 := hP.cell1
        have hf0 := hP.free 0
        have hf1 := hP.free 1
        have hs0 : wr.setCell ⟨w.heap.size, 0, none⟩ (.string ⟨p.1.toArray⟩) = wr := by
          rw [setCell_eq_setRow wr w.heap.size 0 _ _ _ _ hP]
          exact setRow_self wr w.heap.size _ _ _ hP
        have hs1 : wr.setCell ⟨w.heap.size, 1, none⟩ (.string ⟨p.2.toArray⟩) = wr := by
          rw [setCell_eq_setRow wr w.heap.size 1 _ _ _ _ hP]
          exact setRow_self wr w.heap.size _ _ _ hP
        go_wp2
        refine bodyPost_ret (results_cell3 rfl _ _ w.heap.size _ _ _ _ rfl hP Tryd.underlying127 rfl info_pp) rfl ?_
        exact ⟨by rw [HF.out]; rfl, hbel⟩
    · obtain rfl : k = l.length := by omega
      have HF : Hid (V = (p, n, true)) := Lib.hid (by
        rw [← hK, List.drop_length]
        cases f <;> rfl)
      have hltb : decide ((l.length : Int) < l.length) = false := by simp
      clear hK h HV hbel0 hP0
      have hc0 := hP.cell0
      have hc1 := hP.cell1
      have hf0 := hP.free 0
      have hf1 := hP.free 1
      have hs0 : wr.setCell ⟨w.heap.size, 0, none⟩ (.string ⟨p.1.toArray⟩) = wr := by
        rw [setCell_eq_setRow wr w.heap.size 0 _ _ _ _ hP]
        exact setRow_self wr w.heap.size _ _ _ hP
      have hs1 : wr.setCell ⟨w.heap.size, 1, none⟩ (.string ⟨p.2.toArray⟩) = wr := by
        rw [setCell_eq_setRow wr w.heap.size 1 _ _ _ _ hP]
        exact setRow_self wr w.heap.size _ _ _ hP
      go_wp2
      refine bodyPost_ret (results_cell3 rfl _ _ w.heap.size _ _ _ _ rfl hP Tryd.underlying127 rfl info_pp) rfl ?_
      exact ⟨by rw [HF.out]; rfl, hbel⟩
end Go.Proofs.YtmindclciogneaaDoor
