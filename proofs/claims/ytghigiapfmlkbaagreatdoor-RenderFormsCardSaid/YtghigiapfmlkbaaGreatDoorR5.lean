/- iso.Canon. -/
import Derived.Test.YtghigiapfmlkbaaGreatDoorR4
import Derived.Deep.AppendLies
import Derived.Deep.RegionLaw
namespace Go.Proofs.YtghigiapfmlkbaaGreatDoor
open Go.RowKit
attribute [local go_sem ↓] Go.wp_at_zero Go.wp_at_succ

theorem order_lt (g : List Th) (hk : ∀ t ∈ g, ∀ k ∈ t.kids, k < g.length) : ∀ (f : Nat) (st out : List Nat), (∀ k ∈ st, k < g.length) → (∀ k ∈ out, k < g.length) → ∀ k ∈ orderGo g f st out, k < g.length := by
  intro f
  induction f with
  | zero => intro st out _ h2; exact h2
  | succ f ih =>
    intro st out h1 h2
    cases st with
    | nil => exact h2
    | cons i rest =>
      rw [orderGo]
      have hi : i < g.length := h1 i (by simp)
      split
      · exact ih _ _ (fun k hk => h1 k (by simp [hk])) h2
      · refine ih _ _ (fun k hk2 => ?_) (fun k hk2 => ?_)
        · rcases List.mem_append.1 hk2 with h | h
          · refine hk _ ?_ k h
            rw [List.getD_eq_getElem?_getD, List.getElem?_eq_getElem hi]
            exact List.getElem_mem hi
          · exact h1 k (by simp [h])
        · rcases List.mem_append.1 hk2 with h | h
          · exact h2 k h
          · simp at h; omega
theorem order_len (g : List Th) : ∀ (f : Nat) (st out : List Nat), (orderGo g f st out).length ≤ f + out.length := by
  intro f
  induction f with
  | zero => intro st out; simp [orderGo]
  | succ f ih =>
    intro st out
    cases st with
    | nil => simp [orderGo]
    | cons i rest =>
      rw [orderGo]
      split
      · have := ih rest out; omega
      · have := ih ((g.getD i ⟨0, [], [], []⟩).kids ++ rest) (out ++ [i])
        simp at this ⊢
        omega
/-- The numbers behind k things. -/
def numTo (n : Nat) (l : List Nat) (k : Nat) : List Nat := (l.take k).zipIdx.foldl (fun acc p => acc.set p.1 p.2) (List.replicate n 0)
theorem numTo_step (n : Nat) (l : List Nat) (k : Nat) (hk : k < l.length) : numTo n l (k + 1) = (numTo n l k).set (l.getD k 0) k := by
  unfold numTo
  rw [List.take_succ_eq_append_getElem hk, List.zipIdx_append, List.foldl_append]
  simp [List.length_take, Nat.min_eq_left (Nat.le_of_lt hk), List.getD_eq_getElem?_getD, List.getElem?_eq_getElem hk]
theorem foldl_len : ∀ (ps : List (Nat × Nat)) (a : List Nat), (ps.foldl (fun acc p => acc.set p.1 p.2) a).length = a.length
  | [], _ => rfl
  | p :: ps, a => by rw [List.foldl_cons, foldl_len ps]; simp
theorem numTo_len (n : Nat) (l : List Nat) (k : Nat) : (numTo n l k).length = n := by
  unfold numTo
  rw [foldl_len]
  simp
theorem numM_len (n : Nat) (l : List Nat) : (numM n l).length = n := by
  unfold numM
  rw [foldl_len]
  simp
/-- Kids, of which n are turned. -/
def turned (f : Nat → Nat) (ks : List Nat) (n : Nat) : List Nat := (ks.take n).map f ++ ks.drop n
theorem turned_len (f : Nat → Nat) (ks : List Nat) (n : Nat) (hn : n ≤ ks.length) : (turned f ks n).length = ks.length := by
  simp [turned]; omega
theorem turned_get (f : Nat → Nat) (ks : List Nat) (n : Nat) (hn : n < ks.length) : (turned f ks n)[n]? = some (ks.getD n 0) := by
  unfold turned
  have e : ((ks.take n).map f).length = n := by simp; omega
  rw [List.getElem?_append_right (by omega), e, Nat.sub_self, List.getElem?_drop]
  simp [List.getD_eq_getElem?_getD, List.getElem?_eq_getElem hn]
theorem turned_set (f : Nat → Nat) (ks : List Nat) (n : Nat) (hn : n < ks.length) : (turned f ks n).set n (f (ks.getD n 0)) = turned f ks (n + 1) := by
  unfold turned
  have e : ((ks.take n).map f).length = n := by simp; omega
  rw [List.set_append_right _ _ (by omega), e, Nat.sub_self, List.drop_eq_getElem_cons hn, List.set_cons_zero, List.take_succ_eq_append_getElem hn, List.map_append, List.append_assoc]
  simp [List.getD_eq_getElem?_getD, List.getElem?_eq_getElem hn]
theorem turned_zero (f : Nat → Nat) (ks : List Nat) : turned f ks 0 = ks := by simp [turned]
theorem turned_all (f : Nat → Nat) (ks : List Nat) (n : Nat) (hn : ks.length ≤ n) : turned f ks n = ks.map f := by
  unfold turned
  rw [List.take_of_length_le hn, List.drop_of_length_le hn, List.append_nil]

set_option maxRecDepth 100000 in
set_option maxHeartbeats 4000000 in
theorem canon_any (vg : Value) (g : List Th) (w : World) (hg : GR w vg g) (hk : ∀ t ∈ g, ∀ k ∈ t.kids, k < g.length) (hl : g.length ≤ 1000000) (hsum : kidsSum g ≤ 1000000) :
    Calls Tryz.prog 55 #[vg] w fun e w' => ∃ v l, e = .returned v ∧ OutAt w' w.heap.size v l ∧ l.map (·.1) = canonM g ∧ Below w.heap.size w w' := by
  obtain ⟨A, c, rfl⟩ := hg.shape
  by_cases h0 : g = []
  · subst h0
    go_enter Tryz.func55, Tryz.ntmps55
    go_wp2_with fail
    go_ret
    exact ⟨_, [], rfl, OutAt.nil _ _, rfl, Below.refl _ _⟩
  have hgl : 0 < g.length := List.length_pos_iff.2 h0
  obtain ⟨L, hL⟩ : ∃ L, orderM g = L := ⟨_, rfl⟩
  have hLlt : ∀ k ∈ L, k < g.length := by
    rw [← hL]
    exact order_lt g hk _ _ _ (fun k hk => by simp at hk; omega) (fun k hk => by cases hk)
  have hLlen : L.length ≤ 2000001 := by
    rw [← hL]
    have := order_len g (kidsSum g + g.length + 1) [0] []
    have e : orderM g = orderGo g (kidsSum g + g.length + 1) [0] [] := rfl
    rw [e]
    simp at this
    omega
  obtain ⟨CN, hCN⟩ : ∃ CN, canonM g = CN := ⟨_, rfl⟩
  have HCN : Hid (CN = L.map (canonOf g (numM g.length L))) := Lib.hid (by rw [← hCN]; unfold canonM; rw [if_neg h0, hL])
  rw [hCN]
  clear hCN
  have co := order_any _ g w hg hgl hk hl hsum
  rw [hL] at co
  have HG := Lib.hid hg
  have HK := Lib.hid hk
  have HLT := Lib.hid hLlt
  obtain ⟨i0, hz, hz0, hz1, hz2⟩ := info_parts info_int
  have hmk : ∀ W : World, (Instr.makeSlice 23 (.int .i64 (g.length : Int)) (.int .i64 (g.length : Int))).run Tryz.prog W = .ok (.slice (some ⟨W.heap.size, 0, none⟩) g.length g.length) (W.alloc (.cells (madeCells #[.int .i64 0] g.length) 3)) := fun W => by
    have := run_make (P := Tryz.prog) W 23 3 i0 (.int .i64 0) Tryz.underlying23 hz hz0 .i64 .i64 (g.length : Int) (g.length : Int) (by omega) (Int.le_refl _) (by rw [hz2]; omega) (by omega)
    rw [hz1] at this
    simp only [Int.toNat_natCast, Nat.mul_one] at this
    exact this
  have hgb : ((g.length : Int) == 0) = false := by simp; omega
  clear hL hg hk hLlt hz hz0 hz1 hz2 h0
  go_enter Tryz.func55, Tryz.ntmps55
  go_wp2_with fail
  refine co.mono ?_
  rintro e w1 ⟨v1, rfl, hV1, hb1⟩
  clear co
  have hN0 := NumAt.made w1 g.length
  have hV2 := hV1.below ((Below.refl _ _).alloc (Nat.le_refl _) (.cells (madeCells #[.int .i64 0] g.length) 3))
  have hb2 := hb1.alloc hb1.size (.cells (madeCells #[.int .i64 0] g.length) 3)
  have hVN : v1.ownBlock ≠ some w1.heap.size := fun e => by have := (hV1.at _ e).2; omega
  have hNw := hb1.size
  obtain ⟨A1, c1, rfl⟩ := hV1.shape
  have hN1 : NumAt (w1.alloc (.cells (madeCells #[.int .i64 0] g.length) 3)) w1.heap.size (numTo g.length L 0) := hN0
  go_wp2_with fail
  clear hmk hN0 hV1 hb1
  generalize w1.alloc _ = w2 at hN1 hV2 hb2 ⊢
  generalize w1.heap.size = N at hN1 hVN hNw ⊢
  go_loopw [23] (fun i wr => ∃ k : Nat, i = .int .i64 k ∧ k ≤ L.length ∧ NumAt wr N (numTo g.length L k) ∧ KRow wr w.heap.size (.slice A1 L.length c1) L ∧ Below w.heap.size w wr) (fun i _ => L.length - (intOf i).toNat)
  case atStart => exact ⟨0, rfl, Nat.zero_le _, hN1, hV2, hb2⟩
  case round =>
    obtain ⟨k, rfl, hk, hN, hV, hbw⟩ := hrel
    clear hN1 hV2 hb2
    by_cases hlt : k < L.length
    · obtain ⟨g5, cap5, hA5, hc5, hcl5⟩ := own_cells hV (by omega)
      cases hA5
      have hq : wr.cell? ⟨g5, k, none⟩ = some (.int .i64 (L.getD k 0 : Nat)) := by
        rw [hcl5 k (by omega), List.getElem?_map, List.getElem?_eq_getElem hlt]
        simp [List.getD_eq_getElem?_getD, List.getElem?_eq_getElem hlt]
      have hki : L.getD k 0 < g.length := HLT.out _ (by rw [List.getD_eq_getElem?_getD, List.getElem?_eq_getElem hlt]; exact List.getElem_mem hlt)
      have HST := Lib.hid (numTo_step g.length L k hlt)
      generalize L.getD k 0 = i at *
      have hki2 : (i : Int) < g.length := by omega
      have hk2 : (k : Int) < L.length := by omega
      have hcl := hN.cell i (by rw [numTo_len]; exact hki)
      have hfr := hN.free i
      have hN2 := hN.set i k
      rw [← HST.out] at hN2
      have hV3 := KRow.other hV (a := ⟨N, i, none⟩) hVN (.int .i64 (k : Nat))
      have hb3 : Below w.heap.size w (wr.setCell ⟨N, i, none⟩ (.int .i64 (k : Nat))) := hbw.setCell hNw _
      have HN2 := Lib.hid hN2
      have HV3 := Lib.hid hV3
      clear hcl5 hN hV hbw hN2 hV3
      go_wp2
      go_roundw
      case rel => exact ⟨k + 1, by go_num, by omega, HN2.out, HV3.out, hb3⟩
      case measure => simp [intOf]; omega
    · have hke : numTo g.length L k = numM g.length L := by
        unfold numTo numM
        rw [List.take_of_length_le (by omega)]
      rw [hke] at hN
      have hge : (L.length : Int) ≤ k := by omega
      clear hke
      have HNL := Lib.hid (numM_len g.length L)
      generalize numM g.length L = NU at hN HCN HNL
      obtain ⟨w3, rfl⟩ : ∃ w3 : World, w3 = wr := ⟨_, rfl⟩
      have hN3 := hN.lt
      have HN := Lib.hid hN
      have HV := Lib.hid hV
      clear hN hV
      go_wp2_with fail
      have hNwL : ∀ k, (Value.slice A1 L.length c1).ownBlock = some k → k < w3.heap.size := fun k hk => (HV.out.at k hk).2
      have hw3 := hbw.size
      have hCNl : CN.length = L.length := by rw [HCN.out, List.length_map]
      go_loopw [35, 7] (fun i o wr => ∃ (k : Nat) (l : List (Th × Value)), i = .int .i64 k ∧ k ≤ L.length ∧ OutAt wr w3.heap.size o l ∧ l.map (·.1) = CN.take k ∧ Below w3.heap.size w3 wr) (fun i _ _ => L.length - (intOf i).toNat)
      case atStart => exact ⟨0, [], rfl, Nat.zero_le _, OutAt.nil _ _, by simp, Below.refl _ _⟩
      case round =>
        obtain ⟨k, l, rfl, hk, hO, hml, hb⟩ := hrel
        have hll : l.length = k := by
          have := congrArg List.length hml
          rw [List.length_map, List.length_take, hCNl, Nat.min_eq_left hk] at this
          exact this
        by_cases hlt : k < L.length
        · have hgt := HLT.out _ (show L.getD k 0 ∈ L by rw [List.getD_eq_getElem?_getD, List.getElem?_eq_getElem hlt]; exact List.getElem_mem hlt)
          have HCK : Hid (CN.take (k + 1) = CN.take k ++ [canonOf g NU (L.getD k 0)]) := Lib.hid (by
            rw [List.take_succ_eq_append_getElem (by omega)]
            congr 2
            simp only [HCN.out, List.getElem_map]
            simp [List.getD_eq_getElem?_getD, List.getElem?_eq_getElem hlt])
          have hV := HV.out.below hb
          obtain ⟨g5, cap5, hA5, hc5, hcl5⟩ := own_cells hV (by omega)
          cases hA5
          have hq : wr.cell? ⟨g5, k, none⟩ = some (.int .i64 (L.getD k 0 : Nat)) := by
            rw [hcl5 k (by omega), List.getElem?_map, List.getElem?_eq_getElem hlt]
            simp [List.getD_eq_getElem?_getD, List.getElem?_eq_getElem hlt]
          generalize L.getD k 0 = i at *
          obtain ⟨t, ht⟩ : ∃ t, g[i]? = some t := ⟨_, List.getElem?_eq_getElem hgt⟩
          have HCO : Hid (canonOf g NU i = ⟨t.kind, t.tag, t.value, t.kids.map fun k => NU.getD k 0⟩) := Lib.hid (by
            unfold canonOf
            rw [List.getD_eq_getElem?_getD, ht]
            rfl)
          have hkt := HK.out t (List.mem_of_getElem? ht)
          have hks := kids_le ht
          have hbwr := hbw.trans (hb.mono hw3)
          rcases HG.out.below hbwr with ⟨h00, _⟩ | ⟨bg, cb, hv, hcb, htr⟩
          · rw [h00] at hgt; simp at hgt
          · cases hv
            obtain ⟨kv, hcl, hkr⟩ := htr i t ht
            obtain ⟨A2, c2, rfl⟩ := hkr.shape
            have q0 : wr.cell? ⟨bg, i * 4, none⟩ = some (.int .i64 t.kind) := hcl 0 (by omega)
            have q1 : wr.cell? ⟨bg, i * 4 + 1, none⟩ = some (.string ⟨t.tag.toArray⟩) := hcl 1 (by omega)
            have q2 : wr.cell? ⟨bg, i * 4 + 2, none⟩ = some (.string ⟨t.value.toArray⟩) := hcl 2 (by omega)
            have q3 : wr.cell? ⟨bg, i * 4 + 3, none⟩ = some (.slice A2 t.kids.length c2) := hcl 3 (by omega)
            have hki : (i : Int) < g.length := by omega
            have hk2 : (k : Int) < L.length := by omega
            have hkr1 := hkr.below ((Below.refl _ _).alloc (Nat.le_refl _) (.cells #[.int .i64 t.kind, .string ⟨t.tag.toArray⟩, .string ⟨t.value.toArray⟩, .slice A2 t.kids.length c2] 25))
            have hT1 : (wr.alloc (.cells #[.int .i64 t.kind, .string ⟨t.tag.toArray⟩, .string ⟨t.value.toArray⟩, .slice A2 t.kids.length c2] 25)).heap[wr.heap.size]? = some (.cells #[.int .i64 t.kind, .string ⟨t.tag.toArray⟩, .string ⟨t.value.toArray⟩, .slice A2 t.kids.length c2] 25 (0, 0)) := heap_alloc_new _ _
            have hT13 : (wr.alloc (.cells #[.int .i64 t.kind, .string ⟨t.tag.toArray⟩, .string ⟨t.value.toArray⟩, .slice A2 t.kids.length c2] 25)).cell? ⟨wr.heap.size, 3, none⟩ = some (.slice A2 t.kids.length c2) := by rw [cell_of_row _ _ _ _ _ (0, 0) hT1]; rfl
            have hbs1 : Below wr.heap.size wr (wr.alloc (.cells #[.int .i64 t.kind, .string ⟨t.tag.toArray⟩, .string ⟨t.value.toArray⟩, .slice A2 t.kids.length c2] 25)) := (Below.refl _ _).alloc (Nat.le_refl _) _
            have HO := Lib.hid hO
            have HML := Lib.hid hml
            clear htr hcl hkr hcl5 hV hO hml
            go_wp2_with fail
            clear q0 q1 q2 q3 hq
            generalize wr.alloc _ = w4 at hkr1 hT1 hT13 hbs1 ⊢
            refine (clone_any _ t.kids w4 hkr1 (by omega)).mono ?_
            rintro e w5 ⟨u, rfl, hu, hb5⟩
            have hT5 := (hb5.block wr.heap.size (lt_of_block hT1)).trans hT1
            have hs4 : wr.heap.size < w4.heap.size := lt_of_block hT1
            have hul : ∀ k, u.ownBlock = some k → w4.heap.size ≤ k := fun k hk => (hu.at k hk).1
            have hbs5 : Below wr.heap.size wr w5 := hbs1.trans (hb5.mono (by omega))
            obtain ⟨A5, c5, rfl⟩ := hu.shape
            have hT6 : (w5.setCell ⟨wr.heap.size, 3, none⟩ (.slice A5 t.kids.length c5)).heap[wr.heap.size]? = some (.cells #[.int .i64 t.kind, .string ⟨t.tag.toArray⟩, .string ⟨t.value.toArray⟩, .slice A5 t.kids.length c5] 25 (0, 0)) := by
              rw [heap_setCell_same _ _ _ _ _ _ hT5]; rfl
            have hT63 : (w5.setCell ⟨wr.heap.size, 3, none⟩ (.slice A5 t.kids.length c5)).cell? ⟨wr.heap.size, 3, none⟩ = some (.slice A5 t.kids.length c5) := by rw [cell_of_row _ _ _ _ _ (0, 0) hT6]; rfl
            have hT53 : w5.cell? ⟨wr.heap.size, 3, none⟩ = some (.slice A2 t.kids.length c2) := by rw [cell_of_row _ _ _ _ _ (0, 0) hT5]; rfl
            have hfr5 : w5.frozen? ⟨wr.heap.size, 3, none⟩ = false := by simp [World.frozen?, hT5]
            have hbs6 : Below wr.heap.size wr (w5.setCell ⟨wr.heap.size, 3, none⟩ (.slice A5 t.kids.length c5)) := hbs5.setCell (Nat.le_refl _) _
            have hne5 : (Value.slice A5 t.kids.length c5).ownBlock ≠ some wr.heap.size := fun e => by have := hul _ e; omega
            have hu6 := (KRow.other hu (a := ⟨wr.heap.size, 3, none⟩) hne5 (.slice A5 t.kids.length c5)).less (B2 := wr.heap.size) (by omega)
            clear hu hT5 hbs5 hkr1 hT1 hT13 hbs1
            go_wp2_with fail
            obtain ⟨wo, rfl⟩ : ∃ wo : World, wo = wr := ⟨_, rfl⟩
            have HR := Lib.hid (And.intro hT6 (And.intro hu6 hbs6))
            clear hT6 hT63 hT53 hfr5 hu6 hbs6
            generalize w5.setCell _ _ = w6 at HR ⊢
            go_loopw [50] (fun q wi => ∃ n : Nat, q = .int .i64 n ∧ n ≤ t.kids.length ∧ wi.heap[wo.heap.size]? = some (.cells #[.int .i64 t.kind, .string ⟨t.tag.toArray⟩, .string ⟨t.value.toArray⟩, .slice A5 t.kids.length c5] 25 (0, 0)) ∧ KRow wi wo.heap.size (.slice A5 t.kids.length c5) (turned (fun k => NU.getD k 0) t.kids n) ∧ Below wo.heap.size wo wi) (fun q _ => t.kids.length - (intOf q).toNat)
            case atStart => exact ⟨0, rfl, Nat.zero_le _, HR.out.1, by rw [turned_zero]; exact HR.out.2.1, HR.out.2.2⟩
            case round =>
              obtain ⟨n, rfl, hn, hT, hU, hbi⟩ := hrel
              clear HR
              have hnl := turned_len (fun k => NU.getD k 0) t.kids n hn
              have r0 : wr.cell? ⟨wo.heap.size, 0, none⟩ = some (.int .i64 t.kind) := by rw [cell_of_row _ _ _ _ _ (0, 0) hT]; rfl
              have r1 : wr.cell? ⟨wo.heap.size, 1, none⟩ = some (.string ⟨t.tag.toArray⟩) := by rw [cell_of_row _ _ _ _ _ (0, 0) hT]; rfl
              have r2 : wr.cell? ⟨wo.heap.size, 2, none⟩ = some (.string ⟨t.value.toArray⟩) := by rw [cell_of_row _ _ _ _ _ (0, 0) hT]; rfl
              have r3 : wr.cell? ⟨wo.heap.size, 3, none⟩ = some (.slice A5 t.kids.length c5) := by rw [cell_of_row _ _ _ _ _ (0, 0) hT]; rfl
              by_cases hnn : n < t.kids.length
              · obtain ⟨g6, cap6, hA6, hc6, hcl6⟩ := own_cells hU (by omega)
                rw [hnl] at hA6
                cases hA6
                have hkid := hkt (t.kids.getD n 0) (by rw [List.getD_eq_getElem?_getD, List.getElem?_eq_getElem hnn]; exact List.getElem_mem hnn)
                have hkc : wr.cell? ⟨g6, n, none⟩ = some (.int .i64 (t.kids.getD n 0 : Nat)) := by
                  rw [hcl6 n (by omega), List.getElem?_map, turned_get _ _ _ hnn]
                  rfl
                have hNUl : NU.length = g.length := HNL.out
                have hncell := ((HN.out.kept (below_grown hb) (by simp)).kept (below_grown hbi) (by simp)).cell (t.kids.getD n 0) (by omega)
                have hset := turned_set (fun k => NU.getD k 0) t.kids n hnn
                have hset2 := congrArg (List.map fun k : Nat => Value.int .i64 (k : Int)) hset
                rw [List.map_set] at hset2
                have hU0 := hU
                rw [KRow, hnl] at hU
                obtain ⟨hst, hsg⟩ := World.ownsRow.stored hU n (.int .i64 (NU.getD (t.kids.getD n 0) 0 : Nat))
                rw [hset2] at hst
                have hg6 : wo.heap.size ≤ g6 := (hU0.at g6 rfl).1
                have hg6n : g6 ≠ wo.heap.size := fun e => by
                  subst e
                  obtain ⟨_, ⟨h1, _⟩ | ⟨g', cap', cur, h1, _, h2, _⟩⟩ := hU
                  · cases h1
                  · cases h1
                    rw [h2] at hT
                    simp at hT
                have hfr6 : wr.frozen? ⟨g6, n, none⟩ = false := World.ownsRow.frozenAt hU n
                have hkid2 : (t.kids.getD n 0 : Int) < g.length := by omega
                have hn2 : (n : Int) < t.kids.length := by omega
                have HST := Lib.hid (World.ownsRow.drew hst)
                have HT := Lib.hid hT
                have hbi7 : Below wo.heap.size wo (wr.drew.setCell ⟨g6, n, none⟩ (.int .i64 (NU.getD (t.kids.getD n 0) 0 : Nat))) := (bdrew hbi).setCell hg6 _
                generalize NU.getD (t.kids.getD n 0) 0 = nv at *
                generalize t.kids.getD n 0 = kid at *
                have e1 : wr.drew.cell? ⟨wo.heap.size, 3, none⟩ = some (.slice (some ⟨g6, 0, none⟩) t.kids.length c5) := r3
                have e2 : wr.drew.cell? ⟨N, kid, none⟩ = some (.int .i64 (nv : Nat)) := hncell
                have e3 : wr.drew.cell? ⟨g6, n, none⟩ = some (.int .i64 (kid : Nat)) := hkc
                have e4 : wr.drew.frozen? ⟨g6, n, none⟩ = false := hfr6
                clear hU hU0 hcl6 hset hset2 hst hsg hT hbi r0 r1 r2
                go_wp2
                go_region
                all_goals
                  go_wp2
                  go_roundw
                  case rel =>
                    refine ⟨n + 1, by go_num, by omega, (heap_setCell_other _ _ _ _ (Ne.symm hg6n)).trans HT.out, ?_, hbi7⟩
                    have hl8 := turned_len (fun k => NU.getD k 0) t.kids (n + 1) (by omega)
                    rw [KRow, hl8]
                    exact HST.out
                  case measure => simp [intOf]; omega
              · have hge2 : (t.kids.length : Int) ≤ n := by omega
                rw [turned_all _ _ _ (by omega)] at hU
                have hO9 := HO.out.below hbi
                have hUl : ∀ k, (Value.slice A5 t.kids.length c5).ownBlock = some k → wo.heap.size ≤ k := fun k hk => (hU.at k hk).1
                have hw39 : w3.heap.size ≤ wo.heap.size := hb.size
                have hwo9 := hbi.size
                obtain ⟨i1, ty0, ty1, ty2, ty3⟩ := info_parts info_thing
                obtain ⟨A9, c9, rfl⟩ := HO.out.shape
                rw [hll] at hO9 ⊢
                have hUa := hU.below ((Below.refl _ _).alloc (Nat.le_refl _) (.cells #[.int .i64 t.kind, .string ⟨t.tag.toArray⟩, .string ⟨t.value.toArray⟩, .slice A5 t.kids.length c5] 25))
                have hOa := hO9.alloc (.cells #[.int .i64 t.kind, .string ⟨t.tag.toArray⟩, .string ⟨t.value.toArray⟩, .slice A5 t.kids.length c5] 25)
                have hrow := hOa.row
                rw [hll] at hrow
                have hba := hb.trans ((hbi.mono (Nat.le_refl _)).mono hw39)
                have HR0 := Lib.hid hT
                clear hT hU
                go_wp2_with (at_builtin; refine wpList_append_own _ rfl _ _ 28 rfl w3.heap.size 25 i1 _ 4 64 Tryz.underlying28 ty0 ty1 ty2 ty3 rfl (by decide) _ k (flatT l) rfl hrow ⟨wr.heap.size, 0, none⟩ 1 1 (thCells ⟨t.kind, t.tag, t.value, t.kids.map fun k => NU.getD k 0⟩ (.slice A5 t.kids.length c5)) rfl rfl (World.news_of_block (cs := #[.int .i64 t.kind, .string ⟨t.tag.toArray⟩, .string ⟨t.value.toArray⟩, .slice A5 t.kids.length c5]) (t := 25) (fr := (0, 0)) (heap_alloc_new wr _)) (by simp [thCells, Value.oneCell']) (by unfold maxLen; omega) (by omega) (by simp; omega) ?_)
                intro v' w8 hown8 hgrow8 _
                have hO8 : OutAt w8 w3.heap.size v' (l ++ [(⟨t.kind, t.tag, t.value, t.kids.map fun k => NU.getD k 0⟩, .slice A5 t.kids.length c5)]) :=
                  OutAt.snoc (p := (⟨t.kind, t.tag, t.value, t.kids.map fun k => NU.getD k 0⟩, .slice A5 t.kids.length c5)) hOa (KRow.less hUa hw39) (fun p hp b hpb e => by
                    have h1 := (World.ownsRow.lt (HO.out.kids p hp) b hpb).2
                    have h2 := hUl b e
                    omega) hgrow8 (by rw [hll]; exact hown8)
                have hb8 : Below w3.heap.size w3 w8 := below_row (hba.alloc (by omega) _) (by simp; omega) hgrow8 (fun k hk => by
                  have := (World.ownsRow.lt hrow k hk).1
                  omega)
                obtain ⟨A8, c8, rfl⟩ := hO8.shape
                have HO8 := Lib.hid hO8
                clear hO8 hown8 hgrow8 hUa hOa hrow hO9 hba r0 r1 r2 r3
                go_wp2
                go_roundw
                case rel =>
                  refine ⟨k + 1, l ++ [(⟨t.kind, t.tag, t.value, t.kids.map fun k => NU.getD k 0⟩, .slice A5 t.kids.length c5)], by go_num, by omega, HO8.out, ?_, hb8⟩
                  rw [List.map_append, HML.out, HCK.out, HCO.out]
                  rfl
                case measure => simp [intOf]; omega
        · have hge3 : (L.length : Int) ≤ k := by omega
          have hml2 : l.map (·.1) = CN := by rw [hml, List.take_of_length_le (by omega)]
          have hOf := OutAt.less hO hw3
          have HM2 := Lib.hid hml2
          have HOf := Lib.hid hOf
          have hbf := hbw.trans (hb.mono hw3)
          obtain ⟨A9, c9, rfl⟩ := hO.shape
          clear hO hml hml2 hOf
          go_wp2
          go_ret
          exact ⟨_, l, rfl, HOf.out, HM2.out, hbf⟩
end Go.Proofs.YtghigiapfmlkbaaGreatDoor
