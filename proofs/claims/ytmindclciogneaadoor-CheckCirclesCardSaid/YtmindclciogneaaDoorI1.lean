/- What single.Take does. -/
import Derived.Test.YtmindclciogneaaDoorD4
import Derived.Test.YtmindclciogneaaDoorMI
namespace Go.Proofs.YtmindclciogneaaDoor
open Go.RowKit

theorem singleGo_cons (f : Nat) (c : UInt8) (t out : Bs) (i : Nat) : singleGo (f + 1) (c :: t) out i =
    if c = 10 ∨ c = 13 then ([], 0, false)
    else if c ≠ 39 then singleGo f t (out ++ [c]) (i + 1)
    else match t with
      | [] => (out, i + 1, true)
      | d :: u => if d = 39 then singleGo f u (out ++ [39]) (i + 2) else (out, i + 1, true) := rfl
set_option maxRecDepth 20000 in
set_option maxHeartbeats 1000000 in
theorem takeS_in (b o c : Nat) (l : Bs) (w : World) (h : BA w (some ⟨b, o, none⟩) l) (_hlc : l.length ≤ c) (hl : l.length ≤ 1000000000) (hl0 : 0 < l.length) (hx : w.cell? ⟨b, o, none⟩ = some (.int .u8 39)) (V : Bs × Nat × Bool) (HT : Hid (singleGo (l.length - 1) (l.drop 1) [] 1 = V)) :
    Calls Tryd.prog 153 #[.slice (some ⟨b, o, none⟩) l.length c] w fun e w' => e = .returned (.tuple #[.string ⟨V.1.toArray⟩, .int .i64 V.2.1, .bool V.2.2]) ∧ Below w.heap.size w w' := by
  have hcell : ∀ i, i < l.length → w.cell? ⟨b, o + i, none⟩ = some (.int .u8 (l.getD i 0).toNat) := by
    obtain ⟨b', o', e, hc⟩ := h hl0
    simp only [Option.some.injEq, Addr.mk.injEq, and_true] at e
    obtain ⟨rfl, rfl⟩ := e
    exact hc
  have hxlt := World.block_lt_of_cell? w _ hx
  have hne : (((l.length : Nat) : Int) == 0) = false := by simp only [beq_eq_false_iff_ne]; omega
  clear h
  go_enter Tryd.func153, Tryd.ntmps153
  go_wp2
  clear hx
  go_loopw [5, 6] (fun v i wr => ∃ (k f : Nat) (out : Bs), i = .int .i64 k ∧ 1 ≤ k ∧ k ≤ l.length ∧ l.length - k ≤ f ∧ out.length ≤ k ∧ OB wr w.heap.size v out ∧ singleGo f (l.drop k) out k = V ∧ Below w.heap.size w wr) (fun _ i _ => l.length - (intOf i).toNat)
  case atStart => exact ⟨1, l.length - 1, [], rfl, by omega, by omega, by omega, by simp, OB.nil _ _, HT.out, Below.refl _ _⟩
  case round =>
    obtain ⟨k, f, out, rfl, hk1, hk, hf, hol, hob, hK, hbel⟩ := hrel
    have hsz : w.heap.size ≤ wr.heap.size := hbel.size
    obtain ⟨i0, hi, hz0, hz1, hz2⟩ := info_parts info_u8
    by_cases hlt : k < l.length
    · obtain ⟨f', rfl⟩ : ∃ f', f = f' + 1 := ⟨f - 1, by omega⟩
      have hx : wr.cell? ⟨b, o + k, none⟩ = some (.int .u8 (l.getD k 0).toNat) := (hbel.cell hxlt).trans (hcell k hlt)
      have hx2 : k + 1 < l.length → wr.cell? ⟨b, o + (k + 1), none⟩ = some (.int .u8 (l.getD (k + 1) 0).toNat) := fun h2 => (hbel.cell hxlt).trans (hcell (k + 1) h2)
      rw [drop_cons l k hlt, singleGo_cons] at hK
      have hltb : decide ((k : Int) < l.length) = true := by simp; omega
      have HK := Lib.hid hK
      clear hK hcell HT hne
      generalize l.getD k 0 = x at *
      by_cases c1 : x = 10
      · subst c1
        have hx : wr.cell? ⟨b, o + k, none⟩ = some (.int .u8 10) := hx
        have HF : Hid (V = ([], 0, false)) := Lib.hid (by rw [← HK.out]; rfl)
        clear HK hx2 hi hz0 hz1 hz2
        go_wp2
        go_ret3
        exact ⟨by rw [HF.out]; rfl, hbel⟩
      · by_cases c2 : x = 13
        · subst c2
          have hx : wr.cell? ⟨b, o + k, none⟩ = some (.int .u8 13) := hx
          have HF : Hid (V = ([], 0, false)) := Lib.hid (by rw [← HK.out]; rfl)
          clear HK hx2 hi hz0 hz1 hz2
          go_wp2
          go_ret3
          exact ⟨by rw [HF.out]; rfl, hbel⟩
        · by_cases c3 : x = 39
          · subst c3
            have hx : wr.cell? ⟨b, o + k, none⟩ = some (.int .u8 39) := hx
            have HK2 : Hid (V = match l.drop (k + 1) with
              | [] => (out, k + 1, true)
              | d :: u => if d = 39 then singleGo f' u (out ++ [39]) (k + 2) else (out, k + 1, true)) := Lib.hid (by rw [← HK.out]; rfl)
            clear HK c1 c2
            by_cases h2 : k + 1 < l.length
            · have hx2 := hx2 h2
              have h2b : decide ((k : Int) + 1 < l.length) = true := by simp; omega
              have HK3 : Hid (V = if l.getD (k + 1) 0 = 39 then singleGo f' (l.drop (k + 2)) (out ++ [39]) (k + 2) else (out, k + 1, true)) := Lib.hid (by rw [HK2.out, drop_cons l (k + 1) h2])
              clear HK2
              generalize l.getD (k + 1) 0 = y at *
              by_cases c4 : y = 39
              · subst c4
                have hx2 : wr.cell? ⟨b, o + (k + 1), none⟩ = some (.int .u8 39) := hx2
                have HF : Hid (singleGo f' (l.drop (k + 2)) (out ++ [39]) (k + 2) = V) := Lib.hid (by rw [HK3.out, if_pos rfl])
                have hown := World.ownsRow.alloc hob (.cells #[.int .u8 39] 5)
                clear HK3
                go_wp2_with (at_builtin; refine wpList_append_own _ rfl _ _ 51 rfl w.heap.size 5 i0 (.int .u8 0) 1 1 Tryd.underlying51 hi hz0 hz1 hz2 rfl (by decide) _ _ _ rfl hown ⟨wr.heap.size, 0, none⟩ 1 1 [.int .u8 39] rfl rfl (one_new _ _ _) (by simp [Value.oneCell']) (by unfold maxLen; omega) (by omega) (by simp; omega) ?_)
                intro v' w3 hown3 hgr _
                have hbel3 : Below w.heap.size w w3 := ((hbel.alloc hbel.size _).grown hgr (Nat.le_trans hbel.size (by simp)) hob.own)
                have hob3 : OB w3 w.heap.size v' (out ++ [39]) := OB.more hown3 (by rw [List.length_append]; rfl) rfl
                clear hown3 hgr hob hbel hown hi hz0 hz1 hz2
                go_wp2
                go_roundw
                case rel => exact ⟨k + 2, f', out ++ [39], by go_num, by omega, by omega, by omega, by simp; omega, hob3, HF.out, hbel3⟩
                case measure => simp [intOf]; omega
              · have HF : Hid (V = (out, k + 1, true)) := Lib.hid (by rw [HK3.out, if_neg c4])
                have d4 : ((y.toNat : Int) == 39) = false := by
                  simp only [beq_eq_false_iff_ne]
                  intro e
                  exact c4 (UInt8.toNat_inj.1 (show y.toNat = 39 by omega))
                obtain ⟨A2, c2', rfl, hc2, hba2⟩ := hob.shape
                have hcv := conv_str (P := Tryd.prog) wr 51 9 5 Tryd.underlying51 Tryd.underlying5 Tryd.underlying9 A2 c2' out hba2
                clear HK3 c4 hi hz0 hz1 hz2
                go_wp2
                go_ret3
                exact ⟨by rw [HF.out]; rfl, hbel⟩
            · have h2b : decide ((k : Int) + 1 < l.length) = false := by simp; omega
              have HF : Hid (V = (out, k + 1, true)) := Lib.hid (by rw [HK2.out, List.drop_eq_nil_of_le (by omega)])
              obtain ⟨A2, c2', rfl, hc2, hba2⟩ := hob.shape
              have hcv := conv_str (P := Tryd.prog) wr 51 9 5 Tryd.underlying51 Tryd.underlying5 Tryd.underlying9 A2 c2' out hba2
              clear HK2 hx2 hi hz0 hz1 hz2
              go_wp2
              go_ret3
              exact ⟨by rw [HF.out]; rfl, hbel⟩
          · have HF : Hid (singleGo f' (l.drop (k + 1)) (out ++ [x]) (k + 1) = V) := Lib.hid (by rw [← HK.out, if_neg (by simp [c1, c2]), if_pos c3])
            have ne_of : ∀ d : UInt8, ¬ x = d → ((x.toNat : Int) == d.toNat) = false := fun d hd => by
              simp only [beq_eq_false_iff_ne]
              intro e
              exact hd (UInt8.toNat_inj.1 (by omega))
            have d1 : ((x.toNat : Int) == 10) = false := ne_of 10 c1
            have d2 : ((x.toNat : Int) == 13) = false := ne_of 13 c2
            have d3 : ((x.toNat : Int) == 39) = false := ne_of 39 c3
            have hown := World.ownsRow.alloc hob (.cells #[.int .u8 x.toNat] 5)
            clear HK ne_of c1 c2 c3 hx2
            go_wp2_with (at_builtin; refine wpList_append_own _ rfl _ _ 51 rfl w.heap.size 5 i0 (.int .u8 0) 1 1 Tryd.underlying51 hi hz0 hz1 hz2 rfl (by decide) _ _ _ rfl hown ⟨wr.heap.size, 0, none⟩ 1 1 [.int .u8 x.toNat] rfl rfl (one_new _ _ _) (by simp [Value.oneCell']) (by unfold maxLen; omega) (by omega) (by simp; omega) ?_)
            intro v' w3 hown3 hgr _
            have hbel3 : Below w.heap.size w w3 := ((hbel.alloc hbel.size _).grown hgr (Nat.le_trans hbel.size (by simp)) hob.own)
            have hob3 : OB w3 w.heap.size v' (out ++ [x]) := OB.more hown3 (by rw [List.length_append]; rfl) rfl
            clear hown3 hgr hob hbel hown hi hz0 hz1 hz2
            go_wp2
            go_roundw
            case rel => exact ⟨k + 1, f', out ++ [x], by go_num, by omega, by omega, by omega, by simp; omega, hob3, HF.out, hbel3⟩
            case measure => simp [intOf]; omega
    · obtain rfl : k = l.length := by omega
      have HF : Hid (V = ([], 0, false)) := Lib.hid (by
        rw [← hK, List.drop_length]
        cases f <;> rfl)
      clear hK HT hcell hi hz0 hz1 hz2
      go_wp2
      go_ret3
      exact ⟨by rw [HF.out]; rfl, hbel⟩

theorem takeS_any (A : Option Addr) (c : Nat) (l : Bs) (w : World) (h : BA w A l) (hlc : l.length ≤ c) (hl : l.length ≤ 1000000000) :
    Calls Tryd.prog 153 #[.slice A l.length c] w fun e w' => e = .returned (.tuple #[.string ⟨(takeS l).1.toArray⟩, .int .i64 (takeS l).2.1, .bool (takeS l).2.2]) ∧ Below w.heap.size w w' := by
  obtain ⟨V, hV⟩ : ∃ V, takeS l = V := ⟨_, rfl⟩
  rw [hV]
  cases l with
  | nil =>
    subst hV
    go_enter Tryd.func153, Tryd.ntmps153
    go_wp2
    go_ret3
    exact ⟨rfl, Below.refl _ _⟩
  | cons x t =>
    have hba := h
    obtain ⟨b, o, rfl, hcell⟩ := h (by simp)
    have hx : w.cell? ⟨b, o, none⟩ = some (.int .u8 x.toNat) := hcell 0 (by simp)
    have hne : ((((x :: t).length : Nat) : Int) == 0) = false := by simp; omega
    by_cases h34 : x = 39
    · subst h34
      exact takeS_in b o c (39 :: t) w hba hlc hl (by simp) hx V (Lib.hid hV)
    · have HF : Hid (V = ([], 0, false)) := Lib.hid (by rw [← hV]; simp only [takeS, if_neg h34])
      have h34b : ((x.toNat : Int) == 39) = false := by
        simp only [beq_eq_false_iff_ne]
        intro e
        apply h34
        rw [← UInt8.toNat_inj]
        show x.toNat = 39
        omega
      have h34c : ((x.toNat : Int) != 39) = true := by rw [bne, h34b]; rfl
      have h34d : (decide ((x.toNat : Int) = 39)) = false := by simpa using h34b
      clear hcell hV
      go_enter Tryd.func153, Tryd.ntmps153
      go_wp2
      go_ret3
      exact ⟨by rw [HF.out]; rfl, Below.refl _ _⟩
end Go.Proofs.YtmindclciogneaaDoor
