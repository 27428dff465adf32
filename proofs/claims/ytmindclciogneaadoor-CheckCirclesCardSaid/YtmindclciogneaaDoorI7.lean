/- What the reader's skip and is do. -/
import Derived.Test.YtmindclciogneaaDoorI6
namespace Go.Proofs.YtmindclciogneaaDoor
open Go.RowKit

/-- The reader at block R reads the bytes b. -/
structure RB (w : World) (R : Nat) (A : Option Addr) (c : Nat) (b : Bs) : Prop where
  cell : w.cell? ⟨R, 0, none⟩ = some (.slice A b.length c)
  bytes : BA w A b
  cap : b.length ≤ c
  big : b.length ≤ 1000000 ∧ c ≤ 9223372036854775807
theorem skip_step (b : Bs) (k : Nat) : skipB b k = if decide (k < b.length) && b.getD k 0 == 32 then skipB b (k + 1) else k := by
  unfold skipB
  by_cases h : k < b.length
  · rw [drop_cons b k h]
    by_cases h2 : b.getD k 0 = 32
    · rw [if_pos (by rw [h2]; simp [h]), List.takeWhile_cons_of_pos (by simpa using h2), List.length_cons]
      omega
    · have h3 : (b.getD k 0 == 32) = false := by simpa using h2
      rw [if_neg (by rw [h3]; simp), List.takeWhile_cons_of_neg (by rw [h3]; simp)]
      rfl
  · rw [if_neg (by simp [h]), List.drop_eq_nil_of_le (by omega)]
    rfl
set_option maxRecDepth 20000 in
theorem skip_any (R : Nat) (A : Option Addr) (c : Nat) (b : Bs) (k0 : Nat) (w : World) (h : RB w R A c b) (hk : k0 ≤ 2000000) :
    Calls Tryd.prog 116 #[.pointer (some ⟨R, 0, none⟩), .int .i64 k0] w fun e w' => e = .returned (.int .i64 (skipB b k0)) ∧ w = w' := by
  obtain ⟨hc0, hba, hcap, hbig⟩ := h
  obtain ⟨V, hV⟩ : ∃ V, skipB b k0 = V := ⟨_, rfl⟩
  rw [hV]
  have HV := Lib.hid hV
  clear hV
  go_enter Tryd.func116, Tryd.ntmps116
  go_wp2
  go_loop [1] (fun i => ∃ k : Nat, i = .int .i64 k ∧ k ≤ 2000000 ∧ skipB b k = V) (fun i => b.length - (intOf i).toNat)
  case atStart => exact ⟨k0, rfl, hk, HV.out⟩
  case round =>
    obtain ⟨k, rfl, hk, hK⟩ := hrel
    have hst := skip_step b k
    rw [hK] at hst
    by_cases hlt : k < b.length
    · have hltb : decide ((k : Int) < b.length) = true := by simp; omega
      obtain ⟨g, o, rfl, hcell⟩ := hba.at k hlt
      have hsp := space_any (b.getD k 0)
      have hq : spaceB (b.getD k 0) = (b.getD k 0 == 32) := by
        rw [Bool.eq_iff_iff]
        simp only [spaceB, beq_iff_eq, ← UInt8.toNat_inj]
        rfl
      rw [hq] at hsp
      rw [decide_eq_true hlt, Bool.true_and] at hst
      have HST := Lib.hid hst
      clear hq hst hK HV hba
      generalize b.getD k 0 = x at *
      generalize (x == 32) = q at *
      cases q
      · have HF : Hid (V = k) := Lib.hid (by rw [HST.out]; rfl)
        go_wp2_with (go_at_call 148; refine (hsp _).mono ?_; rintro e w' ⟨rfl, rfl⟩)
        go_ret
        exact ⟨by rw [HF.out]; rfl, rfl⟩
      · have HF : Hid (skipB b (k + 1) = V) := Lib.hid (by rw [HST.out]; rfl)
        go_wp2_with (go_at_call 148; refine (hsp _).mono ?_; rintro e w' ⟨rfl, rfl⟩)
        go_round
        case rel => exact ⟨k + 1, by go_num, by omega, HF.out⟩
        case measure => simp [intOf]; omega
    · have hltb : decide ((k : Int) < b.length) = false := by simp; omega
      have HF : Hid (V = k) := Lib.hid (by rw [hst, decide_eq_false hlt]; rfl)
      clear hst hK HV hba
      go_wp2
      go_ret
      exact ⟨by rw [HF.out]; rfl, rfl⟩

theorem is_any (R : Nat) (A : Option Addr) (c : Nat) (b : Bs) (k : Nat) (signs : Bs) (w : World) (h : RB w R A c b) (_hk : k ≤ 2000000) :
    Calls Tryd.prog 117 #[.pointer (some ⟨R, 0, none⟩), .int .i64 k, .string ⟨signs.toArray⟩] w fun e w' => e = .returned (.bool (isB b k signs)) ∧ w = w' := by
  obtain ⟨hc0, hba, hcap, hbig⟩ := h
  obtain ⟨V, hV⟩ : ∃ V, isB b k signs = V := ⟨_, rfl⟩
  rw [hV]
  unfold isB at hV
  by_cases hlt : k < b.length
  · have hltb : decide ((k : Int) < b.length) = true := by simp; omega
    obtain ⟨g, o, rfl, hcell⟩ := hba.at k hlt
    have hi := fun W => idx_is ⟨signs.toArray⟩ (b.getD k 0) _ rfl W
    rw [sl_mk] at hi
    have hcon := Lib.contains_iff_indexByte signs (b.getD k 0)
    rw [decide_eq_true hlt, Bool.true_and, hcon] at hV
    have HV := Lib.hid hV
    clear hV hcon hba
    generalize b.getD k 0 = x at *
    generalize Lib.indexByte signs x = z at *
    go_enter Tryd.func117, Tryd.ntmps117
    go_wp2_with (go_at_call 138; refine (hi _).mono ?_; rintro e w' ⟨rfl, rfl⟩)
    go_ret
    exact ⟨by rw [← HV.out]; rfl, rfl⟩
  · have hltb : decide ((k : Int) < b.length) = false := by simp; omega
    rw [decide_eq_false hlt, Bool.false_and] at hV
    subst hV
    clear hba
    go_enter Tryd.func117, Tryd.ntmps117
    go_wp2
    go_ret
    exact ⟨rfl, rfl⟩
end Go.Proofs.YtmindclciogneaaDoor
