/- What plain does, and chars' small ones. -/
import Derived.Test.YtghigiapfmlkbaaGreatDoorC1
import Derived.Lib.IndexAny
namespace Go.Proofs.YtghigiapfmlkbaaGreatDoor
open Go.RowKit

/-- strings.IndexByte over some signs: a letter z, and what its sign says. -/
theorem idx_set (s : ByteArray) (c : UInt8) : ∃ z : Int, (∀ w, Calls Tryz.prog 162 #[.string s, .int .u8 c.toNat] w fun e w' => e = .returned (.int .i64 z) ∧ w = w') ∧ decide (0 ≤ z) = (sl s).contains c ∧ -1 ≤ z := by
  have h := Tryz.strings_IndexByte s c.toNat
  have e : ((c.toNat : Int).toNat.toUInt8) = c := by simp
  rw [e] at h
  exact ⟨_, fun w => (h w).mono fun _ _ ⟨a, b⟩ => ⟨a, b.symm⟩, (Lib.contains_iff_indexByte _ _).symm, Lib.indexByte_ge _ _⟩

theorem digit_any (c : UInt8) (w : World) : Calls Tryz.prog 184 #[.int .u8 c.toNat] w fun e w' => e = .returned (.bool (digitB c)) ∧ w = w' := by
  go_enter Tryz.func184, Tryz.ntmps184
  go_wp2
  all_goals
    go_ret
    exact ⟨ret_bool (by rw [Bool.eq_iff_iff]; simp [digitB]; omega), rfl⟩
set_option maxHeartbeats 1000000 in
theorem letter_any (c : UInt8) (w : World) : Calls Tryz.prog 168 #[.int .u8 c.toNat] w fun e w' => e = .returned (.bool (letterB c)) ∧ w = w' := by
  have hd := digit_any c w
  have e : digitB c = true ↔ (48 ≤ c.toNat ∧ c.toNat ≤ 57) := by simp [digitB]
  obtain ⟨b, hb⟩ : ∃ b, digitB c = b := ⟨_, rfl⟩
  have HL : Hid (letterB c = true ↔ (((((97 ≤ c.toNat ∧ c.toNat ≤ 122) ∨ (65 ≤ c.toNat ∧ c.toNat ≤ 90)) ∨ b = true) ∨ c.toNat = 45) ∨ c.toNat = 95)) := Lib.hid (by simp [letterB, hb])
  rw [hb] at hd e
  have HE := Lib.hid e
  clear e hb
  cases b
  all_goals
    go_enter Tryz.func168, Tryz.ntmps168
    go_wp2_with (go_at_call 184; refine hd.mono ?_; rintro e w' ⟨rfl, rfl⟩)
    all_goals
      go_ret
      refine ⟨ret_bool ?_, rfl⟩
      rw [Bool.eq_iff_iff, HL.out]
      simp
      try omega
theorem blank_any (c : UInt8) (w : World) : Calls Tryz.prog 200 #[.int .u8 c.toNat] w fun e w' => e = .returned (.bool (blankB c)) ∧ w = w' := by
  go_enter Tryz.func200, Tryz.ntmps200
  go_wp2
  all_goals
    go_ret
    exact ⟨ret_bool (by rw [Bool.eq_iff_iff]; simp [blankB]; omega), rfl⟩
theorem bracketB_eq (c : UInt8) : bracketB c = ([44, 91, 93, 123, 125] : Bs).contains c := by
  rw [Bool.eq_iff_iff]
  simp [bracketB, ← UInt8.toNat_inj]
  omega
theorem bracket_any (c : UInt8) (w : World) : Calls Tryz.prog 202 #[.int .u8 c.toNat] w fun e w' => e = .returned (.bool (bracketB c)) ∧ w = w' := by
  obtain ⟨z, hz, hc, _⟩ := idx_set ⟨#[44, 91, 93, 123, 125]⟩ c
  rw [bracketB_eq, show ([44, 91, 93, 123, 125] : Bs) = sl ⟨#[44, 91, 93, 123, 125]⟩ from rfl, ← hc]
  clear hc
  go_enter Tryz.func202, Tryz.ntmps202
  go_wp2_with (go_at_call 162; refine (hz _).mono ?_; rintro e w' ⟨rfl, rfl⟩)
  go_ret
  exact ⟨rfl, rfl⟩
set_option maxHeartbeats 400000 in
theorem ends_any (A : Option Addr) (c : Nat) (l : Bs) (i : Int) (flow : Bool) (w : World) (h : BA w A l) (h0 : 0 ≤ i) (hn : l.length ≤ 140737488351232) :
    Calls Tryz.prog 201 #[.slice A l.length c, .int .i64 i, .bool flow] w fun e w' => e = .returned (.bool (endsB (l.drop i.toNat) flow)) ∧ w = w' := by
  by_cases hi : i < l.length
  · obtain ⟨b, o, rfl, hc⟩ := h.at i.toNat (by omega)
    have hd : l.drop i.toNat = l.getD i.toNat 0 :: l.drop (i.toNat + 1) := by
      rw [List.drop_eq_getElem_cons (by omega)]
      simp [List.getD_eq_getElem?_getD, List.getElem?_eq_getElem (show i.toNat < l.length by omega)]
    rw [hd]
    clear hd
    simp only [endsB]
    have hdc : decide ((l.length : Int) ≤ i) = false := by simp; omega
    generalize l.getD i.toNat 0 = x at *
    have h1 := blank_any x w
    have h2 := bracket_any x w
    generalize blankB x = p at *
    generalize bracketB x = q at *
    cases p <;> cases q <;> cases flow
    all_goals
      go_enter Tryz.func201, Tryz.ntmps201
      go_wp2_with (first | (go_at_call 200; refine h1.mono ?_; rintro e w' ⟨rfl, rfl⟩) | (go_at_call 202; refine h2.mono ?_; rintro e w' ⟨rfl, rfl⟩))
      go_ret
      exact ⟨ret_bool (by simp), rfl⟩
  · rw [List.drop_of_length_le (by omega)]
    simp only [endsB]
    clear h
    have hdc : decide ((l.length : Int) ≤ i) = true := by simp; omega
    go_enter Tryz.func201, Tryz.ntmps201
    go_wp2
    go_ret
    exact ⟨rfl, rfl⟩
end Go.Proofs.YtghigiapfmlkbaaGreatDoor
