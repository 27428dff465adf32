/- What chars and plain do: each function's call, said of bytes and strings. -/
import Derived.Test.YtghigiapfmlkbaaGreatDoorShelf
import Derived.Test.YtghigiapfmlkbaaGreatDoorM
import Derived.Deep.DeepMust
namespace Go.Proofs.YtghigiapfmlkbaaGreatDoor
open Go.RowKit

/-- The two tables of unicode/utf8 lie in the world as its text lays them. -/
def Tabs (w : World) : Prop := Lib.Utf8Tabs 1 2 w
theorem Tabs.below {w w1 : World} (h : Tabs w) (hb : Below w.heap.size w w1) : Tabs w1 := Utf8Tabs_below h hb

set_option maxHeartbeats 400000 in
theorem printable_any (r : Int) (w : World) :
    Calls Tryz.prog 74 #[.int .i32 r] w fun e w' => e = .returned (.bool (printableB r)) ∧ w = w' := by
  go_enter Tryz.func74, Tryz.ntmps74
  go_wp2
  all_goals
    go_ret
    refine ⟨ret_bool ?_, rfl⟩
    rw [Bool.eq_iff_iff, printableB_iff]
    simp only [beq_iff_eq, beq_eq_false_iff_ne, ne_eq, Bool.or_eq_true, decide_eq_true_eq, Bool.false_eq_true, false_iff, true_iff] at *
    omega

theorem decodeGo_dec (l : Bs) (h : 0 < l.length) : Lib.decodeGo ⟨l.toArray⟩ = dec l := by
  have hs : (⟨l.toArray⟩ : ByteArray).size = l.length := by rw [← sl_len, sl_mk]
  have hg : ∀ j, (⟨l.toArray⟩ : ByteArray).get! j = l.getD j 0 := fun j => by
    by_cases hj : j < l.length
    · rw [sl_get! _ j (by rw [hs]; exact hj), sl_mk]
    · simp [ByteArray.get!, List.getD_eq_getElem?_getD, Nat.le_of_not_lt hj]
      rfl
  simp only [Lib.decodeGo, hs, show l.length ≠ 0 from by omega, if_false]
  rw [Lib.decode_at, hs, hg, hg, hg, hg]
  simp [dec]

theorem decodeRune_any (A : Option Addr) (c : Nat) (l : Bs) (w : World) (hT : Tabs w) (h : BA w A l) (h0 : 0 < l.length) :
    Calls Tryz.prog 111 #[.slice A l.length c] w fun e w' => e = .returned (.tuple #[.int .i32 (dec l).1, .int .i64 (dec l).2]) ∧ Below w.heap.size w w' := by
  obtain ⟨b, o, rfl, hc⟩ := h h0
  have hs : (⟨l.toArray⟩ : ByteArray).size = l.length := by rw [← sl_len, sl_mk]
  have := Any7.utf8_DecodeRune Tryz.lays_unicode_utf8_DecodeRune ⟨l.toArray⟩ b o c w hT (fun j hj => by
    rw [hs] at hj
    rw [hc j hj, sl_get! _ j (by rw [hs]; exact hj), sl_mk])
  rw [hs, decodeGo_dec l h0] at this
  exact this

set_option maxHeartbeats 400000 in
theorem rune_any (A : Option Addr) (c : Nat) (l : Bs) (w : World) (hT : Tabs w) (h : BA w A l) (h0 : 0 < l.length) :
    Calls Tryz.prog 73 #[.slice A l.length c] w fun e w' => e = .returned (.tuple #[.int .i32 (runeV l), .int .i64 (dec l).2, .bool (!badRune l)]) ∧ Below w.heap.size w w' := by
  have hd := decodeRune_any A c l w hT h h0
  have e1 : badRune l = (decide (((dec l).1 : Int) = 65533) && decide (((dec l).2 : Int) < 2)) := by
    unfold badRune
    rw [Bool.eq_iff_iff]; simp; omega
  have e2 : runeV l = if badRune l then 0 else ((dec l).1 : Int) := rfl
  generalize ((dec l).1 : Int) = r at *
  generalize ((dec l).2 : Int) = n at *
  by_cases h1 : r = 65533
  · subst h1
    by_cases h2 : n < 2
    · rw [e2, show badRune l = true by simp [e1, h2]]
      clear e1 e2 h hT
      simp only [if_true, Bool.not_true]
      go_enter Tryz.func73, Tryz.ntmps73
      go_wp2_with (go_at_call 111; refine hd.mono ?_; rintro e w' ⟨rfl, hb⟩)
      go_ret3
      exact ⟨rfl, hb⟩
    · rw [e2, show badRune l = false by simp [e1, h2]]
      clear e1 e2 h hT
      simp only [Bool.false_eq_true, if_false, Bool.not_false]
      go_enter Tryz.func73, Tryz.ntmps73
      go_wp2_with (go_at_call 111; refine hd.mono ?_; rintro e w' ⟨rfl, hb⟩)
      go_ret3
      exact ⟨rfl, hb⟩
  · have h1' : (r == 65533) = false := by simpa using h1
    rw [e2, show badRune l = false by simp [e1, h1]]
    clear e1 e2 h hT
    simp only [Bool.false_eq_true, if_false, Bool.not_false]
    go_enter Tryz.func73, Tryz.ntmps73
    go_wp2_with (go_at_call 111; refine hd.mono ?_; rintro e w' ⟨rfl, hb⟩)
    go_ret3
    exact ⟨rfl, hb⟩
end Go.Proofs.YtghigiapfmlkbaaGreatDoor
