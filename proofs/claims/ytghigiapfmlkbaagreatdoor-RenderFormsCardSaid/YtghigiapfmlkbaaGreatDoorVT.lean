/- What props.ValidTag does. -/
import Derived.Test.YtghigiapfmlkbaaGreatDoorC7
import Derived.Test.YtghigiapfmlkbaaGreatDoorMI
namespace Go.Proofs.YtghigiapfmlkbaaGreatDoor
open Go.RowKit

theorem cutp_any (l q : Bs) (w : World) : Calls Tryz.prog 128 #[.string ⟨l.toArray⟩, .string ⟨q.toArray⟩] w fun e w' => e = .returned (.tuple #[.string ⟨(Lib.trimPrefix l q).toArray⟩, .bool (Lib.hasPrefix l q)]) ∧ w = w' := by
  refine (Tryz.strings_CutPrefix ⟨l.toArray⟩ ⟨q.toArray⟩ w).mono ?_
  rintro e w' ⟨rfl, rfl⟩
  simp
theorem trimp_any (l q : Bs) (w : World) : Calls Tryz.prog 130 #[.string ⟨l.toArray⟩, .string ⟨q.toArray⟩] w fun e w' => e = .returned (.string ⟨(Lib.trimPrefix l q).toArray⟩) ∧ w = w' := by
  refine (Tryz.strings_TrimPrefix ⟨l.toArray⟩ ⟨q.toArray⟩ w).mono ?_
  rintro e w' ⟨rfl, rfl⟩
  simp
theorem nameL_any (l : Bs) (w : World) (hl : l.length ≤ 1000000000) : Calls Tryz.prog 129 #[.string ⟨l.toArray⟩] w fun e w' => e = .returned (.bool (nameB l)) ∧ Below w.heap.size w w' := by
  have := name_any ⟨l.toArray⟩ w (by rw [mk_size]; omega)
  rw [sl_mk] at this
  exact this
theorem empties (l : Bs) : (⟨l.toArray⟩ : ByteArray).toList.isEmpty = l.isEmpty := by rw [sl_empty, sl_mk]
/-- A name behind a sign that may stand twice. -/
def bareB (t : Bs) : Bs := match t with | [] => [] | d :: u => if d = 33 then u else t
theorem bare_is (t : Bs) : Lib.trimPrefix t [33] = bareB t := by
  cases t with
  | nil => rfl
  | cons d u =>
    unfold Lib.trimPrefix Lib.hasPrefix bareB
    by_cases h : d = 33
    · subst h; simp [List.isPrefixOf]
    · rw [if_neg (by simp [List.isPrefixOf]; exact fun e => h e.symm)]
      simp [h]
theorem bare_len (t : Bs) : (bareB t).length ≤ t.length := by
  unfold bareB
  split
  · simp
  · split <;> simp
theorem cut_one (q c : UInt8) (t : Bs) : Lib.trimPrefix (c :: t) [q] = (if c = q then t else c :: t) ∧ Lib.hasPrefix (c :: t) [q] = decide (c = q) := by
  unfold Lib.trimPrefix Lib.hasPrefix
  by_cases h : c = q
  · subst h; simp [List.isPrefixOf]
  · have : (q == c) = false := by simpa using fun e => h e.symm
    simp [List.isPrefixOf, h, this]

set_option maxRecDepth 20000 in
theorem validTag_any (l : Bs) (w : World) (hl : l.length ≤ 1000000000) :
    Calls Tryz.prog 83 #[.string ⟨l.toArray⟩] w fun e w' => e = .returned (.bool (validTagB l)) ∧ Below w.heap.size w w' := by
  have c1 := fun W => cutp_any l [33] W
  cases l with
  | nil =>
    have c1 : ∀ W, Calls Tryz.prog 128 #[.string ⟨#[]⟩, .string ⟨#[33]⟩] W fun e w' => e = .returned (.tuple #[.string ⟨#[]⟩, .bool false]) ∧ W = w' := c1
    go_enter Tryz.func83, Tryz.ntmps83
    go_wp2_with fail
    refine (c1 _).mono ?_
    rintro e w' ⟨rfl, rfl⟩
    clear c1
    go_wp2
    go_ret
    exact ⟨rfl, Below.refl _ _⟩
  | cons c t =>
    obtain ⟨k1, k2⟩ := cut_one 33 c t
    rw [k1, k2] at c1
    clear k1 k2
    by_cases hc : c = 33
    · subst hc
      rw [if_pos rfl, decide_eq_true rfl] at c1
      have hV : validTagB (33 :: t) = (t.isEmpty || nameB (bareB t)) := rfl
      have hem := empties t
      have c2 := fun W => trimp_any t [33] W
      rw [bare_is] at c2
      have c3 := fun W => nameL_any (bareB t) W (by have := bare_len t; simp at hl; omega)
      rw [hV]
      generalize nameB (bareB t) = nb at *
      generalize bareB t = bt at *
      cases hE : t.isEmpty
      · rw [hE] at hem
        go_enter Tryz.func83, Tryz.ntmps83
        go_wp2_with fail
        refine (c1 _).mono ?_
        rintro e w' ⟨rfl, rfl⟩
        clear c1
        go_wp2_with fail
        refine (c2 _).mono ?_
        rintro e w' ⟨rfl, rfl⟩
        clear c2
        go_wp2_with fail
        refine (c3 _).mono ?_
        rintro e w1 ⟨rfl, hb⟩
        clear c3
        go_wp2
        go_ret
        exact ⟨rfl, hb⟩
      · rw [hE] at hem
        go_enter Tryz.func83, Tryz.ntmps83
        go_wp2_with fail
        refine (c1 _).mono ?_
        rintro e w' ⟨rfl, rfl⟩
        clear c1
        go_wp2
        go_ret
        exact ⟨rfl, Below.refl _ _⟩
    · rw [if_neg hc, decide_eq_false hc] at c1
      have hV : validTagB (c :: t) = false := if_neg hc
      rw [hV]
      go_enter Tryz.func83, Tryz.ntmps83
      go_wp2_with fail
      refine (c1 _).mono ?_
      rintro e w' ⟨rfl, rfl⟩
      clear c1
      go_wp2
      go_ret
      exact ⟨rfl, Below.refl _ _⟩
end Go.Proofs.YtghigiapfmlkbaaGreatDoor
