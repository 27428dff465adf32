/- What props.Props.add does. -/
import Derived.Test.YtmindclciogneaaDoorI2
namespace Go.Proofs.YtmindclciogneaaDoor
open Go.RowKit

/-- An add that goes on to the tag. -/
theorem add_tag (P : Nat) (p : Bs × Bs) (word name : Bs) (w : World) (hP : PP w P p) (hl : word.length ≤ 1000000000)
    (c1 : ∀ W, Calls Tryd.prog 94 #[.string ⟨word.toArray⟩, .string ⟨#[38]⟩] W fun e w' => e = .returned (.tuple #[.string ⟨name.toArray⟩, .bool false]) ∧ W = w')
    (V : Option (Bs × Bs)) (HV : Hid (V = if p.1.isEmpty && validTagB word then some (word, p.2) else none)) :
    Calls Tryd.prog 146 #[.pointer (some ⟨P, 0, none⟩), .string ⟨word.toArray⟩] w fun e w' => e = .returned (.bool V.isSome) ∧ PP w' P (V.getD p) ∧ ∀ B, B ≤ P → Below B w w' := by
  have hc0 := hP.cell0
  have hem := empties p.1
  have hlt := hP.lt
  have cv := fun W => validTag_any word W hl
  cases hE : p.1.isEmpty
  · have HF : Hid (V = none) := Lib.hid (by rw [HV.out, hE]; rfl)
    rw [hE] at hem
    clear HV cv
    go_enter Tryd.func146, Tryd.ntmps146
    go_wp2_with fail
    refine (c1 _).mono ?_
    rintro e w' ⟨rfl, rfl⟩
    clear c1
    go_wp2
    go_ret
    exact ⟨by rw [HF.out]; rfl, by rw [HF.out]; exact hP, fun B _ => Below.refl _ _⟩
  · rw [hE] at hem
    have HV2 : Hid (V = if validTagB word then some (word, p.2) else none) := Lib.hid (by rw [HV.out, hE]; rfl)
    clear HV
    go_enter Tryd.func146, Tryd.ntmps146
    go_wp2_with fail
    refine (c1 _).mono ?_
    rintro e w' ⟨rfl, rfl⟩
    clear c1
    go_wp2_with fail
    refine (cv _).mono ?_
    rintro e w1 ⟨rfl, hb⟩
    clear cv hc0
    have hP1 := hP.below hb
    have hfr := hP1.free 0
    have hc0 := hP1.cell0
    generalize validTagB word = vt at *
    cases vt
    · have HF : Hid (V = none) := HV2
      clear HV2
      go_wp2
      go_ret
      exact ⟨by rw [HF.out]; rfl, by rw [HF.out]; exact hP1, fun B hB => hb.mono (by omega)⟩
    · have HF : Hid (V = some (word, p.2)) := HV2
      clear HV2
      have hP2 := hP1.set0 word
      go_wp2
      go_ret
      exact ⟨by rw [HF.out]; rfl, by rw [HF.out]; exact hP2, fun B hB => (hb.mono (by omega)).setCell hB _⟩

theorem add_any (P : Nat) (p : Bs × Bs) (word : Bs) (w : World) (hP : PP w P p) (hl : word.length ≤ 1000000000) :
    Calls Tryd.prog 146 #[.pointer (some ⟨P, 0, none⟩), .string ⟨word.toArray⟩] w fun e w' => e = .returned (.bool (addB p word).isSome) ∧ PP w' P ((addB p word).getD p) ∧ ∀ B, B ≤ P → Below B w w' := by
  obtain ⟨V, hV⟩ : ∃ V, addB p word = V := ⟨_, rfl⟩
  rw [hV]
  have c1 := fun W => cutp_any word [38] W
  cases word with
  | nil =>
    refine add_tag P p [] [] w hP hl c1 V (Lib.hid ?_)
    rw [← hV]
    have : validTagB [] = false := rfl
    simp [addB, this]
  | cons c t =>
    obtain ⟨k1, k2⟩ := cut_one 38 c t
    rw [k1, k2] at c1
    clear k1 k2
    by_cases hc : c = 38
    · subst hc
      rw [if_pos rfl, decide_eq_true rfl] at c1
      have HV : Hid (V = if p.2.isEmpty && nameB t then some (p.1, t) else none) := Lib.hid hV.symm
      have hc1 := hP.cell1
      have hem := empties p.2
      have hlt := hP.lt
      have cn := fun W => nameL_any t W (by simp at hl; omega)
      clear hV
      cases hE : p.2.isEmpty
      · have HF : Hid (V = none) := Lib.hid (by rw [HV.out, hE]; rfl)
        rw [hE] at hem
        clear HV cn
        go_enter Tryd.func146, Tryd.ntmps146
        go_wp2_with fail
        refine (c1 _).mono ?_
        rintro e w' ⟨rfl, rfl⟩
        clear c1
        go_wp2
        go_ret
        exact ⟨by rw [HF.out]; rfl, by rw [HF.out]; exact hP, fun B _ => Below.refl _ _⟩
      · rw [hE] at hem
        have HV2 : Hid (V = if nameB t then some (p.1, t) else none) := Lib.hid (by rw [HV.out, hE]; rfl)
        clear HV
        go_enter Tryd.func146, Tryd.ntmps146
        go_wp2_with fail
        refine (c1 _).mono ?_
        rintro e w' ⟨rfl, rfl⟩
        clear c1
        go_wp2_with fail
        refine (cn _).mono ?_
        rintro e w1 ⟨rfl, hb⟩
        clear cn hc1
        have hP1 := hP.below hb
        have hfr := hP1.free 1
        have hc1 := hP1.cell1
        generalize nameB t = vt at *
        cases vt
        · have HF : Hid (V = none) := HV2
          clear HV2
          go_wp2
          go_ret
          exact ⟨by rw [HF.out]; rfl, by rw [HF.out]; exact hP1, fun B hB => hb.mono (by omega)⟩
        · have HF : Hid (V = some (p.1, t)) := HV2
          clear HV2
          have hP2 := hP1.set1 t
          go_wp2
          go_ret
          exact ⟨by rw [HF.out]; rfl, by rw [HF.out]; exact hP2, fun B hB => (hb.mono (by omega)).setCell hB _⟩
    · rw [if_neg hc, decide_eq_false hc] at c1
      exact add_tag P p (c :: t) (c :: t) w hP hl c1 V (Lib.hid (by rw [← hV]; simp only [addB, if_neg hc]))
end Go.Proofs.YtmindclciogneaaDoor
