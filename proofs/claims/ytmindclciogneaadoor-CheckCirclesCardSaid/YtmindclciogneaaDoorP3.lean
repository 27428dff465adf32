/- Plain bounds of what text, aliases and quotes take. -/
import Derived.Test.YtmindclciogneaaDoorP2
import Derived.Test.YtmindclciogneaaDoorI8
namespace Go.Proofs.YtmindclciogneaaDoor
open Go.RowKit

theorem takeGo_le : ∀ (f : Nat) (l out : Bs) (i : Nat), (takeGo f l out i).2.2 = true → (takeGo f l out i).2.1 ≤ i + l.length
  | 0, l, out, i, h => by simp [takeGo] at h
  | f + 1, [], out, i, h => by simp [takeGo] at h
  | f + 1, c :: t, out, i, h => by
    rw [takeGo] at h ⊢
    split
    · rename_i h1; rw [if_pos h1] at h; cases h
    · rename_i h1
      rw [if_neg h1] at h
      split
      · simp only [List.length_cons]; omega
      · rename_i h2
        rw [if_neg h2] at h
        split
        · rename_i h3
          rw [if_pos h3] at h
          split
          · rename_i h4
            rw [if_pos h4] at h
            have h5 := takeGo_le f _ _ _ h
            rw [List.length_drop] at h5
            have h6 := escB_le t h4
            simp only [List.length_cons]
            omega
          · rename_i h4; rw [if_neg h4] at h; cases h
        · rename_i h3
          rw [if_neg h3] at h
          have h5 := takeGo_le f _ _ _ h
          simp only [List.length_cons]
          omega
theorem takeD_le (l : Bs) (h : (takeD l).2.2 = true) : (takeD l).2.1 ≤ l.length := by
  cases l with
  | nil => cases h
  | cons c t =>
    unfold takeD at h ⊢
    dsimp only at h ⊢
    split
    · rename_i h1
      rw [if_pos h1] at h
      have := takeGo_le _ _ _ _ h
      simp only [List.length_cons]
      omega
    · rename_i h1; rw [if_neg h1] at h; cases h
theorem singleGo_le : ∀ (f : Nat) (l out : Bs) (i : Nat), (singleGo f l out i).2.2 = true → (singleGo f l out i).2.1 ≤ i + l.length
  | 0, l, out, i, h => by simp [singleGo] at h
  | f + 1, [], out, i, h => by cases h
  | f + 1, c :: t, out, i, h => by
    rw [singleGo_cons] at h ⊢
    split
    · rename_i h1; rw [if_pos h1] at h; cases h
    · rename_i h1
      rw [if_neg h1] at h
      split
      · rename_i h2
        rw [if_pos h2] at h
        have h5 := singleGo_le f _ _ _ h
        simp only [List.length_cons]
        omega
      · rename_i h2
        rw [if_neg h2] at h
        cases t with
        | nil => simp
        | cons d u =>
          dsimp only at h ⊢
          split
          · rename_i h3
            rw [if_pos h3] at h
            have h5 := singleGo_le f _ _ _ h
            simp only [List.length_cons]
            omega
          · simp only [List.length_cons]; omega
theorem takeS_le (l : Bs) (h : (takeS l).2.2 = true) : (takeS l).2.1 ≤ l.length := by
  cases l with
  | nil => cases h
  | cons c t =>
    unfold takeS at h ⊢
    dsimp only at h ⊢
    split
    · rename_i h1
      rw [if_pos h1] at h
      have := singleGo_le _ _ _ _ h
      simp only [List.length_cons]
      omega
    · rename_i h1; rw [if_neg h1] at h; cases h
/-- What text takes lies within the bytes. -/
theorem textB_le (b : Bs) (k : Nat) (flow : Bool) (h : (textB b k flow).2.2.2 = true) : (textB b k flow).2.2.1 ≤ (b.drop k).length := by
  unfold textB at h ⊢
  split
  · rename_i h1; rw [if_pos h1] at h; exact takeD_le _ h
  · rename_i h1
    rw [if_neg h1] at h
    split
    · rename_i h2; rw [if_pos h2] at h; exact takeS_le _ h
    · exact plainLen_le _ _
theorem alias_le (l : Bs) : (takeAliasB l).2.1 ≤ l.length := by
  cases l with
  | nil => simp [takeAliasB]
  | cons c t =>
    have := (List.takeWhile_prefix (p := letterB) (l := t.take 33)).length_le
    rw [List.length_take] at this
    unfold takeAliasB
    dsimp only
    split
    · split
      · simp only [List.length_cons]; omega
      · simp
    · simp
end Go.Proofs.YtmindclciogneaaDoor
