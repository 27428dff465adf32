/- Plain bounds of props. -/
import Derived.Test.YtmindclciogneaaDoorI5
namespace Go.Proofs.YtmindclciogneaaDoor
open Go.RowKit

theorem propsGo_le : ∀ (f : Nat) (l : Bs) (p : Bs × Bs) (n i : Nat), n ≤ i → (propsGo f l p n i).2.1 ≤ i + l.length
  | 0, l, p, n, i, h => by simp only [propsGo]; omega
  | f + 1, [], p, n, i, h => by
    show n ≤ i + 0
    omega
  | f + 1, x :: t, p, n, i, h => by
    rw [propsGo_cons]
    split
    · split
      · simp
      · rename_i q _
        have h1 := wordB_le (x :: t)
        have h2 := leftB_le ((x :: t).drop (wordB (x :: t)).length)
        rw [List.length_drop] at h2
        have h3 := propsGo_le f (leftB ((x :: t).drop (wordB (x :: t)).length)) q (i + (wordB (x :: t)).length) (i + (x :: t).length - (leftB ((x :: t).drop (wordB (x :: t)).length)).length) (by omega)
        omega
    · show n ≤ _
      omega
theorem propsB_le (l : Bs) : (propsB l).2.1 ≤ l.length := by
  have := propsGo_le l.length l ([], []) 0 0 (Nat.le_refl _)
  unfold propsB
  omega
theorem skipB_le (b : Bs) (k : Nat) (h : k ≤ b.length) : k ≤ skipB b k ∧ skipB b k ≤ b.length := by
  unfold skipB
  have := (List.takeWhile_prefix (p := fun x : UInt8 => x == 32) (l := b.drop k)).length_le
  rw [List.length_drop] at this
  omega
theorem isB_lt (b : Bs) (k : Nat) (signs : Bs) (h : isB b k signs = true) : k < b.length := by
  unfold isB at h
  simp at h
  exact h.1
end Go.Proofs.YtmindclciogneaaDoor
