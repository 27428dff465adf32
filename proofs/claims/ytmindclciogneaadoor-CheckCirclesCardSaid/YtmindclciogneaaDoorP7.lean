/- The model's node, opened. -/
import Derived.Test.YtmindclciogneaaDoorP5
namespace Go.Proofs.YtmindclciogneaaDoor
open Go.RowKit

/-- The node as it is begun. -/
def nodeX (tag anchor : Bs) (at_ n at1 : Nat) : Nd := { nd0 with tag := tag, anchor := anchor, start := if n = 0 then at1 else at_, stop := at_ + n }
/-- The node with its end: what the reader has ahead of the last lines. -/
def EndsIn (l : List Nd) (n e : Nat) (m : List Nd) (l2 : List Nd) (y : Nd) : Prop := y.stop = n ∧ 0 = e ∧ l2.set l.length y.done = m
structure NodeInv (f : Nat) (b : Bs) (at_ : Nat) (flow : Bool) (depth : Nat) (l : List Nd) (n e : Nat) (m : List Nd) (X : Nd) (k at1 : Nat) : Prop where
  alias_bad : isB b at1 [42] = true → (0 < k ∨ (takeAliasB (b.drop at1)).2.2 = false) → 0 = n ∧ 2 = e ∧ l ++ [X] = m
  alias_ok : isB b at1 [42] = true → k = 0 → (takeAliasB (b.drop at1)).2.2 = true → EndsIn l n e m (l ++ [{ X with kind := 4, value := (takeAliasB (b.drop at1)).1, stop := at1 + (takeAliasB (b.drop at1)).2.1 }]) { X with kind := 4, value := (takeAliasB (b.drop at1)).1, stop := at1 + (takeAliasB (b.drop at1)).2.1 }
  coll : isB b at1 [42] = false → isB b at1 [91, 123] = true → ∃ e1 m1, collM f b l.length at1 depth (l ++ [X]) = some (e1, m1) ∧ wt m1 ≤ wt m ∧ (¬ e1 = 0 → 0 = n ∧ e1 = e ∧ m1 = m) ∧ (e1 = 0 → EndsIn l n e m m1 (m1.getD l.length nd0))
  text_bad : isB b at1 [42] = false → isB b at1 [91, 123] = false → (textB b at1 flow).2.2.2 = false → 0 = n ∧ 2 = e ∧ l ++ [X] = m
  text_some : isB b at1 [42] = false → isB b at1 [91, 123] = false → (textB b at1 flow).2.2.2 = true → 0 < (textB b at1 flow).2.2.1 → EndsIn l n e m (l ++ [{ X with kind := 1, style := (textB b at1 flow).2.1, value := (textB b at1 flow).1, stop := at1 + (textB b at1 flow).2.2.1 }]) { X with kind := 1, style := (textB b at1 flow).2.1, value := (textB b at1 flow).1, stop := at1 + (textB b at1 flow).2.2.1 }
  text_no : isB b at1 [42] = false → isB b at1 [91, 123] = false → (textB b at1 flow).2.2.2 = true → (textB b at1 flow).2.2.1 = 0 → k = 0 → EndsIn l n e m (l ++ [{ X with start := at_, stop := at_ }]) { X with start := at_, stop := at_ }
  text_props : isB b at1 [42] = false → isB b at1 [91, 123] = false → (textB b at1 flow).2.2.2 = true → (textB b at1 flow).2.2.1 = 0 → ¬ k = 0 → EndsIn l n e m (l ++ [X]) X
theorem set_last (l : List Nd) (x y : Nd) : (l ++ [x]).set l.length y = l ++ [y] := by
  rw [List.set_append_right _ _ (Nat.le_refl _)]
  simp
theorem node_inv (f : Nat) (b : Bs) (at_ : Nat) (flow : Bool) (depth : Nat) (l : List Nd) (n e : Nat) (m : List Nd) (h : nodeM (f + 1) b at_ flow depth l = some (n, e, m)) :
    ((propsB (b.drop at_)).2.2 = false → 0 = n ∧ 2 = e ∧ l = m) ∧
    ((propsB (b.drop at_)).2.2 = true → NodeInv f b at_ flow depth l n e m (nodeX (propsB (b.drop at_)).1.1 (propsB (b.drop at_)).1.2 at_ (propsB (b.drop at_)).2.1 (skipB b (at_ + (propsB (b.drop at_)).2.1))) (propsB (b.drop at_)).2.1 (skipB b (at_ + (propsB (b.drop at_)).2.1))) := by
  rw [nodeM] at h
  dsimp only at h
  generalize propsB (b.drop at_) = P at *
  obtain ⟨⟨tag, anchor⟩, k, ok⟩ := P
  dsimp only at h ⊢
  constructor
  · rintro rfl
    simpa using h
  · rintro rfl
    rw [if_neg (by simp)] at h
    have hX : ({ nd0 with tag := tag, anchor := anchor, start := if k = 0 then skipB b (at_ + k) else at_, stop := at_ + k } : Nd) = nodeX tag anchor at_ k (skipB b (at_ + k)) := rfl
    generalize skipB b (at_ + k) = at1 at *
    refine ⟨fun h1 h2 => ?_, fun h1 h2 h3 => ?_, fun h1 h2 => ?_, fun h1 h2 h3 => ?_, fun h1 h2 h3 h4 => ?_, fun h1 h2 h3 h4 h5 => ?_, fun h1 h2 h3 h4 h5 => ?_⟩
    · rw [if_pos h1, if_pos (by rcases h2 with h2 | h2 <;> simp [h2])] at h
      simp only [Option.some.injEq, Prod.mk.injEq] at h
      exact h
    · rw [if_pos h1, if_neg (by simp [h2, h3])] at h
      unfold EndsIn
      rw [set_last]
      simp only [Option.some.injEq, Prod.mk.injEq] at h
      exact h
    · rw [if_neg (by simp [h1]), if_pos h2] at h
      rw [hX] at h
      cases hc : collM f b l.length at1 depth (l ++ [nodeX tag anchor at_ k at1]) with
      | none => rw [hc] at h; cases h
      | some r =>
        obtain ⟨e1, m1⟩ := r
        rw [hc] at h
        dsimp only at h
        refine ⟨e1, m1, rfl, ?_, fun he => ?_, fun he => ?_⟩
        · split at h
          · simp only [Option.some.injEq, Prod.mk.injEq] at h
            rw [h.2.2]; exact Nat.le_refl _
          · simp only [Option.some.injEq, Prod.mk.injEq] at h
            rw [← h.2.2]; exact wt_set_le _ _ _ (Nat.le_refl _)
        · rw [if_pos he] at h
          simpa using h
        · rw [if_neg (by simpa using he)] at h
          simp only [Option.some.injEq, Prod.mk.injEq] at h
          exact h
    · rw [if_neg (by simp [h1]), if_neg (by simp [h2]), if_pos (by simp [h3])] at h
      simp only [Option.some.injEq, Prod.mk.injEq] at h
      exact h
    · rw [if_neg (by simp [h1]), if_neg (by simp [h2]), if_neg (by simp [h3]), if_pos (by simpa using h4)] at h
      unfold EndsIn
      rw [set_last]
      simp only [Option.some.injEq, Prod.mk.injEq] at h
      exact h
    · rw [if_neg (by simp [h1]), if_neg (by simp [h2]), if_neg (by simp [h3]), if_neg (by simp [h4]), if_pos h5] at h
      unfold EndsIn
      rw [set_last]
      simp only [Option.some.injEq, Prod.mk.injEq] at h
      exact h
    · rw [if_neg (by simp [h1]), if_neg (by simp [h2]), if_neg (by simp [h3]), if_neg (by simp [h4]), if_neg h5] at h
      unfold EndsIn
      rw [set_last]
      simp only [Option.some.injEq, Prod.mk.injEq] at h
      exact h
end Go.Proofs.YtmindclciogneaaDoor
