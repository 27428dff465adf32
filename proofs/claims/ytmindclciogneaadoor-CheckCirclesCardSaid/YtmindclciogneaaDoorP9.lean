/- The model's pair, opened. -/
import Derived.Test.YtmindclciogneaaDoorP8
namespace Go.Proofs.YtmindclciogneaaDoor
open Go.RowKit

/-- The node of a key. -/
def keyN (style : Nat) (tag value : Bs) (at_ n : Nat) : Nd := ⟨1, style, tag, [], value, at_, at_ + n, at_, at_, []⟩
/-- Is there no colon, or none that ends a key? -/
def badB (b : Bs) (mark : Nat) : Bool := !isB b (mark - 1) [58] || (decide (mark < b.length) && !isB b mark [32, 44, 125])
def atMark (x : Nd) (mark : Nat) : Nd := if noneB x then { x with start := mark, stop := mark } else x
def heads (x : Nd) (at_ mark : Nat) : Nd := { x with head := at_, mark := mark }
def twoKids (m : List Nd) (i k : Nat) : List Nd := m.set i { m.getD i nd0 with kids := (m.getD i nd0).kids ++ [k, k + 1] }
structure PairInv (f : Nat) (b : Bs) (i at_ depth : Nat) (l : List Nd) (n e : Nat) (m : List Nd) (K : Nd) (mark : Nat) : Prop where
  bad : badB b mark = true → 0 = n ∧ 2 = e ∧ l ++ [K] = m
  good : badB b mark = false → ∃ n1 e1 m1, nodeM f b (skipB b mark) true (depth + 1) (l ++ [K]) = some (n1, e1, m1) ∧ wt m1 ≤ wt m ∧ (¬ e1 = 0 → 0 = n ∧ e1 = e ∧ m1 = m) ∧
    (e1 = 0 → n1 = n ∧ 0 = e ∧ twoKids (m1.set (l.length + 1) (heads (atMark (m1.getD (l.length + 1) nd0) mark) at_ mark)) i l.length = m)
theorem pair_inv (f : Nat) (b : Bs) (i at_ depth : Nat) (l : List Nd) (n e : Nat) (m : List Nd) (h : pairM (f + 1) b i at_ depth l = some (n, e, m)) :
    ((!(textB b at_ true).2.2.2 || (textB b at_ true).2.2.1 == 0 || decide (128 < (textB b at_ true).2.2.1)) = true → 0 = n ∧ 2 = e ∧ l = m) ∧
    ((!(textB b at_ true).2.2.2 || (textB b at_ true).2.2.1 == 0 || decide (128 < (textB b at_ true).2.2.1)) = false →
      PairInv f b i at_ depth l n e m (keyN (textB b at_ true).2.1 (tagB 1 (textB b at_ true).2.1 [] (textB b at_ true).1) (textB b at_ true).1 at_ (textB b at_ true).2.2.1) (skipB b (at_ + (textB b at_ true).2.2.1) + 1)) := by
  rw [pairM] at h
  dsimp only at h
  generalize textB b at_ true = t at *
  constructor
  · intro hb
    rw [if_pos hb] at h
    simp only [Option.some.injEq, Prod.mk.injEq] at h
    exact h
  · intro hb
    rw [if_neg (by rw [hb]; simp)] at h
    generalize hM : skipB b (at_ + t.2.2.1) + 1 = mark at *
    have hbad : (!isB b (mark - 1) [58] || decide (mark < List.length b) && !isB b mark [32, 44, 125]) = badB b mark := rfl
    have hK : (⟨1, t.2.1, tagB 1 t.2.1 [] t.1, [], t.1, at_, at_ + t.2.2.1, at_, at_, []⟩ : Nd) = keyN t.2.1 (tagB 1 t.2.1 [] t.1) t.1 at_ t.2.2.1 := rfl
    rw [hbad, hK] at h
    refine ⟨fun h1 => ?_, fun h1 => ?_⟩
    · rw [if_pos h1] at h
      simp only [Option.some.injEq, Prod.mk.injEq] at h
      exact h
    · rw [if_neg (by rw [h1]; simp)] at h
      cases hn : nodeM f b (skipB b mark) true (depth + 1) (l ++ [keyN t.2.1 (tagB 1 t.2.1 [] t.1) t.1 at_ t.2.2.1]) with
      | none => rw [hn] at h; cases h
      | some r =>
        obtain ⟨n1, e1, m1⟩ := r
        rw [hn] at h
        dsimp only at h
        have hy : (if noneB (m1.getD (l.length + 1) nd0) = true then ({ m1.getD (l.length + 1) nd0 with start := mark, stop := mark, head := at_, mark := mark } : Nd) else { m1.getD (l.length + 1) nd0 with head := at_, mark := mark }) = heads (atMark (m1.getD (l.length + 1) nd0) mark) at_ mark := by
          unfold heads atMark
          split <;> rfl
        rw [hy] at h
        refine ⟨n1, e1, m1, rfl, ?_, fun he => ?_, fun he => ?_⟩
        · split at h
          · simp only [Option.some.injEq, Prod.mk.injEq] at h
            rw [h.2.2]; exact Nat.le_refl _
          · simp only [Option.some.injEq, Prod.mk.injEq] at h
            rw [← h.2.2]
            refine Nat.le_trans (wt_set_le _ (l.length + 1) (heads (atMark (m1.getD (l.length + 1) nd0) mark) at_ mark) ?_) (wt_set_le _ _ _ (by simp))
            unfold heads atMark
            split <;> exact Nat.le_refl _
        · rw [if_pos he] at h
          simp only [Option.some.injEq, Prod.mk.injEq] at h
          exact h
        · rw [if_neg (by simpa using he)] at h
          simp only [Option.some.injEq, Prod.mk.injEq] at h
          exact h
end Go.Proofs.YtmindclciogneaaDoor
