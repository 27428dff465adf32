/- The model's loop over a collection's entries, opened; a collection's beginning. -/
import Derived.Test.YtmindclciogneaaDoorP4
namespace Go.Proofs.YtmindclciogneaaDoor
open Go.RowKit

/-- The sign that ends a collection. -/
def endS (mp : Bool) : Bs := if mp then [125] else [93]
def entryM (f : Nat) (b : Bs) (i at_ depth : Nat) (mp : Bool) (l : List Nd) : Option (Nat × Nat × List Nd) := if mp then pairM f b i at_ depth l else itemM f b i at_ depth l
structure LoopInv (k : Nat) (b : Bs) (i x depth : Nat) (mp : Bool) (l : List Nd) (e : Nat) (m : List Nd) (x1 e1 : Nat) (m1 : List Nd) : Prop where
  entry : entryM k b i x depth mp l = some (x1, e1, m1)
  small : wt m1 ≤ wt m
  grows : l.length ≤ m1.length
  within : x ≤ b.length → x1 ≤ b.length
  err : ¬ e1 = 0 → e1 = e ∧ m1 = m
  ends : e1 = 0 → isB b (skipB b x1) (endS mp) = true → 0 = e ∧ m1.set i { m1.getD i nd0 with stop := skipB b x1 + 1 } = m
  bad : e1 = 0 → isB b (skipB b x1) (endS mp) = false → isB b (skipB b x1) [44] = false → 2 = e ∧ m1 = m
  more : e1 = 0 → isB b (skipB b x1) (endS mp) = false → isB b (skipB b x1) [44] = true → loopM k b i (skipB b (skipB b x1 + 1)) depth mp m1 = some (e, m)
theorem loop_inv (k : Nat) (b : Bs) (i x depth : Nat) (mp : Bool) (l : List Nd) (e : Nat) (m : List Nd) (h : loopM (k + 1) b i x depth mp l = some (e, m)) : ∃ x1 e1 m1, LoopInv k b i x depth mp l e m x1 e1 m1 := by
  rw [loopM] at h
  have he : (if mp = true then ([125] : Bs) else [93]) = endS mp := rfl
  have hq : (if mp = true then pairM k b i x depth l else itemM k b i x depth l) = entryM k b i x depth mp l := rfl
  rw [he, hq] at h
  cases hen : entryM k b i x depth mp l with
  | none => rw [hen] at h; cases h
  | some r =>
    obtain ⟨x1, e1, m1⟩ := r
    rw [hen] at h
    dsimp only at h
    have hF : l.length ≤ m1.length ∧ wt l ≤ wt m1 ∧ (x ≤ b.length → x1 ≤ b.length) := by
      unfold entryM at hen
      cases mp
      · exact (facts k).item _ _ _ _ _ _ _ _ hen
      · exact (facts k).pair _ _ _ _ _ _ _ _ hen
    refine ⟨x1, e1, m1, hen, ?_, hF.1, hF.2.2, fun h0 => ?_, fun h0 h1 => ?_, fun h0 h1 h2 => ?_, fun h0 h1 h2 => ?_⟩
    · split at h
      · simp only [Option.some.injEq, Prod.mk.injEq] at h
        rw [h.2]; exact Nat.le_refl _
      · split at h
        · simp only [Option.some.injEq, Prod.mk.injEq] at h
          rw [← h.2]; exact wt_set_le _ _ _ (Nat.le_refl _)
        · split at h
          · simp only [Option.some.injEq, Prod.mk.injEq] at h
            rw [h.2]; exact Nat.le_refl _
          · exact ((facts k).loop _ _ _ _ _ _ _ _ h).2.1
    · rw [if_pos h0] at h
      simpa using h
    · rw [if_neg (by simpa using h0), if_pos h1] at h
      simpa using h
    · rw [if_neg (by simpa using h0), if_neg (by rw [h1]; simp), if_pos (by rw [h2]; rfl)] at h
      simpa using h
    · rw [if_neg (by simpa using h0), if_neg (by rw [h1]; simp), if_neg (by rw [h2]; simp)] at h
      exact h
structure CollInv (f : Nat) (b : Bs) (i at_ depth : Nat) (l : List Nd) (e : Nat) (m : List Nd) (mp : Bool) (l1 : List Nd) : Prop where
  first : l1 = l.set i { l.getD i nd0 with kind := if mp then 3 else 2, style := 7 }
  ends : isB b (skipB b (at_ + 1)) (endS mp) = true → 0 = e ∧ l1.set i { l1.getD i nd0 with stop := skipB b (at_ + 1) + 1 } = m
  more : isB b (skipB b (at_ + 1)) (endS mp) = false → loopM f b i (skipB b (at_ + 1)) depth mp l1 = some (e, m)
theorem coll_inv (f : Nat) (b : Bs) (i at_ depth : Nat) (l : List Nd) (e : Nat) (m : List Nd) (h : collM (f + 1) b i at_ depth l = some (e, m)) :
    (64 ≤ depth → 3 = e ∧ l = m) ∧ (¬ 64 ≤ depth → ∃ l1, CollInv f b i at_ depth l e m (isB b at_ [123]) l1) := by
  rw [collM] at h
  dsimp only at h
  constructor
  · intro hd
    rw [if_pos hd] at h
    simpa using h
  · intro hd
    rw [if_neg hd] at h
    refine ⟨_, rfl, fun h1 => ?_, fun h1 => ?_⟩
    · unfold endS at h1
      rw [if_pos h1] at h
      simpa using h
    · unfold endS at h1
      rw [if_neg (by rw [h1]; simp)] at h
      exact h
end Go.Proofs.YtmindclciogneaaDoor
