/- The model's values stay; a plain scalar's text is short. -/
import Derived.Test.YtmindclciogneaaDoorP7
namespace Go.Proofs.YtmindclciogneaaDoor
open Go.RowKit

theorem textB_plain (b : Bs) (k : Nat) (flow : Bool) (h : (textB b k flow).2.1 = 1) : (textB b k flow).1.length ≤ b.length := by
  unfold textB at h ⊢
  split
  · rename_i h1; rw [if_pos h1] at h; cases h
  · rename_i h1
    rw [if_neg h1] at h
    split
    · rename_i h2; rw [if_pos h2] at h; cases h
    · rw [List.length_take, List.length_drop]
      omega
def Keeps (l m : List Nd) : Prop := l.length ≤ m.length ∧ ∀ j, j < l.length → (m.getD j nd0).value = (l.getD j nd0).value
theorem Keeps.refl (l : List Nd) : Keeps l l := ⟨Nat.le_refl _, fun _ _ => rfl⟩
theorem Keeps.trans {l m k : List Nd} (h : Keeps l m) (h2 : Keeps m k) : Keeps l k := ⟨Nat.le_trans h.1 h2.1, fun j hj => (h2.2 j (Nat.lt_of_lt_of_le hj h.1)).trans (h.2 j hj)⟩
theorem Keeps.app (l k : List Nd) : Keeps l (l ++ k) := ⟨by simp, fun j hj => by simp [List.getD_eq_getElem?_getD, List.getElem?_append_left hj]⟩
theorem Keeps.set (l : List Nd) (i : Nat) (z : Nd) (h : z.value = (l.getD i nd0).value) : Keeps l (l.set i z) := by
  refine ⟨by simp, fun j hj => ?_⟩
  by_cases hij : i = j
  · subst hij
    rw [getD_set_same _ _ _ hj, h]
  · simp [List.getD_eq_getElem?_getD, hij]
structure Kept (f : Nat) : Prop where
  node : ∀ b at_ flow depth l n e m, nodeM f b at_ flow depth l = some (n, e, m) → Keeps l m
  coll : ∀ b i at_ depth l e m, collM f b i at_ depth l = some (e, m) → Keeps l m
  loop : ∀ b i at_ depth mp l e m, loopM f b i at_ depth mp l = some (e, m) → Keeps l m
  item : ∀ b i at_ depth l n e m, itemM f b i at_ depth l = some (n, e, m) → Keeps l m
  pair : ∀ b i at_ depth l n e m, pairM f b i at_ depth l = some (n, e, m) → Keeps l m
theorem EndsIn.keeps {l : List Nd} {n e : Nat} {m l2 : List Nd} {y : Nd} (h : EndsIn l n e m l2 y) (h2 : Keeps l l2) : Keeps l m := by
  obtain ⟨_, _, rfl⟩ := h
  refine ⟨by simpa using h2.1, fun j hj => ?_⟩
  rw [← h2.2 j hj]
  simp [List.getD_eq_getElem?_getD, Nat.ne_of_gt hj]
theorem kept : ∀ f, Kept f
  | 0 => ⟨fun b at_ flow depth l n e m h => by simp [nodeM] at h, fun b i at_ depth l e m h => by simp [collM] at h, fun b i at_ depth mp l e m h => by simp [loopM] at h, fun b i at_ depth l n e m h => by simp [itemM] at h, fun b i at_ depth l n e m h => by simp [pairM] at h⟩
  | f + 1 => by
    have K := kept f
    refine ⟨fun b at_ flow depth l n e m h => ?_, fun b i at_ depth l e m h => ?_, fun b i at_ depth mp l e m h => ?_, fun b i at_ depth l n e m h => ?_, fun b i at_ depth l n e m h => ?_⟩
    · obtain ⟨h1, h2⟩ := node_inv _ _ _ _ _ _ _ _ _ h
      cases hok : (propsB (b.drop at_)).2.2
      · obtain ⟨_, _, rfl⟩ := h1 hok
        exact Keeps.refl _
      · have hV := h2 hok
        clear h1 h2 h
        generalize nodeX (propsB (b.drop at_)).1.1 (propsB (b.drop at_)).1.2 at_ (propsB (b.drop at_)).2.1 (skipB b (at_ + (propsB (b.drop at_)).2.1)) = X at *
        generalize skipB b (at_ + (propsB (b.drop at_)).2.1) = at1 at *
        generalize (propsB (b.drop at_)).2.1 = k at *
        cases hst : isB b at1 [42]
        · cases hbr : isB b at1 [91, 123]
          · cases ht : (textB b at1 flow).2.2.2
            · obtain ⟨_, _, rfl⟩ := hV.text_bad hst hbr ht
              exact Keeps.app _ _
            · by_cases h0 : (textB b at1 flow).2.2.1 = 0
              · by_cases hk : k = 0
                · exact (hV.text_no hst hbr ht h0 hk).keeps (Keeps.app _ _)
                · exact (hV.text_props hst hbr ht h0 hk).keeps (Keeps.app _ _)
              · exact (hV.text_some hst hbr ht (by omega)).keeps (Keeps.app _ _)
          · obtain ⟨e1, m1, hc, _, herr, hend⟩ := hV.coll hst hbr
            have hk := (Keeps.app l [X]).trans (K.coll _ _ _ _ _ _ _ hc)
            by_cases he : e1 = 0
            · exact (hend he).keeps hk
            · obtain ⟨_, _, rfl⟩ := herr he
              exact hk
        · by_cases hk : k = 0
          · cases ha : (takeAliasB (b.drop at1)).2.2
            · obtain ⟨_, _, rfl⟩ := hV.alias_bad hst (.inr ha)
              exact Keeps.app _ _
            · exact (hV.alias_ok hst hk ha).keeps (Keeps.app _ _)
          · obtain ⟨_, _, rfl⟩ := hV.alias_bad hst (.inl (by omega))
            exact Keeps.app _ _
    · obtain ⟨h1, h2⟩ := coll_inv _ _ _ _ _ _ _ _ h
      by_cases hd : 64 ≤ depth
      · obtain ⟨_, rfl⟩ := h1 hd
        exact Keeps.refl _
      · obtain ⟨l1, hV⟩ := h2 hd
        have hk : Keeps l l1 := by rw [hV.first]; exact Keeps.set _ _ _ rfl
        have he := hV.ends
        have hm := hV.more
        cases hq : isB b (skipB b (at_ + 1)) (endS (isB b at_ [123]))
        · exact hk.trans (K.loop _ _ _ _ _ _ _ _ (hm hq))
        · obtain ⟨_, rfl⟩ := he hq
          exact hk.trans (Keeps.set _ _ _ rfl)
    · obtain ⟨x1, e1, m1, hV⟩ := loop_inv _ _ _ _ _ _ _ _ _ h
      have hk : Keeps l m1 := by
        have := hV.entry
        unfold entryM at this
        cases mp
        · exact K.item _ _ _ _ _ _ _ _ this
        · exact K.pair _ _ _ _ _ _ _ _ this
      by_cases h0 : e1 = 0
      · cases hq : isB b (skipB b x1) (endS mp)
        · cases hq2 : isB b (skipB b x1) [44]
          · obtain ⟨_, rfl⟩ := hV.bad h0 hq hq2
            exact hk
          · exact hk.trans (K.loop _ _ _ _ _ _ _ _ (hV.more h0 hq hq2))
        · obtain ⟨_, rfl⟩ := hV.ends h0 hq
          exact hk.trans (Keeps.set _ _ _ rfl)
      · obtain ⟨_, rfl⟩ := hV.err h0
        exact hk
    · rw [itemM] at h
      split at h
      · cases h
      · rename_i n1 e1 m1 h1
        have hk := K.node _ _ _ _ _ _ _ _ h1
        dsimp only at h
        split at h
        · simp only [Option.some.injEq, Prod.mk.injEq] at h
          obtain ⟨rfl, rfl, rfl⟩ := h
          exact hk
        · split at h
          · simp only [Option.some.injEq, Prod.mk.injEq] at h
            obtain ⟨rfl, rfl, rfl⟩ := h
            exact hk
          · simp only [Option.some.injEq, Prod.mk.injEq] at h
            obtain ⟨rfl, rfl, rfl⟩ := h
            exact hk.trans (Keeps.set _ _ _ rfl)
    · rw [pairM] at h
      dsimp only at h
      split at h
      · simp only [Option.some.injEq, Prod.mk.injEq] at h
        obtain ⟨rfl, rfl, rfl⟩ := h
        exact Keeps.refl _
      · split at h
        · simp only [Option.some.injEq, Prod.mk.injEq] at h
          obtain ⟨rfl, rfl, rfl⟩ := h
          exact Keeps.app _ _
        · split at h
          · cases h
          · rename_i n1 e1 m1 h1
            have hk := (Keeps.app _ _).trans (K.node _ _ _ _ _ _ _ _ h1)
            split at h
            · simp only [Option.some.injEq, Prod.mk.injEq] at h
              obtain ⟨rfl, rfl, rfl⟩ := h
              exact hk
            · simp only [Option.some.injEq, Prod.mk.injEq] at h
              obtain ⟨rfl, rfl, rfl⟩ := h
              refine (hk.trans (Keeps.set _ _ _ ?_)).trans (Keeps.set _ _ _ rfl)
              split <;> rfl
end Go.Proofs.YtmindclciogneaaDoor
