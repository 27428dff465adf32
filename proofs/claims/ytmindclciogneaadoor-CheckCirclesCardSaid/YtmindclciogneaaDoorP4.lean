/- What the model of inline keeps: lists grow, places lie within. -/
import Derived.Test.YtmindclciogneaaDoorP3
namespace Go.Proofs.YtmindclciogneaaDoor
open Go.RowKit

/-- Nodes, and their kids, counted. -/
def wt (l : List Nd) : Nat := (l.map fun y => y.kids.length + 1).sum
theorem wt_app (l m : List Nd) : wt (l ++ m) = wt l + wt m := by simp [wt]
theorem wt_one (y : Nd) : wt [y] = y.kids.length + 1 := by simp [wt]
theorem len_le_wt : ∀ l : List Nd, l.length ≤ wt l
  | [] => Nat.le_refl _
  | y :: t => by
    have h := len_le_wt t
    have e : wt (y :: t) = y.kids.length + 1 + wt t := by simp [wt]
    rw [e, List.length_cons]
    omega
theorem wt_set : ∀ (l : List Nd) (i : Nat) (z : Nd), i < l.length → wt (l.set i z) + (l.getD i nd0).kids.length = wt l + z.kids.length
  | [], i, z, h => by simp at h
  | y :: t, 0, z, h => by simp [wt]; omega
  | y :: t, i + 1, z, h => by
    have e := wt_set t i z (by simpa using h)
    have e1 : wt ((y :: t).set (i + 1) z) = y.kids.length + 1 + wt (t.set i z) := by simp [wt]
    have e2 : wt (y :: t) = y.kids.length + 1 + wt t := by simp [wt]
    have e3 : (y :: t).getD (i + 1) nd0 = t.getD i nd0 := rfl
    rw [e1, e2, e3]
    omega
theorem wt_set_le (l : List Nd) (i : Nat) (z : Nd) (h : (l.getD i nd0).kids.length ≤ z.kids.length) : wt l ≤ wt (l.set i z) := by
  by_cases hi : i < l.length
  · have := wt_set l i z hi
    omega
  · rw [List.set_eq_of_length_le (by omega)]
    exact Nat.le_refl _
theorem kids_le_wt (l : List Nd) (i : Nat) (hi : i < l.length) : (l.getD i nd0).kids.length + 1 ≤ wt l := by
  have h := wt_set l i nd0 hi
  have h2 := len_le_wt (l.set i nd0)
  rw [List.length_set] at h2
  have h0 : nd0.kids.length = 0 := rfl
  rw [h0] at h
  omega
theorem getD_set_same (l : List Nd) (i : Nat) (z : Nd) (hi : i < l.length) : (l.set i z).getD i nd0 = z := by
  simp [List.getD_eq_getElem?_getD, hi]
theorem skipB_bound (b : Bs) (k : Nat) (h : k ≤ b.length) : skipB b k ≤ b.length := (skipB_le b k h).2

/-- What a node, a collection, its items keep. -/
structure Facts (f : Nat) : Prop where
  node : ∀ b at_ flow depth l n e m, nodeM f b at_ flow depth l = some (n, e, m) → l.length ≤ m.length ∧ wt l ≤ wt m ∧ (e = 0 → l.length < m.length) ∧ (at_ ≤ b.length → n ≤ b.length)
  coll : ∀ b i at_ depth l e m, collM f b i at_ depth l = some (e, m) → l.length ≤ m.length ∧ wt l ≤ wt m ∧ (at_ < b.length → e = 0 → i < l.length → (m.getD i nd0).stop ≤ b.length)
  loop : ∀ b i at_ depth mp l e m, loopM f b i at_ depth mp l = some (e, m) → l.length ≤ m.length ∧ wt l ≤ wt m ∧ (at_ ≤ b.length → e = 0 → i < l.length → (m.getD i nd0).stop ≤ b.length)
  item : ∀ b i at_ depth l n e m, itemM f b i at_ depth l = some (n, e, m) → l.length ≤ m.length ∧ wt l ≤ wt m ∧ (at_ ≤ b.length → n ≤ b.length)
  pair : ∀ b i at_ depth l n e m, pairM f b i at_ depth l = some (n, e, m) → l.length ≤ m.length ∧ wt l ≤ wt m ∧ (at_ ≤ b.length → n ≤ b.length)

theorem facts_node (f : Nat) (F : Facts f) : ∀ b at_ flow depth l n e m, nodeM (f + 1) b at_ flow depth l = some (n, e, m) → l.length ≤ m.length ∧ wt l ≤ wt m ∧ (e = 0 → l.length < m.length) ∧ (at_ ≤ b.length → n ≤ b.length) := by
  intro b at_ flow depth l n e m h
  rw [nodeM] at h
  dsimp only at h
  have hp := propsB_le (b.drop at_)
  rw [List.length_drop] at hp
  generalize propsB (b.drop at_) = P at *
  obtain ⟨⟨tag, anchor⟩, k, ok⟩ := P
  dsimp only at h hp
  split at h
  · simp only [Option.some.injEq, Prod.mk.injEq] at h
    obtain ⟨rfl, rfl, rfl⟩ := h
    exact ⟨Nat.le_refl _, Nat.le_refl _, by omega, by omega⟩
  · have hs : at_ ≤ b.length → skipB b (at_ + k) ≤ b.length := fun h => skipB_bound b _ (by omega)
    generalize skipB b (at_ + k) = at1 at *
    split at h
    · rename_i hst
      have hst := isB_lt _ _ _ hst
      have ha := alias_le (b.drop at1)
      rw [List.length_drop] at ha
      split at h
      · simp only [Option.some.injEq, Prod.mk.injEq] at h
        obtain ⟨rfl, rfl, rfl⟩ := h
        simp only [List.length_append, List.length_singleton, wt_app, wt_one]
        exact ⟨by omega, by omega, by omega, by omega⟩
      · simp only [Option.some.injEq, Prod.mk.injEq] at h
        obtain ⟨rfl, rfl, rfl⟩ := h
        simp only [List.length_append, List.length_singleton, wt_app, wt_one]
        exact ⟨by omega, by omega, by omega, by omega⟩
    · split at h
      · rename_i hst
        have hst := isB_lt _ _ _ hst
        split at h
        · cases h
        · rename_i e1 m1 hc
          have hF := F.coll _ _ _ _ _ _ _ hc
          simp only [List.length_append, List.length_singleton, wt_app, wt_one] at hF
          split at h
          · rename_i he
            simp only [Option.some.injEq, Prod.mk.injEq] at h
            obtain ⟨rfl, rfl, rfl⟩ := h
            exact ⟨by omega, by omega, fun h => absurd h he, by omega⟩
          · rename_i he
            simp only [Option.some.injEq, Prod.mk.injEq] at h
            obtain ⟨rfl, rfl, rfl⟩ := h
            rw [List.length_set]
            refine ⟨by omega, Nat.le_trans (by omega) (wt_set_le _ _ _ (Nat.le_refl _)), by omega, fun _ => ?_⟩
            exact hF.2.2 hst (by omega) (by omega)
      · have ht := textB_le b at1 flow
        rw [List.length_drop] at ht
        generalize textB b at1 flow = t at *
        obtain ⟨value, style, k2, ok2⟩ := t
        dsimp only at h ht
        split at h
        · simp only [Option.some.injEq, Prod.mk.injEq] at h
          obtain ⟨rfl, rfl, rfl⟩ := h
          simp only [List.length_append, List.length_singleton, wt_app, wt_one]
          exact ⟨by omega, by omega, by omega, by omega⟩
        · rename_i hok
          have ht := ht (by simpa using hok)
          simp only [Option.some.injEq, Prod.mk.injEq] at h
          obtain ⟨rfl, rfl, rfl⟩ := h
          simp only [List.length_append, List.length_singleton, wt_app, wt_one]
          refine ⟨by omega, by omega, by omega, fun hle => ?_⟩
          have hs := hs hle
          simp only [Nd.done]
          split
          · dsimp only; omega
          · split
            · exact hle
            · dsimp only; omega
theorem facts_coll (f : Nat) (F : Facts f) : ∀ b i at_ depth l e m, collM (f + 1) b i at_ depth l = some (e, m) → l.length ≤ m.length ∧ wt l ≤ wt m ∧ (at_ < b.length → e = 0 → i < l.length → (m.getD i nd0).stop ≤ b.length) := by
  intro b i at_ depth l e m h
  rw [collM] at h
  dsimp only at h
  split at h
  · simp only [Option.some.injEq, Prod.mk.injEq] at h
    obtain ⟨rfl, rfl⟩ := h
    exact ⟨Nat.le_refl _, Nat.le_refl _, by omega⟩
  · generalize isB b at_ [123] = mp at *
    have hw : wt l ≤ wt (l.set i { l.getD i nd0 with kind := if mp = true then 3 else 2, style := 7 }) := wt_set_le _ _ _ (Nat.le_refl _)
    have hl : (l.set i { l.getD i nd0 with kind := if mp = true then 3 else 2, style := 7 }).length = l.length := List.length_set
    have hs : at_ < b.length → skipB b (at_ + 1) ≤ b.length := fun h => skipB_bound b _ (by omega)
    generalize l.set i { l.getD i nd0 with kind := if mp = true then 3 else 2, style := 7 } = l1 at *
    generalize skipB b (at_ + 1) = at1 at *
    generalize (if mp = true then ([125] : Bs) else [93]) = es at *
    split at h
    · rename_i hst
      have hst := isB_lt _ _ _ hst
      simp only [Option.some.injEq, Prod.mk.injEq] at h
      obtain ⟨rfl, rfl⟩ := h
      rw [List.length_set]
      refine ⟨by omega, Nat.le_trans hw (wt_set_le _ _ _ (Nat.le_refl _)), fun _ _ hi => ?_⟩
      rw [getD_set_same _ _ _ (by omega)]
      dsimp only
      omega
    · have := F.loop _ _ _ _ _ _ _ _ h
      exact ⟨by omega, by omega, fun h1 h2 h3 => this.2.2 (hs h1) h2 (by omega)⟩
theorem facts_loop (f : Nat) (F : Facts f) : ∀ b i at_ depth mp l e m, loopM (f + 1) b i at_ depth mp l = some (e, m) → l.length ≤ m.length ∧ wt l ≤ wt m ∧ (at_ ≤ b.length → e = 0 → i < l.length → (m.getD i nd0).stop ≤ b.length) := by
  intro b i at_ depth mp l e m h
  rw [loopM] at h
  split at h
  · cases h
  · rename_i at1 e1 l1 h1
    have hF : l.length ≤ l1.length ∧ wt l ≤ wt l1 ∧ (at_ ≤ b.length → at1 ≤ b.length) := by
      split at h1
      · exact F.pair _ _ _ _ _ _ _ _ h1
      · exact F.item _ _ _ _ _ _ _ _ h1
    clear h1
    dsimp only at h
    generalize (if mp = true then ([125] : Bs) else [93]) = es at *
    split at h
    · rename_i he
      simp only [Option.some.injEq, Prod.mk.injEq] at h
      obtain ⟨rfl, rfl⟩ := h
      exact ⟨hF.1, hF.2.1, fun _ h => absurd h he⟩
    · have hs : at_ ≤ b.length → skipB b at1 ≤ b.length := fun h => skipB_bound b _ (hF.2.2 h)
      generalize skipB b at1 = at2 at *
      split at h
      · rename_i hst
        have hst := isB_lt _ _ _ hst
        simp only [Option.some.injEq, Prod.mk.injEq] at h
        obtain ⟨rfl, rfl⟩ := h
        rw [List.length_set]
        refine ⟨hF.1, Nat.le_trans hF.2.1 (wt_set_le _ _ _ (Nat.le_refl _)), fun _ _ hi => ?_⟩
        rw [getD_set_same _ _ _ (by omega)]
        dsimp only
        omega
      · split at h
        · simp only [Option.some.injEq, Prod.mk.injEq] at h
          obtain ⟨rfl, rfl⟩ := h
          exact ⟨hF.1, hF.2.1, fun _ h => by omega⟩
        · rename_i hst
          have hst := isB_lt b at2 [44] (by simpa using hst)
          have := F.loop _ _ _ _ _ _ _ _ h
          exact ⟨by omega, by omega, fun h1 h2 h3 => this.2.2 (skipB_bound b _ (by omega)) h2 (by omega)⟩
theorem facts_item (f : Nat) (F : Facts f) : ∀ b i at_ depth l n e m, itemM (f + 1) b i at_ depth l = some (n, e, m) → l.length ≤ m.length ∧ wt l ≤ wt m ∧ (at_ ≤ b.length → n ≤ b.length) := by
  intro b i at_ depth l n e m h
  rw [itemM] at h
  split at h
  · cases h
  · rename_i n1 e1 m1 h1
    have hF := F.node _ _ _ _ _ _ _ _ h1
    dsimp only at h
    split at h
    · simp only [Option.some.injEq, Prod.mk.injEq] at h
      obtain ⟨rfl, rfl, rfl⟩ := h
      exact ⟨hF.1, hF.2.1, fun _ => Nat.zero_le _⟩
    · split at h
      · simp only [Option.some.injEq, Prod.mk.injEq] at h
        obtain ⟨rfl, rfl, rfl⟩ := h
        exact ⟨hF.1, hF.2.1, fun _ => Nat.zero_le _⟩
      · simp only [Option.some.injEq, Prod.mk.injEq] at h
        obtain ⟨rfl, rfl, rfl⟩ := h
        rw [List.length_set]
        exact ⟨hF.1, Nat.le_trans hF.2.1 (wt_set_le _ _ _ (by simp)), hF.2.2.2⟩
theorem facts_pair (f : Nat) (F : Facts f) : ∀ b i at_ depth l n e m, pairM (f + 1) b i at_ depth l = some (n, e, m) → l.length ≤ m.length ∧ wt l ≤ wt m ∧ (at_ ≤ b.length → n ≤ b.length) := by
  intro b i at_ depth l n e m h
  rw [pairM] at h
  have ht := textB_le b at_ true
  rw [List.length_drop] at ht
  generalize textB b at_ true = t at *
  obtain ⟨value, style, k2, ok2⟩ := t
  dsimp only at h ht
  split at h
  · simp only [Option.some.injEq, Prod.mk.injEq] at h
    obtain ⟨rfl, rfl, rfl⟩ := h
    exact ⟨Nat.le_refl _, Nat.le_refl _, fun _ => Nat.zero_le _⟩
  · rename_i hok
    simp only [Bool.or_eq_true, Bool.not_eq_true', not_or, Bool.not_eq_false] at hok
    have ht := ht hok.1.1
    generalize hM : skipB b (at_ + k2) + 1 = mark at *
    split at h
    · simp only [Option.some.injEq, Prod.mk.injEq] at h
      obtain ⟨rfl, rfl, rfl⟩ := h
      simp only [List.length_append, List.length_singleton, wt_app, wt_one]
      exact ⟨by omega, by omega, fun _ => Nat.zero_le _⟩
    · rename_i hmk
      simp only [Bool.or_eq_true, Bool.not_eq_true', not_or, Bool.not_eq_false] at hmk
      have hst := isB_lt _ _ _ hmk.1
      split at h
      · cases h
      · rename_i n1 e1 m1 h1
        have hF := F.node _ _ _ _ _ _ _ _ h1
        simp only [List.length_append, List.length_singleton, wt_app, wt_one] at hF
        have hsk := skipB_bound b mark (by omega)
        split at h
        · simp only [Option.some.injEq, Prod.mk.injEq] at h
          obtain ⟨rfl, rfl, rfl⟩ := h
          exact ⟨by omega, by omega, fun _ => Nat.zero_le _⟩
        · simp only [Option.some.injEq, Prod.mk.injEq] at h
          obtain ⟨rfl, rfl, rfl⟩ := h
          rw [List.length_set, List.length_set]
          refine ⟨by omega, Nat.le_trans (Nat.le_trans (by omega) (wt_set_le _ _ _ ?_)) (wt_set_le _ _ _ (by simp)), fun _ => hF.2.2.2 hsk⟩
          split <;> exact Nat.le_refl _
theorem facts : ∀ f, Facts f
  | 0 => ⟨fun b at_ flow depth l n e m h => by simp [nodeM] at h, fun b i at_ depth l e m h => by simp [collM] at h, fun b i at_ depth mp l e m h => by simp [loopM] at h, fun b i at_ depth l n e m h => by simp [itemM] at h, fun b i at_ depth l n e m h => by simp [pairM] at h⟩
  | f + 1 => ⟨facts_node f (facts f), facts_coll f (facts f), facts_loop f (facts f), facts_item f (facts f), facts_pair f (facts f)⟩
end Go.Proofs.YtmindclciogneaaDoor
