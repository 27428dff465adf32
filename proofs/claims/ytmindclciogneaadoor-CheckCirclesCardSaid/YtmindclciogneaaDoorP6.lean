/- The model of inline: places go on, the list stays small, the fuel does. -/
import Derived.Test.YtmindclciogneaaDoorP5
namespace Go.Proofs.YtmindclciogneaaDoor
open Go.RowKit

theorem skipB_ge (b : Bs) (k : Nat) : k ≤ skipB b k := by unfold skipB; omega

/-- Places go on; nodes and kids are at most twice the bytes. -/
structure Size (f : Nat) : Prop where
  node : ∀ b at_ flow depth l n e m, nodeM f b at_ flow depth l = some (n, e, m) → at_ ≤ b.length → wt m ≤ wt l + 2 * (b.length - at_) + 3 ∧ (e = 0 → at_ ≤ n ∧ wt m ≤ wt l + 2 * (n - at_) + 1)
  coll : ∀ b i at_ depth l e m, collM f b i at_ depth l = some (e, m) → at_ < b.length → i < l.length → wt m ≤ wt l + 2 * (b.length - at_) + 2 ∧ (e = 0 → at_ < (m.getD i nd0).stop ∧ wt m ≤ wt l + 2 * ((m.getD i nd0).stop - at_))
  loop : ∀ b i at_ depth mp l e m, loopM f b i at_ depth mp l = some (e, m) → at_ ≤ b.length → i < l.length → wt m ≤ wt l + 2 * (b.length - at_) + 4 ∧ (e = 0 → at_ < (m.getD i nd0).stop ∧ wt m ≤ wt l + 2 * ((m.getD i nd0).stop - at_))
  item : ∀ b i at_ depth l n e m, itemM f b i at_ depth l = some (n, e, m) → at_ ≤ b.length → i < l.length → wt m ≤ wt l + 2 * (b.length - at_) + 3 ∧ (e = 0 → at_ ≤ n ∧ wt m ≤ wt l + 2 * (n - at_) + 2)
  pair : ∀ b i at_ depth l n e m, pairM f b i at_ depth l = some (n, e, m) → at_ ≤ b.length → i < l.length → wt m ≤ wt l + 2 * (b.length - at_) + 3 ∧ (e = 0 → at_ ≤ n ∧ wt m ≤ wt l + 2 * (n - at_) + 2)
theorem getD_app_last (l : List Nd) (x : Nd) : (l ++ [x]).getD l.length nd0 = x := by simp [List.getD_eq_getElem?_getD]
theorem wt_set_kids (l : List Nd) (i : Nat) (z : Nd) (h : z.kids = (l.getD i nd0).kids) : wt (l.set i z) = wt l := by
  by_cases hi : i < l.length
  · have := wt_set l i z hi
    rw [h] at this
    omega
  · rw [List.set_eq_of_length_le (by omega)]

theorem size_node (f : Nat) (F : Size f) : ∀ b at_ flow depth l n e m, nodeM (f + 1) b at_ flow depth l = some (n, e, m) → at_ ≤ b.length → wt m ≤ wt l + 2 * (b.length - at_) + 3 ∧ (e = 0 → at_ ≤ n ∧ wt m ≤ wt l + 2 * (n - at_) + 1) := by
  intro b at_ flow depth l n e m h hat
  have hfl := ((facts (f + 1)).node _ _ _ _ _ _ _ _ h).2.2.2 hat
  rw [nodeM] at h
  dsimp only at h
  have hp := propsB_le (b.drop at_)
  rw [List.length_drop] at hp
  generalize propsB (b.drop at_) = P at *
  obtain ⟨⟨tag, anchor⟩, k, ok⟩ := P
  dsimp only at h hp
  split at h
  · simp only [Option.some.injEq, Prod.mk.injEq] at h
    obtain ⟨rfl, rfl, rfl⟩ := h
    exact ⟨by omega, by omega⟩
  · have hs : skipB b (at_ + k) ≤ b.length := skipB_bound b _ (by omega)
    have hg := skipB_ge b (at_ + k)
    generalize skipB b (at_ + k) = at1 at *
    split at h
    · split at h
      · simp only [Option.some.injEq, Prod.mk.injEq] at h
        obtain ⟨rfl, rfl, rfl⟩ := h
        simp only [wt_app, wt_one]
        exact ⟨by simp only [nd0, List.length_nil]; omega, by omega⟩
      · simp only [Option.some.injEq, Prod.mk.injEq] at h
        obtain ⟨rfl, rfl, rfl⟩ := h
        simp only [wt_app, wt_one, Nd.done, nd0, List.length_nil]
        exact ⟨by omega, fun _ => ⟨by omega, by omega⟩⟩
    · split at h
      · rename_i hst
        have hst := isB_lt _ _ _ hst
        split at h
        · cases h
        · rename_i e1 m1 hc
          have hF := F.coll _ _ _ _ _ _ _ hc hst (by simp)
          simp only [wt_app, wt_one] at hF
          have h0 : nd0.kids.length = 0 := rfl
          simp only [h0] at hF
          split at h
          · rename_i he
            simp only [Option.some.injEq, Prod.mk.injEq] at h
            obtain ⟨rfl, rfl, rfl⟩ := h
            exact ⟨by omega, fun h => absurd h he⟩
          · rename_i he
            simp only [Option.some.injEq, Prod.mk.injEq] at h
            obtain ⟨rfl, rfl, rfl⟩ := h
            rw [wt_set_kids _ _ _ (by rfl)]
            have := hF.2 (by omega)
            simp only [Nd.done] at *
            exact ⟨by omega, fun _ => ⟨by omega, by omega⟩⟩
      · have ht := textB_le b at1 flow
        rw [List.length_drop] at ht
        generalize textB b at1 flow = t at *
        obtain ⟨value, style, k2, ok2⟩ := t
        dsimp only at h ht
        split at h
        · simp only [Option.some.injEq, Prod.mk.injEq] at h
          obtain ⟨rfl, rfl, rfl⟩ := h
          simp only [wt_app, wt_one, nd0, List.length_nil]
          exact ⟨by omega, by omega⟩
        · rename_i hok
          have ht := ht (by simpa using hok)
          simp only [Option.some.injEq, Prod.mk.injEq] at h
          obtain ⟨rfl, rfl, rfl⟩ := h
          simp only [wt_app, wt_one]
          have hk : ∀ y : Nd, y.kids.length = 0 → y.done.kids.length = 0 := fun y h => h
          rw [hk _ (by split <;> (try split) <;> rfl)]
          refine ⟨by omega, fun _ => ⟨?_, by omega⟩⟩
          simp only [Nd.done]
          split
          · dsimp only; omega
          · split
            · exact Nat.le_refl _
            · dsimp only; omega
theorem size_coll (f : Nat) (F : Size f) : ∀ b i at_ depth l e m, collM (f + 1) b i at_ depth l = some (e, m) → at_ < b.length → i < l.length → wt m ≤ wt l + 2 * (b.length - at_) + 2 ∧ (e = 0 → at_ < (m.getD i nd0).stop ∧ wt m ≤ wt l + 2 * ((m.getD i nd0).stop - at_)) := by
  intro b i at_ depth l e m h hat hi
  obtain ⟨h1, h2⟩ := coll_inv _ _ _ _ _ _ _ _ h
  by_cases hd : 64 ≤ depth
  · obtain ⟨rfl, rfl⟩ := h1 hd
    exact ⟨by omega, by omega⟩
  · obtain ⟨l1, hV⟩ := h2 hd
    have hw : wt l1 = wt l := by rw [hV.first]; exact wt_set_kids _ _ _ rfl
    have hl : l1.length = l.length := by rw [hV.first]; exact List.length_set
    have hs := skipB_bound b (at_ + 1) (by omega)
    have hg := skipB_ge b (at_ + 1)
    have he := hV.ends
    have hm := hV.more
    cases hq : isB b (skipB b (at_ + 1)) (endS (isB b at_ [123]))
    · have := F.loop _ _ _ _ _ _ _ _ (hm hq) hs (by omega)
      exact ⟨by omega, fun h0 => by have := this.2 h0; exact ⟨by omega, by omega⟩⟩
    · obtain ⟨rfl, rfl⟩ := he hq
      have hw2 : wt (l1.set i { l1.getD i nd0 with stop := skipB b (at_ + 1) + 1 }) = wt l1 := wt_set_kids _ _ _ rfl
      rw [getD_set_same _ _ _ (by omega), hw2]
      dsimp only
      exact ⟨by omega, fun _ => ⟨by omega, by omega⟩⟩
theorem size_loop (f : Nat) (F : Size f) : ∀ b i at_ depth mp l e m, loopM (f + 1) b i at_ depth mp l = some (e, m) → at_ ≤ b.length → i < l.length → wt m ≤ wt l + 2 * (b.length - at_) + 4 ∧ (e = 0 → at_ < (m.getD i nd0).stop ∧ wt m ≤ wt l + 2 * ((m.getD i nd0).stop - at_)) := by
  intro b i at_ depth mp l e m h hat hi
  obtain ⟨x1, e1, m1, hV⟩ := loop_inv _ _ _ _ _ _ _ _ _ h
  have hE : wt m1 ≤ wt l + 2 * (b.length - at_) + 3 ∧ (e1 = 0 → at_ ≤ x1 ∧ wt m1 ≤ wt l + 2 * (x1 - at_) + 2) := by
    have := hV.entry
    unfold entryM at this
    cases mp
    · exact F.item _ _ _ _ _ _ _ _ this hat hi
    · exact F.pair _ _ _ _ _ _ _ _ this hat hi
  have hx := hV.within hat
  by_cases h0 : e1 = 0
  · have hs := skipB_bound b x1 hx
    have hg := skipB_ge b x1
    have hE2 := hE.2 h0
    have hgr := hV.grows
    cases hq : isB b (skipB b x1) (endS mp)
    · cases hq2 : isB b (skipB b x1) [44]
      · obtain ⟨rfl, rfl⟩ := hV.bad h0 hq hq2
        exact ⟨by omega, by omega⟩
      · have hlt := isB_lt _ _ _ hq2
        have hs2 := skipB_bound b (skipB b x1 + 1) (by omega)
        have hg2 := skipB_ge b (skipB b x1 + 1)
        have := F.loop _ _ _ _ _ _ _ _ (hV.more h0 hq hq2) hs2 (by omega)
        exact ⟨by omega, fun h0 => by have := this.2 h0; exact ⟨by omega, by omega⟩⟩
    · have hlt := isB_lt _ _ _ hq
      obtain ⟨rfl, rfl⟩ := hV.ends h0 hq
      have hw2 : wt (m1.set i { m1.getD i nd0 with stop := skipB b x1 + 1 }) = wt m1 := wt_set_kids _ _ _ rfl
      rw [getD_set_same _ _ _ (by omega), hw2]
      dsimp only
      exact ⟨by omega, fun _ => ⟨by omega, by omega⟩⟩
  · obtain ⟨rfl, rfl⟩ := hV.err h0
    exact ⟨by omega, fun h => absurd h h0⟩
theorem size_item (f : Nat) (F : Size f) : ∀ b i at_ depth l n e m, itemM (f + 1) b i at_ depth l = some (n, e, m) → at_ ≤ b.length → i < l.length → wt m ≤ wt l + 2 * (b.length - at_) + 3 ∧ (e = 0 → at_ ≤ n ∧ wt m ≤ wt l + 2 * (n - at_) + 2) := by
  intro b i at_ depth l n e m h hat hi
  rw [itemM] at h
  split at h
  · cases h
  · rename_i n1 e1 m1 h1
    have hF := F.node _ _ _ _ _ _ _ _ h1 hat
    have hG := (facts f).node _ _ _ _ _ _ _ _ h1
    dsimp only at h
    split at h
    · rename_i he
      simp only [Option.some.injEq, Prod.mk.injEq] at h
      obtain ⟨rfl, rfl, rfl⟩ := h
      exact ⟨hF.1, fun h => absurd h he⟩
    · split at h
      · simp only [Option.some.injEq, Prod.mk.injEq] at h
        obtain ⟨rfl, rfl, rfl⟩ := h
        exact ⟨hF.1, by omega⟩
      · rename_i he _
        simp only [Option.some.injEq, Prod.mk.injEq] at h
        obtain ⟨rfl, rfl, rfl⟩ := h
        have hw := wt_set m1 i { m1.getD i nd0 with kids := (m1.getD i nd0).kids ++ [l.length] } (by omega)
        simp only [List.length_append, List.length_singleton] at hw
        have := hF.2 (by omega)
        have hn := hG.2.2.2 hat
        exact ⟨by omega, fun _ => ⟨by omega, by omega⟩⟩
theorem size_pair (f : Nat) (F : Size f) : ∀ b i at_ depth l n e m, pairM (f + 1) b i at_ depth l = some (n, e, m) → at_ ≤ b.length → i < l.length → wt m ≤ wt l + 2 * (b.length - at_) + 3 ∧ (e = 0 → at_ ≤ n ∧ wt m ≤ wt l + 2 * (n - at_) + 2) := by
  intro b i at_ depth l n e m h hat hi
  rw [pairM] at h
  have ht := textB_le b at_ true
  rw [List.length_drop] at ht
  generalize textB b at_ true = t at *
  obtain ⟨value, style, k2, ok2⟩ := t
  dsimp only at h ht
  split at h
  · simp only [Option.some.injEq, Prod.mk.injEq] at h
    obtain ⟨rfl, rfl, rfl⟩ := h
    exact ⟨by omega, by omega⟩
  · rename_i hok
    simp only [Bool.or_eq_true, Bool.not_eq_true', not_or, Bool.not_eq_false, beq_iff_eq] at hok
    have ht := ht hok.1.1
    have hk0 : k2 ≠ 0 := hok.1.2
    have hg := skipB_ge b (at_ + k2)
    generalize hM : skipB b (at_ + k2) + 1 = mark at *
    split at h
    · simp only [Option.some.injEq, Prod.mk.injEq] at h
      obtain ⟨rfl, rfl, rfl⟩ := h
      simp only [wt_app, wt_one, List.length_nil]
      exact ⟨by omega, by omega⟩
    · rename_i hmk
      simp only [Bool.or_eq_true, Bool.not_eq_true', not_or, Bool.not_eq_false] at hmk
      have hst := isB_lt _ _ _ hmk.1
      split at h
      · cases h
      · rename_i n1 e1 m1 h1
        have hsk := skipB_bound b mark (by omega)
        have hsg := skipB_ge b mark
        have hF := F.node _ _ _ _ _ _ _ _ h1 hsk
        have hG := (facts f).node _ _ _ _ _ _ _ _ h1
        simp only [wt_app, wt_one, List.length_nil, List.length_append, List.length_singleton] at hF hG
        split at h
        · rename_i he
          simp only [Option.some.injEq, Prod.mk.injEq] at h
          obtain ⟨rfl, rfl, rfl⟩ := h
          exact ⟨by omega, fun h => absurd h he⟩
        · simp only [Option.some.injEq, Prod.mk.injEq] at h
          obtain ⟨rfl, rfl, rfl⟩ := h
          have hn := hG.2.2.2 hsk
          have hF2 := hF.2 (by omega)
          have hl2 : ∀ y : Nd, (m1.set (l.length + 1) y).length = m1.length := fun y => List.length_set
          have hw1 : ∀ y : Nd, y.kids = (m1.getD (l.length + 1) nd0).kids → wt (m1.set (l.length + 1) y) = wt m1 := fun y hy => wt_set_kids _ _ _ hy
          have hy := hw1 (if noneB (m1.getD (l.length + 1) nd0) = true then { m1.getD (l.length + 1) nd0 with start := mark, stop := mark, head := at_, mark := mark } else { m1.getD (l.length + 1) nd0 with head := at_, mark := mark }) (by split <;> rfl)
          have hl3 := hl2 (if noneB (m1.getD (l.length + 1) nd0) = true then { m1.getD (l.length + 1) nd0 with start := mark, stop := mark, head := at_, mark := mark } else { m1.getD (l.length + 1) nd0 with head := at_, mark := mark })
          generalize m1.set (l.length + 1) (if noneB (m1.getD (l.length + 1) nd0) = true then { m1.getD (l.length + 1) nd0 with start := mark, stop := mark, head := at_, mark := mark } else { m1.getD (l.length + 1) nd0 with head := at_, mark := mark }) = m2 at *
          have hw := wt_set m2 i { m2.getD i nd0 with kids := (m2.getD i nd0).kids ++ [l.length, l.length + 1] } (by omega)
          simp only [List.length_append, List.length_cons, List.length_nil] at hw
          exact ⟨by omega, fun _ => ⟨by omega, by omega⟩⟩
theorem size_all : ∀ f, Size f
  | 0 => ⟨fun b at_ flow depth l n e m h => by simp [nodeM] at h, fun b i at_ depth l e m h => by simp [collM] at h, fun b i at_ depth mp l e m h => by simp [loopM] at h, fun b i at_ depth l n e m h => by simp [itemM] at h, fun b i at_ depth l n e m h => by simp [pairM] at h⟩
  | f + 1 => ⟨size_node f (size_all f), size_coll f (size_all f), size_loop f (size_all f), size_item f (size_all f), size_pair f (size_all f)⟩

/-- So much fuel does. -/
structure Tot (f : Nat) : Prop where
  node : ∀ b at_ flow depth l, at_ ≤ b.length → 4 * (b.length - at_) + 1 ≤ f → ∃ r, nodeM f b at_ flow depth l = some r
  coll : ∀ b i at_ depth l, at_ < b.length → i < l.length → 4 * (b.length - at_) ≤ f → ∃ r, collM f b i at_ depth l = some r
  loop : ∀ b i at_ depth mp l, at_ ≤ b.length → i < l.length → 4 * (b.length - at_) + 3 ≤ f → ∃ r, loopM f b i at_ depth mp l = some r
  item : ∀ b i at_ depth l, at_ ≤ b.length → i < l.length → 4 * (b.length - at_) + 2 ≤ f → ∃ r, itemM f b i at_ depth l = some r
  pair : ∀ b i at_ depth l, at_ ≤ b.length → i < l.length → 4 * (b.length - at_) + 2 ≤ f → ∃ r, pairM f b i at_ depth l = some r
theorem tot_all : ∀ f, Tot f
  | 0 => ⟨fun b at_ flow depth l _ h => by omega, fun b i at_ depth l _ _ h => by omega, fun b i at_ depth mp l _ _ h => by omega, fun b i at_ depth l _ _ h => by omega, fun b i at_ depth l _ _ h => by omega⟩
  | f + 1 => by
    have T := tot_all f
    refine ⟨fun b at_ flow depth l hat h => ?_, fun b i at_ depth l hat hi h => ?_, fun b i at_ depth mp l hat hi h => ?_, fun b i at_ depth l hat hi h => ?_, fun b i at_ depth l hat hi h => ?_⟩
    · rw [nodeM]
      dsimp only
      split
      · exact ⟨_, rfl⟩
      · have hg := skipB_ge b (at_ + (propsB (b.drop at_)).2.1)
        generalize skipB b (at_ + (propsB (b.drop at_)).2.1) = at1 at *
        split
        · split <;> exact ⟨_, rfl⟩
        · split
          · rename_i hst
            have hst := isB_lt _ _ _ hst
            obtain ⟨r, hr⟩ := T.coll b l.length at1 depth (l ++ [{ nd0 with tag := (propsB (b.drop at_)).1.1, anchor := (propsB (b.drop at_)).1.2, start := if (propsB (b.drop at_)).2.1 = 0 then at1 else at_, stop := at_ + (propsB (b.drop at_)).2.1 }]) hst (by simp) (by omega)
            rw [hr]
            dsimp only
            split <;> exact ⟨_, rfl⟩
          · split <;> exact ⟨_, rfl⟩
    · rw [collM]
      dsimp only
      split
      · exact ⟨_, rfl⟩
      · have hg := skipB_ge b (at_ + 1)
        have hs := skipB_bound b (at_ + 1) (by omega)
        generalize skipB b (at_ + 1) = at1 at *
        generalize (if isB b at_ [123] = true then ([125] : Bs) else [93]) = es
        split
        · exact ⟨_, rfl⟩
        · exact T.loop _ _ _ _ _ _ hs (by rw [List.length_set]; exact hi) (by omega)
    · rw [loopM]
      have he : (if mp = true then ([125] : Bs) else [93]) = endS mp := rfl
      have hq : (if mp = true then pairM f b i at_ depth l else itemM f b i at_ depth l) = entryM f b i at_ depth mp l := rfl
      rw [he, hq]
      have hE : ∃ r, entryM f b i at_ depth mp l = some r := by
        unfold entryM
        cases mp
        · exact T.item _ _ _ _ _ hat hi (by omega)
        · exact T.pair _ _ _ _ _ hat hi (by omega)
      obtain ⟨⟨x1, e1, m1⟩, hr⟩ := hE
      rw [hr]
      dsimp only
      have hF : l.length ≤ m1.length ∧ wt l ≤ wt m1 ∧ (at_ ≤ b.length → x1 ≤ b.length) := by
        unfold entryM at hr
        cases mp
        · exact (facts f).item _ _ _ _ _ _ _ _ hr
        · exact (facts f).pair _ _ _ _ _ _ _ _ hr
      have hS : e1 = 0 → at_ ≤ x1 := by
        unfold entryM at hr
        cases mp
        · exact fun h0 => (((size_all f).item _ _ _ _ _ _ _ _ hr hat hi).2 h0).1
        · exact fun h0 => (((size_all f).pair _ _ _ _ _ _ _ _ hr hat hi).2 h0).1
      split
      · exact ⟨_, rfl⟩
      · rename_i he
        split
        · exact ⟨_, rfl⟩
        · split
          · exact ⟨_, rfl⟩
          · rename_i hc
            have hlt := isB_lt b (skipB b x1) [44] (by simpa using hc)
            have hg := skipB_ge b x1
            have hg2 := skipB_ge b (skipB b x1 + 1)
            have hs2 := skipB_bound b (skipB b x1 + 1) (by omega)
            have := hS (by simpa using he)
            exact T.loop _ _ _ _ _ _ hs2 (by omega) (by omega)
    · rw [itemM]
      obtain ⟨⟨n1, e1, m1⟩, hr⟩ := T.node b at_ true (depth + 1) l hat (by omega)
      rw [hr]
      dsimp only
      split
      · exact ⟨_, rfl⟩
      · split <;> exact ⟨_, rfl⟩
    · rw [pairM]
      dsimp only
      split
      · exact ⟨_, rfl⟩
      · have hg := skipB_ge b (at_ + (textB b at_ true).2.2.1)
        generalize hM : skipB b (at_ + (textB b at_ true).2.2.1) + 1 = mark
        split
        · exact ⟨_, rfl⟩
        · rename_i hmk
          simp only [Bool.or_eq_true, Bool.not_eq_true', not_or, Bool.not_eq_false] at hmk
          have hst := isB_lt _ _ _ hmk.1
          have hsg := skipB_ge b mark
          have hsk := skipB_bound b mark (by omega)
          obtain ⟨⟨n1, e1, m1⟩, hr⟩ := T.node b (skipB b mark) true (depth + 1) (l ++ [⟨1, (textB b at_ true).2.1, tagB 1 (textB b at_ true).2.1 [] (textB b at_ true).1, [], (textB b at_ true).1, at_, at_ + (textB b at_ true).2.2.1, at_, at_, []⟩]) hsk (by omega)
          rw [hr]
          dsimp only
          split
          · exact ⟨_, rfl⟩
          · exact ⟨_, rfl⟩
/-- What Take, what Parse answers, of any bytes. -/
theorem takeM_some (b : Bs) (flow : Bool) (depth : Nat) : ∃ n e m, nodeM (4 * b.length + 1) b 0 flow depth [] = some (n, e, m) ∧ wt m ≤ 2 * b.length + 3 := by
  obtain ⟨⟨n, e, m⟩, h⟩ := (tot_all (4 * b.length + 1)).node b 0 flow depth [] (by omega) (by omega)
  have := ((size_all _).node _ _ _ _ _ _ _ _ h (by omega)).1
  have h0 : wt [] = 0 := rfl
  exact ⟨n, e, m, h, by omega⟩
end Go.Proofs.YtmindclciogneaaDoor
