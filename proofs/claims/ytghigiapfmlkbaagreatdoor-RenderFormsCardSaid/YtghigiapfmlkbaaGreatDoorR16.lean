/- render.inline. -/
import Derived.Test.YtghigiapfmlkbaaGreatDoorR15
namespace Go.Proofs.YtghigiapfmlkbaaGreatDoor
open Go.RowKit
attribute [local go_sem ↓] Go.wp_at_zero Go.wp_at_succ

/-- What a walk of render on one line carries. -/
structure LI (w0 w : World) (b bA bM : Nat) (vc : Value) (c : List Th) (flow : Bool) (an : Nat → Option Bs) (met : List Nat) : Prop where
  wr : WrAt w0 w b bA bM vc c flow
  an : AnAt w bA an
  met : MetAt w bM c.length met
theorem LI.below {w0 w w' : World} {b bA bM : Nat} {vc : Value} {c : List Th} {flow : Bool} {an : Nat → Option Bs} {met : List Nat} (h : LI w0 w b bA bM vc c flow an met) (hb : Below w.heap.size w w') : LI w0 w' b bA bM vc c flow an met :=
  ⟨h.wr.below hb, h.an.below hb, h.met.below hb⟩
theorem LI.small {w0 w w' : World} {b B bA bM : Nat} {vc : Value} {c : List Th} {flow : Bool} {an : Nat → Option Bs} {met met' : List Nat} (h : LI w0 w b bA bM vc c flow an met) (pl : Pl w0 b B bA bM) (hM : MetAt w' bM c.length met') (hg : w.grownBy w' (some bM)) : LI w0 w' b bA bM vc c flow an met' :=
  ⟨h.wr.grown hg (by simp; exact pl.mb) (fun k hk => by cases hk; exact pl.m0), h.an.kept hg (by simp; exact pl.am), hM⟩
/-- A row of strings that grows. -/
theorem LI.row {w0 w w' : World} {b bA bM B n : Nat} {vc v : Value} {c : List Th} {flow : Bool} {an : Nat → Option Bs} {met : List Nat} {xs : List Value} (h : LI w0 w b bA bM vc c flow an met) (ho : w.ownsRow B 9 1 v n xs) (hB : w0.heap.size ≤ B) (hg : w.grownBy w' v.ownBlock) : LI w0 w' b bA bM vc c flow an met := by
  have hne : ∀ (k : Nat) (o : Obj), w.heap[k]? = some o → (∀ cs, o ≠ .cells cs 9 (0, 0)) → v.ownBlock ≠ some k := fun k o hk h1 e => by
    obtain ⟨_, ⟨h2, _⟩ | ⟨g, cap, cur, h2, _, h3, _⟩⟩ := ho
    · rw [h2] at e; cases e
    · rw [h2] at e
      simp only [Value.ownBlock, Option.some.injEq] at e
      subst e
      rw [hk] at h3
      cases h3
      exact h1 _ rfl
  obtain ⟨p, buf, hb⟩ := h.wr.blk
  obtain ⟨n', _, hm⟩ := h.an.map
  obtain ⟨es, clock, hA⟩ := hm.block
  obtain ⟨es2, clock2, hM⟩ := h.met.map.mapF.block
  exact ⟨h.wr.grown hg (hne b _ hb (by simp)) (fun k hk => Nat.le_trans hB (World.ownsRow.lt ho k hk).1), h.an.kept hg (fun e => hne bA _ hA (by simp) e.symm), h.met.kept hg (fun e => hne bM _ hM (by simp) e.symm)⟩
theorem row_far {w : World} {bM B m n : Nat} {v : Value} {met : List Nat} {xs : List Value} (ho : w.ownsRow B 9 1 v n xs) (hM : MetAt w bM m met) : v.ownBlock = none ∨ v.ownBlock ≠ some bM := by
  obtain ⟨es, clock, hm⟩ := hM.map.mapF.block
  obtain ⟨_, ⟨h2, _⟩ | ⟨g, cap, cur, h2, _, h3, _⟩⟩ := ho
  · exact .inl (by rw [h2]; rfl)
  · right
    intro e
    rw [h2] at e
    simp only [Value.ownBlock, Option.some.injEq] at e
    subst e
    rw [h3] at hm
    simp at hm
theorem grown_new {w w1 w2 : World} {row row' : Option Nat} (h : w.grownBy w1 row) (k : w1.grownBy w2 row') (hr : ∀ j, row' = some j → w.heap.size ≤ j) : w.grownBy w2 row :=
  ⟨k.os.trans h.os, k.tape.trans h.tape, k.output.trans h.output, Nat.le_trans h.size k.size, fun i hi hne => (k.block i (Nat.lt_of_lt_of_le hi h.size) (fun e => by have := hr i e.symm; omega)).trans (h.block i hi hne)⟩
theorem row_shape {w : World} {B e size n : Nat} {v : Value} {xs : List Value} (h : w.ownsRow B e size v n xs) : ∃ A c, v = .slice A n c := by
  obtain ⟨_, ⟨rfl, h0⟩ | ⟨g, cap, cur, rfl, _⟩⟩ := h
  · exact ⟨none, 0, by rw [h0]⟩
  · exact ⟨_, _, rfl⟩
theorem join_le (M : Nat) (sep : Bs) : ∀ xs : List Bs, (∀ x ∈ xs, x.length ≤ M) → (Lib.join xs sep).length ≤ xs.length * (M + sep.length)
  | [], _ => by simp [Lib.join, List.intercalate]
  | [a], h => by
    rw [join_one]
    have := h a (by simp)
    simp; omega
  | a :: b :: t, h => by
    have h1 := join_le M sep (b :: t) (fun x hx => h x (by simp [hx]))
    have h2 := h a (by simp)
    have e : Lib.join (a :: b :: t) sep = a ++ sep ++ Lib.join (b :: t) sep := by simp [Lib.join, List.intercalate, List.intersperse]
    rw [e, List.length_cons, Nat.succ_mul]
    simp only [List.length_append]
    omega
theorem foldI_err (c : List Th) (flow : Bool) (below : Nat → List Nat → Option ((Bs × Nat) × List Nat)) : ∀ (l : List (Option Nat × Nat)) (p : (List Bs × Nat) × List Nat), p.1.2 ≠ 0 → l.foldlM (stepI c flow below) p = some p := by
  intro l
  induction l with
  | nil => intro p _; rfl
  | cons a l ih =>
    intro p hp
    rw [List.foldlM_cons, stepI, if_pos hp]
    exact ih p hp
theorem inlineM_len (c : List Th) (an : Nat → Option Bs) (flow : Bool) (hst : ∀ i, (c.getD i th0).tag.length ≤ 1000000 ∧ (c.getD i th0).value.length ≤ 1000000) (han : ∀ i, ((an i).getD []).length ≤ 1000000) (f i : Nat) (met : List Nat) (r : (Bs × Nat) × List Nat) (h : inlineM c an flow f i met = some r) : r.1.1.length ≤ 110000000 := by
  cases f with
  | zero => simp [inlineM] at h
  | succ f =>
    rw [inlineM] at h
    have h1 := small_len c an flow met i (han i) (hst i).1 (hst i).2
    split at h
    · cases h
      dsimp only
      omega
    · obtain ⟨q, _, h⟩ := Option.bind_eq_some_iff.1 h
      split at h
      · cases h; simp
      · split at h
        · cases h
        · rename_i hlt
          have h2 := propsM_len c an i (han i) (hst i).1
          cases h
          dsimp only
          refine Nat.le_trans (ahead_len _ _) ?_
          split <;> simp <;> omega

set_option maxRecDepth 100000 in
set_option maxHeartbeats 16000000 in
theorem inline_any (w0 : World) (b B bA bM : Nat) (vc : Value) (c : List Th) (flow : Bool) (an : Nat → Option Bs) (hT0 : Tabs w0) (pl : Pl w0 b B bA bM) (hcl : c.length ≤ 100000000) (hks : ∀ t ∈ c, ∀ k ∈ t.kids, k < c.length) (hkn : ∀ t ∈ c, t.kids.length ≤ 1000000)
    (hst : ∀ t ∈ c, t.tag.length ≤ 1000000 ∧ t.value.length ≤ 1000000) (han : ∀ i l, an i = some l → l.length ≤ 1000000) (hkb : ∀ t ∈ c, t.kind ≤ 1000000) :
    ∀ (f i : Nat) (met : List Nat) (r : Bs × Nat) (met' : List Nat) (w : World), inlineM c an flow f i met = some (r, met') → i < c.length → LI w0 w b bA bM vc c flow an met →
    Calls Tryz.prog 37 #[.pointer (some ⟨b, 0, none⟩), .int .i64 (i : Nat)] w fun x w' => x = .returned (.tuple #[.string ⟨r.1.toArray⟩, .int .i64 (r.2 : Nat)]) ∧ LI w0 w' b bA bM vc c flow an met' ∧ w.grownBy w' (some bM) := by
  have hst2 : ∀ i, (c.getD i th0).tag.length ≤ 1000000 ∧ (c.getD i th0).value.length ≤ 1000000 := fun i => by
    by_cases hi : i < c.length
    · rw [List.getD_eq_getElem?_getD, List.getElem?_eq_getElem hi, Option.getD_some]
      exact hst _ (List.getElem_mem hi)
    · rw [List.getD_eq_getElem?_getD, List.getElem?_eq_none (by omega)]
      simp [th0]
  have han2 : ∀ i, ((an i).getD []).length ≤ 1000000 := fun i => by
    cases h : an i with
    | none => simp
    | some l => exact han i l h
  have hIL := fun f i met r h => inlineM_len c an flow hst2 han2 f i met r h
  intro f
  induction f with
  | zero => intro i met r met' w h; simp [inlineM] at h
  | succ f ih =>
    intro i met r met' w h hi hL
    obtain ⟨t, ht⟩ : ∃ t, c[i]? = some t := ⟨_, List.getElem?_eq_getElem hi⟩
    have htd : c.getD i th0 = t := by rw [List.getD_eq_getElem?_getD, ht]; rfl
    rw [inlineM, htd] at h
    have hi2 : (i : Int) < c.length := by omega
    have hsl := small_len c an flow met i (han2 i) (hst2 i).1 (hst2 i).2
    have hpl := propsM_len c an i (han2 i) (hst2 i).1
    have csm := small_any w0 w b bA bM vc c flow an met hT0 hL.wr hL.an hL.met pl.mb pl.am pl.m0 i hi hcl hst han hkb
    generalize smallM c an flow met i = sm at *
    obtain ⟨⟨st, line, er⟩, met2⟩ := sm
    dsimp only at hsl csm h
    have hkt := hks t (List.mem_of_getElem? ht)
    have hktn := hkn t (List.mem_of_getElem? ht)
    have hmM := hL.met.block
    have HS := Lib.hid hst
    have HA := Lib.hid han
    have HI := Lib.hid hIL
    clear htd hst han hst2 han2 hIL
    by_cases he : er = 0 ∧ line = false
    · obtain ⟨rfl, rfl⟩ := he
      rw [if_neg (by simp)] at h
      have H := Lib.hid h
      clear h
      go_enter Tryz.func37, Tryz.ntmps37
      go_wp2_with fail
      refine csm.mono ?_
      rintro _ w1 ⟨rfl, hM1, hg1⟩
      have hL1 := hL.small pl hM1 hg1
      clear csm hL hM1
      obtain ⟨q, hq, hfin⟩ := Option.bind_eq_some_iff.1 H.out
      obtain ⟨v0, v1, v2, v3⟩ := hL1.wr.cells
      obtain ⟨g, cap, A2, c2, rfl, q0, q1, q2, q3, hkr⟩ := hL1.wr.thing ht
      have hb1 : Below w1.heap.size w1 (w1.alloc (.cells #[.int .i64 t.kind, .string ⟨t.tag.toArray⟩, .string ⟨t.value.toArray⟩, .slice A2 t.kids.length c2] 25)) := (Below.refl _ _).alloc (Nat.le_refl _) _
      have hS1 : (w1.alloc (.cells #[.int .i64 t.kind, .string ⟨t.tag.toArray⟩, .string ⟨t.value.toArray⟩, .slice A2 t.kids.length c2] 25)).heap[w1.heap.size]? = some (.cells #[.int .i64 t.kind, .string ⟨t.tag.toArray⟩, .string ⟨t.value.toArray⟩, .slice A2 t.kids.length c2] 25 (0, 0)) := heap_alloc_new _ _
      have hS13 : (w1.alloc (.cells #[.int .i64 t.kind, .string ⟨t.tag.toArray⟩, .string ⟨t.value.toArray⟩, .slice A2 t.kids.length c2] 25)).cell? ⟨w1.heap.size, 3, none⟩ = some (.slice A2 t.kids.length c2) := by rw [cell_of_row _ _ _ _ _ (0, 0) hS1]; rfl
      have hL2 := hL1.below hb1
      have hg2 := grown_trans hg1 (grown_row (row := some bM) (below_grown hb1))
      have hws := hg1.size
      have hKm : w1.heap.size ≠ bM := by omega
      have hw0 := hL1.wr.frame.size
      clear H hL1 hg1
      go_wp2_with fail
      clear v0 v1 v2 v3 q0 q1 q2 q3 hb1 hS13
      generalize w1.alloc _ = w2 at hS1 hL2 hg2 ⊢
      generalize w1.heap.size = K at hS1 hKm hws hw0 ⊢
      generalize hstp : stepI c flow (fun k m => inlineM c an flow f k m) = stp at hq
      have HQ : Hid ((remI t 0).foldlM stp (([], 0), met2) = some q) := Lib.hid hq
      have HFIN := Lib.hid hfin
      clear hq hfin
      go_loopw [42, 10] (fun j vs wr => ∃ (n : Nat) (metn : List Nat) (ls : List Bs), j = .int .i64 n ∧ n ≤ t.kids.length ∧ (remI t n).foldlM stp ((ls, 0), metn) = some q ∧ ls.length ≤ n ∧ (∀ x ∈ ls, x.length ≤ 110000200) ∧ wr.ownsRow K 9 1 vs ls.length (ls.map fun l => Value.string ⟨l.toArray⟩) ∧ vs.ownBlock ≠ some K ∧
        LI w0 wr b bA bM (.slice (some ⟨g, 0, none⟩) c.length cap) c flow an metn ∧ w.grownBy wr (some bM) ∧ wr.heap[K]? = some (.cells #[.int .i64 t.kind, .string ⟨t.tag.toArray⟩, .string ⟨t.value.toArray⟩, .slice A2 t.kids.length c2] 25 (0, 0))) (fun j _ _ => t.kids.length - (intOf j).toNat)
      case atStart => exact ⟨0, met2, [], rfl, Nat.zero_le _, HQ.out, Nat.le_refl _, fun x hx => (by cases hx), World.ownsRow_nil _ _ _ _, by simp [Value.ownBlock], hL2, hg2, hS1⟩
      case round =>
        obtain ⟨n, metn, ls, rfl, hn, hfo, hll, hlm, hO, hOK, hL, hg, hS⟩ := hrel
        clear hL2 hg2 hS1 HQ
        have s0 : wr.cell? ⟨K, 0, none⟩ = some (.int .i64 t.kind) := by rw [cell_of_row _ _ _ _ _ (0, 0) hS]; rfl
        have s3 : wr.cell? ⟨K, 3, none⟩ = some (.slice A2 t.kids.length c2) := by rw [cell_of_row _ _ _ _ _ (0, 0) hS]; rfl
        by_cases hnl : n < t.kids.length
        · have HRS := Lib.hid (remI_step t n hnl)
          obtain ⟨g6, o6, rfl, hcell⟩ := kid_cell hkr hL.wr.frame n hnl
          have hkid := hkt (t.kids.getD n 0) (by rw [List.getD_eq_getElem?_getD, List.getElem?_eq_getElem hnl]; exact List.getElem_mem hnl)
          have hn2 : (n : Int) < t.kids.length := by omega
          obtain ⟨A8, c8, rfl⟩ := row_shape hO
          by_cases hev : t.kind = 3 ∧ n % 2 = 0
          · have hk3 : ((t.kind : Int) == 3) = true := by rw [hev.1]; rfl
            have hn0 : ((n : Int) % 2 == 0) = true := by simp; omega
            have hno : itemF t (t.kids.getD n 0, n) = none := by unfold itemF; rw [if_pos hev.1, if_pos hev.2]
            rw [HRS.out, hno] at hfo
            dsimp only at hfo
            generalize t.kids.getD n 0 = kid at *
            have HL := Lib.hid (And.intro hO (And.intro hOK hL))
            have HFO := Lib.hid hfo
            clear hL hfo hno hev HRS hO hOK
            go_wp2
            go_roundw
            case rel => exact ⟨n + 1, metn, ls, by go_num, by omega, HFO.out, by omega, hlm, HL.out.1, HL.out.2.1, HL.out.2.2, hg, hS⟩
            case measure => simp [intOf]; omega
          · obtain ⟨x, hx, hx2, hx3, hx4⟩ : ∃ x, itemF t (t.kids.getD n 0, n) = some x ∧ x.2 = t.kids.getD n 0 ∧ (t.kind = 3 → ∃ m, n = m + 1 ∧ x.1 = some (t.kids.getD m 0)) ∧ (t.kind ≠ 3 → x.1 = none) := by
              unfold itemF
              by_cases h3 : t.kind = 3
              · rw [if_pos h3, if_neg (fun h => hev ⟨h3, h⟩)]
                exact ⟨_, rfl, rfl, fun _ => ⟨n - 1, by have : n % 2 ≠ 0 := fun h => hev ⟨h3, h⟩; omega, rfl⟩, fun h => absurd h3 h⟩
              · rw [if_neg h3]
                exact ⟨_, rfl, rfl, fun h => absurd h h3, fun _ => rfl⟩
            rw [HRS.out, hx] at hfo
            dsimp only at hfo
            rw [List.foldlM_cons] at hfo
            obtain ⟨s1, hs1, hfo⟩ := Option.bind_eq_some_iff.1 hfo
            rw [← hstp, stepI, if_neg (by simp)] at hs1
            rw [hx2] at hs1
            generalize t.kids.getD n 0 = kid at *
            have HFO := Lib.hid hfo
            have hodd : t.kind = 3 → ((n : Int) % 2 == 0) = false := fun h3 => by
              have : n % 2 ≠ 0 := fun h => hev ⟨h3, h⟩
              simp; omega
            clear hfo hx hev HRS hx2
            by_cases he : (headM c flow [] [58, 32] x).2 = 0
            · rw [if_neg (by rw [he]; simp)] at hs1
              have hhl : (headM c flow [] [58, 32] x).1.length ≤ 200 := by
                unfold headM
                split
                · simp
                · have := rkey_len c flow
                  rename_i k _
                  have := this k
                  simp; omega
              obtain ⟨hd, hhd⟩ : ∃ hd, (headM c flow [] [58, 32] x).1 = hd := ⟨_, rfl⟩
              rw [hhd] at hs1 hhl
              have HO := Lib.hid (And.intro hO (And.intro hOK hS))
              clear hO hOK hS
              go_upto_if 49 with fail
              go_cut [13] (fun hv wx => hv = .string ⟨hd.toArray⟩ ∧ Below wr.heap.size wr wx)
              case first =>
                by_cases h3 : t.kind = 3
                · have hk3 : ((t.kind : Int) == 3) = true := by rw [h3]; rfl
                  have hn0 := hodd h3
                  obtain ⟨m, rfl, hxm⟩ := hx3 h3
                  obtain ⟨g7, o7, hv7, hcm⟩ := kid_cell hkr hL.wr.frame m (by omega)
                  cases hv7
                  have hkey := hkt (t.kids.getD m 0) (by rw [List.getD_eq_getElem?_getD, List.getElem?_eq_getElem (show m < t.kids.length by omega)]; exact List.getElem_mem _)
                  have ck := wkey_any w0 wr b bA bM _ c flow hL.wr (hT0.below hL.wr.frame) (t.kids.getD m 0) hkey hcl HS.out
                  unfold headM at he hhd
                  rw [hxm] at he hhd
                  dsimp only at he hhd
                  generalize t.kids.getD m 0 = key at *
                  generalize rkeyM c flow key = K1 at *
                  obtain ⟨k1, k2⟩ := K1
                  dsimp only at he hhd ck
                  subst he
                  have happ : (⟨k1.toArray⟩ : ByteArray) ++ ⟨#[58, 32]⟩ = ⟨hd.toArray⟩ := by rw [← hhd]; exact app_l k1 [58, 32]
                  have z1 := size_l k1
                  have hk1l : k1.length ≤ 200 := by rw [← hhd] at hhl; simp at hhl; omega
                  have hm2 : (m : Int) < t.kids.length := by omega
                  have hm3 : (m : Int) ≤ 1000000 := by omega
                  clear hx3 hx4 h3 hL hhd
                  go_wp2_with fail
                  refine ck.mono ?_
                  rintro _ w3 ⟨rfl, hb3⟩
                  clear ck
                  go_wp2
                  go_meet
                  exact ⟨rfl, hb3⟩
                · have hk3 : ((t.kind : Int) == 3) = false := by simp; omega
                  have hhd2 : hd = [] := by rw [← hhd]; unfold headM; rw [hx4 h3]
                  subst hhd2
                  clear hx3 hx4 hL hhd h3
                  go_wp2
                  go_meet
                  exact ⟨rfl, Below.refl _ _⟩
              case rest =>
                obtain ⟨rfl, hbx⟩ := hcut
                obtain ⟨wx, rfl⟩ : ∃ wx : World, wx = wc := ⟨_, rfl⟩
                have hLx := hL.below hbx
                have hgx := grown_trans hg (grown_row (row := some bM) (below_grown hbx))
                have hOx := own_below HO.out.1 hbx
                have hSx := (hbx.block K (lt_of_block HO.out.2.2)).trans HO.out.2.2
                have hOKx := HO.out.2.1
                clear hL hg hbx hx3 hx4 hodd s0 s3 hcell he hhd HO
                obtain ⟨⟨⟨rt, re⟩, metr⟩, hrec, hs1e⟩ := Option.map_eq_some_iff.1 hs1
                have hrl := HI.out f kid metn _ hrec
                have ihk := ih kid metn (rt, re) metr wx hrec hkid hLx
                dsimp only at hs1e hrl ihk
                have hfar := row_far hOx hLx.met
                clear hs1 hrec
                go_wp2_with fail
                refine ihk.mono ?_
                rintro _ w5 ⟨rfl, hL5, hg5⟩
                have hO5 := World.ownsRow.kept hOx hg5 hfar
                have hS5 := (hg5.block K (lt_of_block hSx) (by simp; exact hKm)).trans hSx
                have hgw5 := grown_trans hgx hg5
                have hB5 : K ≤ w5.heap.size := by have := lt_of_block hS5; omega
                clear ihk hOx hSx hgx hg5 hfar hLx
                by_cases hre : re = 0
                · subst hre
                  rw [if_neg (by simp)] at hs1e
                  obtain ⟨v6, w6, happ6, hO6, hg6⟩ := strs_append hO5 (hd ++ rt) (by omega) hB5
                  have hb6 : Below w5.heap.size w5 (w5.alloc (.cells #[.string ⟨(hd ++ rt).toArray⟩] 9)) := (Below.refl _ _).alloc (Nat.le_refl _) _
                  have hL6 := (hL5.below hb6).row (own_below hO5 hb6) hw0 hg6
                  have hgw6 := grown_new (grown_trans hgw5 (grown_row (row := some bM) (below_grown hb6))) hg6 (fun k hk => Nat.le_trans hws (World.ownsRow.lt hO5 k hk).1)
                  have hS6 := (hg6.block K (by have := lt_of_block hS5; simp; omega) (fun e => hOKx e.symm)).trans ((hb6.block K (lt_of_block hS5)).trans hS5)
                  have hOK6 : v6.ownBlock ≠ some K := fun e => by
                    obtain ⟨_, ⟨h2, _⟩ | ⟨g, cap, cur, h2, _, h3, _⟩⟩ := hO6
                    · rw [h2] at e; cases e
                    · rw [h2] at e
                      simp only [Value.ownBlock, Option.some.injEq] at e
                      subst e
                      rw [hS6] at h3
                      simp at h3
                  have happs : (⟨hd.toArray⟩ : ByteArray) ++ ⟨rt.toArray⟩ = ⟨(hd ++ rt).toArray⟩ := app_l _ _
                  have z1 := size_l hd
                  have z2 := size_l rt
                  have hlm6 : ∀ x ∈ ls ++ [hd ++ rt], x.length ≤ 110000200 := fun x hx => by
                    rcases List.mem_append.1 hx with h | h
                    · exact hlm x h
                    · rw [List.mem_singleton] at h
                      rw [h, List.length_append]
                      omega
                  obtain ⟨A6, c6, rfl⟩ := row_shape hO6
                  have H6 := Lib.hid (And.intro hO6 (And.intro hOK6 (And.intro hL6 (And.intro hgw6 hS6))))
                  clear hO6 hOK6 hL6 hgw6 hS6 hg6 hb6 hO5 hL5 hS5 hgw5
                  go_wp2_with (at_builtin; refine wpList_append_run rfl _ _ 36 rfl _ _ rfl rfl _ _ happ6 ?_)
                  go_roundw
                  case rel =>
                    have e7 : (ls ++ [hd ++ rt]).length = ls.length + 1 := by simp
                    have h6 := H6.out
                    rw [e7] at h6
                    refine ⟨n + 1, metr, ls ++ [hd ++ rt], by go_num, by omega, by rw [hs1e]; exact HFO.out, by simp; omega, hlm6, by rw [e7]; exact h6.1, h6.2.1, h6.2.2.1, h6.2.2.2.1, h6.2.2.2.2⟩
                  case measure => simp [intOf]; omega
                · have hreb : ((re : Int) != 0) = true := by simp; omega
                  rw [if_pos hre] at hs1e
                  subst hs1e
                  have hq := HFO.out
                  rw [← hstp, foldI_err _ _ _ _ _ hre] at hq
                  cases hq
                  have hfin := HFIN.out
                  dsimp only at hfin
                  rw [if_pos hre] at hfin
                  cases hfin
                  clear HFO HFIN
                  go_wp2
                  go_ret2
                  exact ⟨rfl, hL5, hgw5⟩
            · obtain ⟨ec, hec⟩ : ∃ ec, (headM c flow [] [58, 32] x).2 = ec := ⟨_, rfl⟩
              rw [hec] at hs1 he
              rw [if_pos he] at hs1
              cases hs1
              have hq := HFO.out
              rw [← hstp, foldI_err _ _ _ _ _ he] at hq
              cases hq
              have hfin := HFIN.out
              dsimp only at hfin
              rw [if_pos he] at hfin
              cases hfin
              unfold headM at hec
              have h3 : t.kind = 3 := by
                apply Classical.byContradiction
                intro h3
                apply he
                rw [hx4 h3] at hec
                exact hec.symm
              have hk3 : ((t.kind : Int) == 3) = true := by rw [h3]; rfl
              have hn0 := hodd h3
              obtain ⟨m, rfl, hxm⟩ := hx3 h3
              obtain ⟨g7, o7, hv7, hcm⟩ := kid_cell hkr hL.wr.frame m (by omega)
              cases hv7
              have hkey := hkt (t.kids.getD m 0) (by rw [List.getD_eq_getElem?_getD, List.getElem?_eq_getElem (show m < t.kids.length by omega)]; exact List.getElem_mem _)
              have ck := wkey_any w0 wr b bA bM _ c flow hL.wr (hT0.below hL.wr.frame) (t.kids.getD m 0) hkey hcl HS.out
              rw [hxm] at hec
              dsimp only at hec
              generalize t.kids.getD m 0 = key at *
              generalize rkeyM c flow key = K1 at *
              obtain ⟨k1, k2⟩ := K1
              dsimp only at hec ck
              subst hec
              have heb : ((k2 : Int) != 0) = true := by simp; omega
              have hm2 : (m : Int) < t.kids.length := by omega
              have hm3 : (m : Int) ≤ 1000000 := by omega
              clear hx3 hx4 h3 hS HFO HFIN hO hOK
              go_wp2_with fail
              refine ck.mono ?_
              rintro _ w3 ⟨rfl, hb3⟩
              clear ck
              go_wp2
              go_ret2
              exact ⟨rfl, hL.below hb3, grown_trans hg (grown_row (below_grown hb3))⟩
        · rw [remI_end t n (by omega)] at hfo
          have hqe : q = ((ls, 0), metn) := (Option.some.inj hfo).symm
          subst hqe
          have hfin := HFIN.out
          dsimp only at hfin
          rw [if_neg (by simp)] at hfin
          have hge2 : (t.kids.length : Int) ≤ n := by omega
          have hj := join_le 110000200 [44, 32] ls hlm
          have hjl : (Lib.join ls [44, 32]).length ≤ 140737488351232 := by
            have := Nat.mul_le_mul_right (110000200 + ([44, 32] : Bs).length) (show ls.length ≤ 1000000 by omega)
            simp at this hj ⊢
            omega
          have cj := join_any _ K ls [44, 32] wr hO (by omega) (by omega)
          obtain ⟨A8, c8, rfl⟩ := row_shape hO
          by_cases hbig : 100000000 < (Lib.join ls [44, 32]).length
          · rw [if_pos hbig] at hfin
            cases hfin
          · rw [if_neg hbig] at hfin
            have hpa := fun W (h : WrAt w0 W b bA bM (.slice (some ⟨g, 0, none⟩) c.length cap) c flow) (h2 : AnAt W bA an) => wprops_any w0 W b bA bM _ c flow an h h2 i hi hcl HS.out HA.out hkb
            generalize Lib.join ls [44, 32] = J at *
            generalize propsM c an i = PV at *
            clear hj hjl hlm HFIN
            by_cases k2 : t.kind = 2
            · have kb2 : ((t.kind : Int) == 2) = true := by rw [k2]; rfl
              rw [if_pos k2] at hfin
              cases hfin
              have ca := fun W => ahead_any PV (91 :: J ++ [93]) W (by omega) (by simp; omega)
              have happ1 : (⟨#[91]⟩ : ByteArray) ++ ⟨J.toArray⟩ = ⟨(91 :: J).toArray⟩ := by
                have := app_l [91] J
                simpa using this
              have happ2 : (⟨(91 :: J).toArray⟩ : ByteArray) ++ ⟨#[93]⟩ = ⟨(91 :: J ++ [93]).toArray⟩ := app_l _ [93]
              have z1 := size_l J
              have z2 := size_l (91 :: J)
              have hzz : (91 :: J).length ≤ 100000001 := by simp; omega
              clear k2
              go_wp2_with fail
              refine cj.mono ?_
              rintro _ w3 ⟨rfl, hb3⟩
              have hL3 := hL.below hb3
              have s0' := pw_cell hb3 s0
              go_wp2_with fail
              refine (hpa w3 hL3.wr hL3.an).mono ?_
              rintro _ w4 ⟨rfl, hb4⟩
              go_wp2_with fail
              refine (ca w4).mono ?_
              rintro _ w5 ⟨rfl, rfl⟩
              clear cj hpa ca
              go_wp2
              go_ret2
              exact ⟨rfl, hL3.below hb4, grown_trans hg (grown_trans (grown_row (below_grown hb3)) (grown_row (below_grown hb4)))⟩
            · have kb2 : ((t.kind : Int) == 2) = false := by simp; omega
              rw [if_neg k2] at hfin
              cases hfin
              have ca := fun W => ahead_any PV (123 :: J ++ [125]) W (by omega) (by simp; omega)
              have happ1 : (⟨#[123]⟩ : ByteArray) ++ ⟨J.toArray⟩ = ⟨(123 :: J).toArray⟩ := by
                have := app_l [123] J
                simpa using this
              have happ2 : (⟨(123 :: J).toArray⟩ : ByteArray) ++ ⟨#[125]⟩ = ⟨(123 :: J ++ [125]).toArray⟩ := app_l _ [125]
              have z1 := size_l J
              have z2 := size_l (123 :: J)
              have hzz : (123 :: J).length ≤ 100000001 := by simp; omega
              clear k2
              go_wp2_with fail
              refine cj.mono ?_
              rintro _ w3 ⟨rfl, hb3⟩
              have hL3 := hL.below hb3
              have s0' := pw_cell hb3 s0
              go_wp2_with fail
              refine (hpa w3 hL3.wr hL3.an).mono ?_
              rintro _ w4 ⟨rfl, hb4⟩
              go_wp2_with fail
              refine (ca w4).mono ?_
              rintro _ w5 ⟨rfl, rfl⟩
              clear cj hpa ca
              go_wp2
              go_ret2
              exact ⟨rfl, hL3.below hb4, grown_trans hg (grown_trans (grown_row (below_grown hb3)) (grown_row (below_grown hb4)))⟩
    · have hr : ((st, er), met2) = (r, met') := by
        rw [if_pos (by
          by_cases h1 : er = 0
          · right
            cases line with
            | true => rfl
            | false => exact absurd ⟨h1, rfl⟩ he
          · exact .inl h1)] at h
        exact Option.some.inj h
      cases hr
      clear h
      by_cases h1 : er = 0
      · have hl : line = true := by
          cases line with
          | true => rfl
          | false => exact absurd ⟨h1, rfl⟩ he
        subst h1
        subst hl
        clear he
        go_enter Tryz.func37, Tryz.ntmps37
        go_wp2_with fail
        refine csm.mono ?_
        rintro _ w1 ⟨rfl, hM1, hg1⟩
        have hL1 := hL.small pl hM1 hg1
        clear csm hL hM1
        go_wp2
        go_ret2
        exact ⟨rfl, hL1, hg1⟩
      · have heb : ((er : Int) != 0) = true := by simp; omega
        clear he
        go_enter Tryz.func37, Tryz.ntmps37
        go_wp2_with fail
        refine csm.mono ?_
        rintro _ w1 ⟨rfl, hM1, hg1⟩
        have hL1 := hL.small pl hM1 hg1
        clear csm hL hM1
        go_wp2
        go_ret2
        exact ⟨rfl, hL1, hg1⟩
end Go.Proofs.YtghigiapfmlkbaaGreatDoor
