/- render.lines. -/
import Derived.Test.YtghigiapfmlkbaaGreatDoorR13
import Derived.Deep.CutBlock
namespace Go.Proofs.YtghigiapfmlkbaaGreatDoor
open Go.RowKit
attribute [local go_sem ↓] Go.wp_at_zero Go.wp_at_succ

theorem FrL.wr {b bM B : Nat} {w0 w w' : World} {bA : Nat} {vc : Value} {c : List Th} {flow : Bool} {bs : Bs} (h : FrL b bM B w w') (hW : WrAt w0 w b bA bM vc c flow) (ho : OutB w' b B bA bM vc flow bs) (h1 : w0.heap.size ≤ b) (h2 : w0.heap.size ≤ bM) (h3 : w0.heap.size ≤ B) : WrAt w0 w' b bA bM vc c flow := by
  obtain ⟨p, buf, hb, _⟩ := ho
  exact ⟨⟨p, buf, hb⟩, hW.gr, hW.frame.trans (h.below h1 h2 h3 hW.frame.size)⟩
theorem MapF.block {P : Program} {K E : TypeId} {w : World} {b n : Nat} {f : Value → Option Value} (h : MapF P K E w b n f) : ∃ es clock, w.heap[b]? = some (.map es clock) := by
  obtain ⟨D, ⟨es, clock, hb, _⟩, _⟩ := h
  exact ⟨es, clock, hb⟩
theorem FrL.an {b bM B bA : Nat} {w w' : World} {an : Nat → Option Bs} (h : FrL b bM B w w') (hA : AnAt w bA an) (h1 : bA ≠ b) (h2 : bA ≠ bM) : AnAt w' bA an := by
  obtain ⟨n, hn, hm⟩ := hA.map
  obtain ⟨es, clock, hb⟩ := hm.block
  refine ⟨n, hn, ?_⟩
  obtain ⟨D, ⟨es', clock', hb', F⟩, h3⟩ := hm
  exact ⟨D, ⟨es', clock', (h.block bA (lt_of_block hb') h1 h2 (fun cs fr _ => by rw [hb']; simp)).trans hb', F⟩, h3⟩
/-- A world that has turned the map of what was met alone, or nothing. -/
theorem OutB.grown {w w' : World} {b B bA bM n : Nat} {vc : Value} {flow : Bool} {bs : Bs} {met : List Nat} (h : OutB w b B bA bM vc flow bs) (hg : w.grownBy w' (some bM)) (hM : MetAt w bM n met) : OutB w' b B bA bM vc flow bs := by
  obtain ⟨p, buf, hb, ho, hp⟩ := h
  obtain ⟨es, clock, hm⟩ := hM.map.mapF.block
  refine ⟨p, buf, (hg.block b (lt_of_block hb) (fun e => ?_)).trans hb, World.ownsRow.kept ho hg ?_, hp⟩
  · simp only [Option.some.injEq] at e
    subst e
    rw [hb] at hm
    simp at hm
  · obtain ⟨_, ⟨h1, _⟩ | ⟨g, cap, cur, h1, _, h2, _⟩⟩ := ho
    · exact .inl (by rw [h1]; rfl)
    · right
      intro e
      rw [h1] at e
      simp only [Value.ownBlock, Option.some.injEq] at e
      subst e
      rw [h2] at hm
      simp at hm
theorem OutB.below {w w' : World} {b B bA bM : Nat} {vc : Value} {flow : Bool} {bs : Bs} (h : OutB w b B bA bM vc flow bs) (hb : Below w.heap.size w w') : OutB w' b B bA bM vc flow bs := by
  obtain ⟨p, buf, h1, h2, h3⟩ := h
  exact ⟨p, buf, (hb.block b (lt_of_block h1)).trans h1, own_below h2 hb, h3⟩
/-- All that a walk of render carries. -/
structure LW (w0 w : World) (b B bA bM : Nat) (vc : Value) (c : List Th) (flow : Bool) (an : Nat → Option Bs) (met : List Nat) (out : Bs) : Prop where
  wr : WrAt w0 w b bA bM vc c flow
  an : AnAt w bA an
  met : MetAt w bM c.length met
  out : OutB w b B bA bM vc flow out
theorem LW.below {w0 w w' : World} {b B bA bM : Nat} {vc : Value} {c : List Th} {flow : Bool} {an : Nat → Option Bs} {met : List Nat} {out : Bs} (h : LW w0 w b B bA bM vc c flow an met out) (hb : Below w.heap.size w w') : LW w0 w' b B bA bM vc c flow an met out :=
  ⟨h.wr.below hb, h.an.below hb, h.met.below hb, h.out.below hb⟩
/-- Where all lies. -/
structure Pl (w0 : World) (b B bA bM : Nat) : Prop where
  b0 : w0.heap.size ≤ b
  m0 : w0.heap.size ≤ bM
  B0 : w0.heap.size ≤ B
  mb : bM ≠ b
  ab : bA ≠ b
  am : bA ≠ bM
theorem LW.small {w0 w w' : World} {b B bA bM : Nat} {vc : Value} {c : List Th} {flow : Bool} {an : Nat → Option Bs} {met met' : List Nat} {out : Bs} (h : LW w0 w b B bA bM vc c flow an met out) (pl : Pl w0 b B bA bM) (hM : MetAt w' bM c.length met') (hg : w.grownBy w' (some bM)) : LW w0 w' b B bA bM vc c flow an met' out :=
  ⟨h.wr.grown hg (by simp; exact pl.mb) (fun k hk => by cases hk; exact pl.m0), h.an.kept hg (by simp; exact pl.am), hM, h.out.grown hg h.met⟩
theorem MetAt.fr {bM n : Nat} {w w' : World} {met : List Nat} (hM : MetAt w bM n met) (hb : w'.heap[bM]? = w.heap[bM]?) : MetAt w' bM n met := by
  obtain ⟨⟨D, ⟨es, clock, h1, F⟩, h2, h3⟩, h4, h5⟩ := hM
  exact ⟨⟨D, ⟨es, clock, hb.trans h1, F⟩, h2, h3⟩, h4, h5⟩

/-- A write: nothing but the writer's block and its row of bytes. -/
theorem wstr_lw {w0 : World} {b B bA bM : Nat} {vc : Value} {c : List Th} {flow : Bool} {an : Nat → Option Bs} {met : List Nat} {out : Bs} (pl : Pl w0 b B bA bM) (s : Bs) (w : World) (h : LW w0 w b B bA bM vc c flow an met out) (hlen : out.length + s.length ≤ 1000000000000) (hBw : B ≤ w.heap.size) :
    Calls Tryz.prog 31 #[.pointer (some ⟨b, 4, none⟩), .string ⟨s.toArray⟩] w fun e w' => e = .returned (.tuple #[.int .i64 s.length, .nilIface]) ∧ LW w0 w' b B bA bM vc c flow an met (out ++ s) ∧ FrL b bM B w w' := by
  refine (wstr_any b B bA bM vc flow out s w h.out hlen hBw).mono ?_
  rintro e w' ⟨rfl, ho, hf, hm⟩
  refine ⟨rfl, ⟨hf.wr h.wr ho pl.b0 pl.m0 pl.B0, hf.an h.an pl.ab pl.am, ?_, ho⟩, hf⟩
  obtain ⟨es, clock, hmb⟩ := h.met.map.mapF.block
  exact MetAt.fr h.met (hm bM (lt_of_block hmb) pl.mb (fun cs fr => by rw [hmb]; simp))
theorem FrL.other {b bM B : Nat} {w w' : World} (h : FrL b bM B w w') {i : Nat} {cs : Array Value} {T : TypeId} (hi : w.heap[i]? = some (.cells cs T (0, 0))) (hT : T ≠ 5) (h1 : i ≠ b) (h2 : i ≠ bM) : w'.heap[i]? = some (.cells cs T (0, 0)) :=
  (h.block i (lt_of_block hi) h1 h2 (fun cs' fr _ => by
    rw [hi]
    intro e
    simp only [Option.some.injEq, Obj.cells.injEq] at e
    exact hT e.2.1)).trans hi
theorem rkey_len (c : List Th) (flow : Bool) (i : Nat) : (rkeyM c flow i).1.length ≤ 128 := by
  unfold rkeyM keyB
  dsimp only
  generalize chooseB _ flow = X
  by_cases h : (X.isEmpty || decide (128 < X.length)) = true
  · rw [if_pos h]; simp
  · rw [if_neg h]
    simp only [Bool.or_eq_true, not_or, decide_eq_true_eq] at h
    dsimp only
    split
    · dsimp only; omega
    · simp
theorem ahead_len (p s : Bs) : (aheadM p s).length ≤ p.length + s.length + 1 := by
  unfold aheadM
  split
  · omega
  · simp; omega
theorem small_len (c : List Th) (an : Nat → Option Bs) (flow : Bool) (met : List Nat) (i : Nat) (h1 : ((an i).getD []).length ≤ 1000000) (h2 : (c.getD i th0).tag.length ≤ 1000000) (h3 : (c.getD i th0).value.length ≤ 1000000) : (smallM c an flow met i).1.1.length ≤ 20000000 := by
  have hp := propsM_len c an i h1 h2
  have hb := best_len (c.getD i th0).tag (c.getD i th0).value flow
  have hq := putP_len ((an i).getD []) []
  have ha := fun s => ahead_len (propsM c an i) s
  have hc := ahead_len (putP ((an i).getD []) []) (bestB (c.getD i th0).tag (c.getD i th0).value flow).1
  unfold smallM
  dsimp only
  split
  · simp; omega
  · split
    · split
      · simp at hq; dsimp only; omega
      · simp
    · split
      · simp
      · split
        · have := ha [91, 93]; simp at this; dsimp only; omega
        · have := ha [123, 125]; simp at this; dsimp only; omega
/-- What is left from a kid on. -/
def remI (t : Th) (n : Nat) : List (Option Nat × Nat) := (t.kids.zipIdx.drop n).filterMap (itemF t)
theorem remI_step (t : Th) (n : Nat) (hn : n < t.kids.length) : remI t n = match itemF t (t.kids.getD n 0, n) with
    | none => remI t (n + 1)
    | some x => x :: remI t (n + 1) := by
  unfold remI
  have hn2 : n < t.kids.zipIdx.length := by simpa using hn
  rw [List.drop_eq_getElem_cons hn2, List.filterMap_cons]
  have e : t.kids.zipIdx[n] = (t.kids.getD n 0, n) := by simp [List.getD_eq_getElem?_getD, List.getElem?_eq_getElem hn]
  rw [e]
  cases itemF t (t.kids.getD n 0, n) <;> rfl
theorem remI_end (t : Th) (n : Nat) (hn : t.kids.length ≤ n) : remI t n = [] := by
  unfold remI
  rw [List.drop_of_length_le (by simpa using hn)]
  rfl
theorem foldL_err (c : List Th) (an : Nat → Option Bs) (flow : Bool) (col : Nat) (below : Nat → List Nat → Bs → Option (Nat × List Nat × Bs)) : ∀ (l : List (Option Nat × Nat)) (p : Nat × List Nat × Bs), p.1 ≠ 0 → l.foldlM (stepL c an flow col below) p = some p := by
  intro l
  induction l with
  | nil => intro p _; rfl
  | cons a l ih =>
    intro p hp
    rw [List.foldlM_cons, stepL, if_pos hp]
    exact ih p hp
theorem stepL_len (c : List Th) (an : Nat → Option Bs) (flow : Bool) (col : Nat) (below : Nat → List Nat → Bs → Option (Nat × List Nat × Bs)) (hb : ∀ k m o r, below k m o = some r → o.length ≤ r.2.2.length) (p r : Nat × List Nat × Bs) (x : Option Nat × Nat) (h : stepL c an flow col below p x = some r) : p.2.2.length ≤ r.2.2.length := by
  unfold stepL at h
  split at h
  · cases h; exact Nat.le_refl _
  · split at h
    · cases h; exact Nat.le_refl _
    · dsimp only at h
      split at h
      · cases h; simp
      · split at h
        · cases h; simp
        · have := hb _ _ _ _ h
          simp at this
          omega
theorem foldL_len (c : List Th) (an : Nat → Option Bs) (flow : Bool) (col : Nat) (below : Nat → List Nat → Bs → Option (Nat × List Nat × Bs)) (hb : ∀ k m o r, below k m o = some r → o.length ≤ r.2.2.length) : ∀ (l : List (Option Nat × Nat)) (p r : Nat × List Nat × Bs), l.foldlM (stepL c an flow col below) p = some r → p.2.2.length ≤ r.2.2.length := by
  intro l
  induction l with
  | nil => intro p r h; simp at h; rw [h]; exact Nat.le_refl _
  | cons a l ih =>
    intro p r h
    rw [List.foldlM_cons] at h
    obtain ⟨s, hs, h⟩ := Option.bind_eq_some_iff.1 h
    exact Nat.le_trans (stepL_len c an flow col below hb _ _ _ hs) (ih _ _ h)
theorem linesM_len (c : List Th) (an : Nat → Option Bs) (flow : Bool) : ∀ (f i col : Nat) (met : List Nat) (out : Bs) (r : Nat × List Nat × Bs), linesM c an flow f i col met out = some r → out.length ≤ r.2.2.length := by
  intro f
  induction f with
  | zero => intro i col met out r h; simp [linesM] at h
  | succ f ih =>
    intro i col met out r h
    rw [linesM] at h
    exact foldL_len c an flow col _ (fun k m o r h => ih _ _ _ _ _ h) _ (0, met, out) r h

set_option maxRecDepth 100000 in
set_option maxHeartbeats 16000000 in
theorem lines_any (w0 : World) (b B bA bM : Nat) (vc : Value) (c : List Th) (flow : Bool) (an : Nat → Option Bs) (hT0 : Tabs w0) (pl : Pl w0 b B bA bM) (hcl : c.length ≤ 100000000) (hks : ∀ t ∈ c, ∀ k ∈ t.kids, k < c.length) (hkn : ∀ t ∈ c, t.kids.length ≤ 1000000)
    (hst : ∀ t ∈ c, t.tag.length ≤ 1000000 ∧ t.value.length ≤ 1000000) (han : ∀ i l, an i = some l → l.length ≤ 1000000) (hkb : ∀ t ∈ c, t.kind ≤ 1000000) :
    ∀ (f i col : Nat) (met : List Nat) (out : Bs) (e : Nat) (met' : List Nat) (out' : Bs) (w : World), linesM c an flow f i col met out = some (e, met', out') → i < c.length → col + 2 * f ≤ 1000000000 → out'.length ≤ 100000000000 → LW w0 w b B bA bM vc c flow an met out → B ≤ w.heap.size →
    Calls Tryz.prog 33 #[.pointer (some ⟨b, 0, none⟩), .int .i64 (i : Nat), .int .i64 (col : Nat)] w fun x w' => x = .returned (.int .i64 (e : Nat)) ∧ LW w0 w' b B bA bM vc c flow an met' out' ∧ FrL b bM B w w' := by
  intro f
  induction f with
  | zero => intro i col met out e met' out' w h; simp [linesM] at h
  | succ f ih =>
    intro i col met out e met' out' w h hi hcol hout hL hBw
    obtain ⟨t, ht⟩ : ∃ t, c[i]? = some t := ⟨_, List.getElem?_eq_getElem hi⟩
    have htd : c.getD i th0 = t := by rw [List.getD_eq_getElem?_getD, ht]; rfl
    rw [linesM, htd] at h
    have h0 : (remI t 0).foldlM (stepL c an flow col (fun k m o => linesM c an flow f k (col + 2) m o)) (0, met, out) = some (e, met', out') := h
    have hbl : ∀ k m o r, (fun k m o => linesM c an flow f k (col + 2) m o) k m o = some r → o.length ≤ r.2.2.length := fun k m o r h => linesM_len c an flow f k (col + 2) m o r h
    generalize hstp : stepL c an flow col (fun k m o => linesM c an flow f k (col + 2) m o) = stp at h0
    have hi2 : (i : Int) < c.length := by omega
    obtain ⟨v0, v1, v2, v3⟩ := hL.wr.cells
    obtain ⟨g, cap, A2, c2, rfl, q0, q1, q2, q3, hkr⟩ := hL.wr.thing ht
    have hb1 : Below w.heap.size w (w.alloc (.cells #[.int .i64 t.kind, .string ⟨t.tag.toArray⟩, .string ⟨t.value.toArray⟩, .slice A2 t.kids.length c2] 25)) := (Below.refl _ _).alloc (Nat.le_refl _) _
    have hS1 : (w.alloc (.cells #[.int .i64 t.kind, .string ⟨t.tag.toArray⟩, .string ⟨t.value.toArray⟩, .slice A2 t.kids.length c2] 25)).heap[w.heap.size]? = some (.cells #[.int .i64 t.kind, .string ⟨t.tag.toArray⟩, .string ⟨t.value.toArray⟩, .slice A2 t.kids.length c2] 25 (0, 0)) := heap_alloc_new _ _
    have hS13 : (w.alloc (.cells #[.int .i64 t.kind, .string ⟨t.tag.toArray⟩, .string ⟨t.value.toArray⟩, .slice A2 t.kids.length c2] 25)).cell? ⟨w.heap.size, 3, none⟩ = some (.slice A2 t.kids.length c2) := by rw [cell_of_row _ _ _ _ _ (0, 0) hS1]; rfl
    have hL1 := hL.below hb1
    have hF1 : FrL b bM B w (w.alloc (.cells #[.int .i64 t.kind, .string ⟨t.tag.toArray⟩, .string ⟨t.value.toArray⟩, .slice A2 t.kids.length c2] 25)) := FrL.of_below hb1
    have hKb : w.heap.size ≠ b := by
      obtain ⟨p, buf, hb, _⟩ := hL.out
      have := lt_of_block hb
      omega
    have hKm : w.heap.size ≠ bM := by have := hL.met.block; omega
    have hkt := hks t (List.mem_of_getElem? ht)
    have hktn := hkn t (List.mem_of_getElem? ht)
    have HS := Lib.hid hst
    have HA := Lib.hid han
    have H0 := Lib.hid h0
    clear h hL htd h0 hst han
    go_enter Tryz.func33, Tryz.ntmps33
    go_wp2_with fail
    clear v0 v1 v2 v3 q0 q1 q2 q3 hb1 hS13
    generalize w.alloc _ = w1 at hS1 hL1 hF1 ⊢
    go_loopw [27] (fun j wr => ∃ (n : Nat) (metn : List Nat) (outn : Bs), j = .int .i64 n ∧ n ≤ t.kids.length ∧ (remI t n).foldlM stp (0, metn, outn) = some (e, met', out') ∧ LW w0 wr b B bA bM (.slice (some ⟨g, 0, none⟩) c.length cap) c flow an metn outn ∧ FrL b bM B w wr ∧
      wr.heap[w.heap.size]? = some (.cells #[.int .i64 t.kind, .string ⟨t.tag.toArray⟩, .string ⟨t.value.toArray⟩, .slice A2 t.kids.length c2] 25 (0, 0))) (fun j _ => t.kids.length - (intOf j).toNat)
    case atStart => exact ⟨0, met, out, rfl, Nat.zero_le _, H0.out, hL1, hF1, hS1⟩
    case round =>
      obtain ⟨n, metn, outn, rfl, hn, hfo, hL, hF, hS⟩ := hrel
      clear hL1 hF1 hS1 H0
      have s0 : wr.cell? ⟨w.heap.size, 0, none⟩ = some (.int .i64 t.kind) := by rw [cell_of_row _ _ _ _ _ (0, 0) hS]; rfl
      have s3 : wr.cell? ⟨w.heap.size, 3, none⟩ = some (.slice A2 t.kids.length c2) := by rw [cell_of_row _ _ _ _ _ (0, 0) hS]; rfl
      by_cases hnl : n < t.kids.length
      · have HRS := Lib.hid (remI_step t n hnl)
        obtain ⟨g6, o6, rfl, hcell⟩ := kid_cell hkr hL.wr.frame n hnl
        have hkid := hkt (t.kids.getD n 0) (by rw [List.getD_eq_getElem?_getD, List.getElem?_eq_getElem hnl]; exact List.getElem_mem hnl)
        have hn2 : (n : Int) < t.kids.length := by omega
        by_cases hev : t.kind = 3 ∧ n % 2 = 0
        · have hk3 : ((t.kind : Int) == 3) = true := by rw [hev.1]; rfl
          have hn0 : ((n : Int) % 2 == 0) = true := by simp; omega
          have hno : itemF t (t.kids.getD n 0, n) = none := by unfold itemF; rw [if_pos hev.1, if_pos hev.2]
          rw [HRS.out, hno] at hfo
          dsimp only at hfo
          generalize t.kids.getD n 0 = kid at *
          have HL := Lib.hid hL
          have HFO := Lib.hid hfo
          clear hL hfo hno hev HRS
          go_wp2
          go_roundw
          case rel => exact ⟨n + 1, metn, outn, by go_num, by omega, HFO.out, HL.out, hF, hS⟩
          case measure => simp [intOf]; omega
        · obtain ⟨x, hx, hx2, hx3, hx4⟩ : ∃ x, itemF t (t.kids.getD n 0, n) = some x ∧ x.2 = t.kids.getD n 0 ∧ (t.kind = 3 → ∃ m, n = m + 1 ∧ x.1 = some (t.kids.getD m 0)) ∧ (t.kind ≠ 3 → x.1 = none) := by
            unfold itemF
            by_cases h3 : t.kind = 3
            · rw [if_pos h3, if_neg (fun h => hev ⟨h3, h⟩)]
              exact ⟨_, rfl, rfl, fun _ => ⟨n - 1, by have : n % 2 ≠ 0 := fun h => hev ⟨h3, h⟩; omega, rfl⟩, fun h => absurd h3 h⟩
            · rw [if_neg h3]
              exact ⟨_, rfl, rfl, fun h => absurd h h3, fun _ => rfl⟩
          rw [HRS.out, hx] at hfo
          dsimp only at hfo
          rw [List.foldlM_cons] at hfo
          obtain ⟨s1, hs1, hfo⟩ := Option.bind_eq_some_iff.1 hfo
          rw [← hstp, stepL, if_neg (by simp)] at hs1
          dsimp only at hs1
          rw [hx2] at hs1
          generalize t.kids.getD n 0 = kid at *
          have HFO := Lib.hid hfo
          have hodd : t.kind = 3 → ((n : Int) % 2 == 0) = false := fun h3 => by
            have : n % 2 ≠ 0 := fun h => hev ⟨h3, h⟩
            simp; omega
          clear hfo hx hev HRS hx2
          by_cases he : (headM c flow [45] [58] x).2 = 0
          · rw [if_neg (by rw [he]; simp)] at hs1
            have hhl : (headM c flow [45] [58] x).1.length ≤ 200 := by
              unfold headM
              split
              · simp
              · have := rkey_len c flow
                rename_i k _
                have := this k
                simp; omega
            obtain ⟨hd, hhd⟩ : ∃ hd, (headM c flow [45] [58] x).1 = hd := ⟨_, rfl⟩
            rw [hhd] at hs1 hhl
            go_upto_if 34 with fail
            go_cut [10] (fun hv wx => hv = .string ⟨hd.toArray⟩ ∧ Below wr.heap.size wr wx)
            case first =>
              by_cases h3 : t.kind = 3
              · have hk3 : ((t.kind : Int) == 3) = true := by rw [h3]; rfl
                have hn0 := hodd h3
                obtain ⟨m, rfl, hxm⟩ := hx3 h3
                obtain ⟨g7, o7, hv7, hcm⟩ := kid_cell hkr hL.wr.frame m (by omega)
                cases hv7
                have hkey := hkt (t.kids.getD m 0) (by rw [List.getD_eq_getElem?_getD, List.getElem?_eq_getElem (show m < t.kids.length by omega)]; exact List.getElem_mem _)
                have ck := wkey_any w0 wr b bA bM _ c flow hL.wr (hT0.below hL.wr.frame) (t.kids.getD m 0) hkey hcl HS.out
                unfold headM at he hhd
                rw [hxm] at he hhd
                dsimp only at he hhd
                generalize t.kids.getD m 0 = key at *
                generalize rkeyM c flow key = K at *
                obtain ⟨k1, k2⟩ := K
                dsimp only at he hhd ck
                subst he
                have happ : (⟨k1.toArray⟩ : ByteArray) ++ ⟨#[58]⟩ = ⟨hd.toArray⟩ := by rw [← hhd]; exact app_l k1 [58]
                have z1 := size_l k1
                have hk1l : k1.length ≤ 200 := by rw [← hhd] at hhl; simp at hhl; omega
                have hm2 : (m : Int) < t.kids.length := by omega
                have hm3 : (m : Int) ≤ 1000000 := by omega
                clear hx3 hx4 h3 hL hF hS hhd
                go_wp2_with fail
                refine ck.mono ?_
                rintro _ w3 ⟨rfl, hb3⟩
                clear ck
                go_wp2
                go_meet
                exact ⟨rfl, hb3⟩
              · have hk3 : ((t.kind : Int) == 3) = false := by simp; omega
                have hhd2 : hd = [45] := by rw [← hhd]; unfold headM; rw [hx4 h3]
                subst hhd2
                clear hx3 hx4 hL hF hS hhd h3
                go_wp2
                go_meet
                exact ⟨rfl, Below.refl _ _⟩
            case rest =>
              obtain ⟨rfl, hbx⟩ := hcut
              obtain ⟨wx, rfl⟩ : ∃ wx : World, wx = wc := ⟨_, rfl⟩
              have hLx := hL.below hbx
              have hFx := hF.trans (FrL.of_below (b := b) (bM := bM) (B := B) hbx)
              have hSx := (FrL.of_below (b := b) (bM := bM) (B := B) hbx).other hS (by decide) hKb hKm
              have hBx : B ≤ wx.heap.size := Nat.le_trans hBw hFx.size
              clear hL hF hS hbx hx3 hx4 hodd s0 s3 hcell he hhd
              have HS1 := Lib.hid hs1
              have hcoll : (List.replicate col (32 : UInt8)).length = col := by simp
              have crep : ∀ W, Calls Tryz.prog 62 #[.string ⟨#[32]⟩, .int .i64 (col : Nat)] W fun e w' => e = .returned (.string ⟨(List.replicate col (32 : UInt8)).toArray⟩) ∧ Below W.heap.size W w' := fun W => by
                have := Tryz.strings_Repeat ⟨#[32]⟩ col W (by omega) (by show 1 * col ≤ _; omega)
                rw [show (⟨#[32]⟩ : ByteArray).data.toList = [32] from rfl, repeat_is] at this
                exact this
              have happ2 : (⟨(List.replicate col (32 : UInt8)).toArray⟩ : ByteArray) ++ ⟨hd.toArray⟩ = ⟨(List.replicate col 32 ++ hd).toArray⟩ := app_l _ _
              have z2 := size_l (List.replicate col (32 : UInt8))
              have z3 := size_l hd
              have houtn : outn.length + (List.replicate col (32 : UInt8) ++ hd).length ≤ 1000000000000 := by
                have h1 : outn.length ≤ s1.2.2.length := by
                  have := HS1.out
                  split at this
                  · cases this; simp
                  · split at this
                    · cases this; simp <;> omega
                    · have := hbl _ _ _ _ this
                      simp at this
                      omega
                have h2 := foldL_len c an flow col _ hbl _ _ _ (by rw [hstp]; exact HFO.out)
                simp only [List.length_append, hcoll]
                dsimp only at h2
                omega
              rw [hcoll] at z2
              generalize hpad : List.replicate col (32 : UInt8) = pad at *
              clear hpad hs1
              go_upto_region 12 with fail
              go_cut [] (fun wq => LW w0 wq b B bA bM (.slice (some ⟨g, 0, none⟩) c.length cap) c flow an metn (outn ++ (pad ++ hd)) ∧ FrL b bM B wx wq)
              case first =>
                go_region_with
                  (first
                    | (go_at_call 62; (with_reducible refine (crep _).mono ?_); rintro _ wa ⟨rfl, hba⟩
                       have lwa := (hLx.below (w' := wx.drew) (Below.refl _ _).drew).below hba
                       have hBa : B ≤ wa.heap.size := Nat.le_trans hBx hba.size
                       dsimp only)
                    | (go_at_call 31; (with_reducible refine (wstr_lw pl (pad ++ hd) _ lwa houtn hBa).mono ?_); rintro _ wb ⟨rfl, hLb, hFb⟩; dsimp only))
                all_goals
                  go_wp2_with fail
                  go_meet
                  exact ⟨hLb, (FrL.of_below (Below.refl _ _).drew).trans ((FrL.of_below hba).trans hFb)⟩
              case rest =>
                obtain ⟨hLy, hFy⟩ := hcut
                have hFy2 := hFx.trans hFy
                have hSy := hFy.other hSx (by decide) hKb hKm
                have hBy : B ≤ wc.heap.size := Nat.le_trans hBx hFy.size
                have hal : ((an kid).getD []).length ≤ 1000000 := by
                  cases h : an kid with
                  | none => simp
                  | some l => exact HA.out kid l h
                obtain ⟨tk, htk⟩ : ∃ tk, c[kid]? = some tk := ⟨_, List.getElem?_eq_getElem hkid⟩
                have htkd : c.getD kid th0 = tk := by rw [List.getD_eq_getElem?_getD, htk]; rfl
                have hsk := HS.out tk (List.mem_of_getElem? htk)
                have hsl := small_len c an flow metn kid hal (by rw [htkd]; exact hsk.1) (by rw [htkd]; exact hsk.2)
                have hpvl := propsM_len c an kid hal (by rw [htkd]; exact hsk.1)
                have csm := small_any w0 wc b bA bM _ c flow an metn hT0 hLy.wr hLy.an hLy.met pl.mb pl.am pl.m0 kid hkid hcl HS.out HA.out hkb
                generalize smallM c an flow metn kid = sm at *
                obtain ⟨⟨st, line, er⟩, met2⟩ := sm
                dsimp only at hsl csm
                have hs1 := HS1.out
                dsimp only at hs1
                clear hFx hLx hSx hFy crep happ2 z2 z3 HS1 htk htkd hsk hal
                go_upto_region 13 with fail
                go_wp2_with fail
                refine csm.mono ?_
                rintro _ w5 ⟨rfl, hM5, hg5⟩
                have hL5 := hLy.small pl hM5 hg5
                have hF5 := hFy2.trans (FrL.of_grown hg5)
                have hS5 := (FrL.of_grown (b := b) (B := B) hg5).other hSy (by decide) hKb hKm
                have hB5 : B ≤ w5.heap.size := Nat.le_trans hBy hg5.size
                clear csm hLy hFy2 hSy hBy hM5 hg5
                by_cases her : er = 0
                · subst her
                  rw [if_neg (by simp)] at hs1
                  have cp := wprops_any w0 w5 b bA bM _ c flow an hL5.wr hL5.an kid hkid hcl HS.out HA.out hkb
                  generalize propsM c an kid = PV at *
                  obtain ⟨S, hSe⟩ : ∃ S, (if line = true then st else PV) = S := ⟨_, rfl⟩
                  have hSl : S.length ≤ 20000000 := by
                    rw [← hSe]
                    split
                    · exact hsl
                    · omega
                  rw [hSe] at hs1
                  have hfl := foldL_len c an flow col _ hbl _ _ _ (by rw [hstp]; exact HFO.out)
                  dsimp only at hfl
                  have hol : (outn ++ (pad ++ hd) ++ (lineS S ++ [10])).length ≤ s1.2.2.length := by
                    split at hs1
                    · cases hs1; exact Nat.le_refl _
                    · exact hbl _ _ _ _ hs1
                  have H1 := Lib.hid hs1
                  clear hs1
                  go_upto_block 2 with fail
                  go_cut [13] (fun sv wq => sv = .string ⟨S.toArray⟩ ∧ Below w5.heap.size w5 wq)
                  case first =>
                    cases line with
                    | true =>
                      rw [if_pos rfl] at hSe
                      subst hSe
                      clear cp
                      go_wp2
                      go_meet
                      exact ⟨rfl, Below.refl _ _⟩
                    | false =>
                      rw [if_neg (by simp)] at hSe
                      subst hSe
                      go_wp2_with fail
                      refine cp.mono ?_
                      rintro _ w6 ⟨rfl, hb6⟩
                      clear cp
                      go_wp2
                      go_meet
                      exact ⟨rfl, hb6⟩
                  case rest =>
                    obtain ⟨rfl, hb6⟩ := hcut
                    obtain ⟨w6, rfl⟩ : ∃ w6 : World, w6 = wc := ⟨_, rfl⟩
                    have hL6 := hL5.below hb6
                    have hF6 := hF5.trans (FrL.of_below (b := b) (bM := bM) (B := B) hb6)
                    have hS6 := (FrL.of_below (b := b) (bM := bM) (B := B) hb6).other hS5 (by decide) hKb hKm
                    have hB6 : B ≤ w6.heap.size := Nat.le_trans hB5 hb6.size
                    clear cp hL5 hF5 hS5 hB5 hb6 hSe
                    go_upto_if 80 with fail
                    go_cut [13] (fun sv wq => sv = .string ⟨(lineS S).toArray⟩ ∧ wq = w6)
                    case first =>
                      cases hse : S.isEmpty with
                      | true =>
                        have hSn : S = [] := List.isEmpty_iff.1 hse
                        subst hSn
                        go_wp2
                        go_meet
                        exact ⟨rfl, rfl⟩
                      | false =>
                        have hSn : S ≠ [] := fun e => by rw [e] at hse; cases hse
                        have happ : (⟨#[32]⟩ : ByteArray) ++ ⟨S.toArray⟩ = ⟨(lineS S).toArray⟩ := by
                          unfold lineS
                          rw [if_pos hSn]
                          have := app_l [32] S
                          simpa using this
                        have z4 := size_l S
                        go_wp2
                        go_meet
                        exact ⟨by rw [← happ], rfl⟩
                    case rest =>
                      obtain ⟨rfl, rfl⟩ := hcut
                      have happ : (⟨(lineS S).toArray⟩ : ByteArray) ++ ⟨#[10]⟩ = ⟨(lineS S ++ [10]).toArray⟩ := app_l _ [10]
                      have z5 := size_l (lineS S)
                      have hlsl : (lineS S).length ≤ 20000001 := by
                        unfold lineS
                        split
                        · simp; omega
                        · omega
                      have hws := wstr_lw pl (lineS S ++ [10]) wc hL6 (by simp only [List.length_append] at hol ⊢; omega) hB6
                      generalize lineS S = LS at *
                      clear hL6
                      go_upto_region 20 with fail
                      go_wp2_with fail
                      refine hws.mono ?_
                      rintro _ w7 ⟨rfl, hL7, hf7⟩
                      have hF7 := hF6.trans hf7
                      have hS7 := hf7.other hS6 (by decide) hKb hKm
                      have hB7 : B ≤ w7.heap.size := Nat.le_trans hB6 hf7.size
                      clear hws hF6 hS6 hB6 hf7 happ z5
                      cases line with
                      | true =>
                        have h1 := H1.out
                        rw [if_pos rfl] at h1
                        cases h1
                        clear H1 hol hfl
                        go_wp2
                        go_roundw
                        case rel => exact ⟨n + 1, met2, _, by go_num, by omega, HFO.out, hL7, hF7, hS7⟩
                        case measure => simp [intOf]; omega
                      | false =>
                        have h1 := H1.out
                        rw [if_neg (by simp)] at h1
                        obtain ⟨e1, met3, out3⟩ := s1
                        have ihk := ih kid (col + 2) met2 _ e1 met3 out3 w7 h1 hkid (by omega) (by dsimp only at hfl; omega) hL7 hB7
                        rw [Int.natCast_add] at ihk
                        have hcol2 : (col : Int) ≤ 1000000000 := by omega
                        clear H1 h1 hL7 hol
                        go_wp2_with fail
                        refine ihk.mono ?_
                        rintro _ w8 ⟨rfl, hL8, hf8⟩
                        have hF8 := hF7.trans hf8
                        have hS8 := hf8.other hS7 (by decide) hKb hKm
                        clear ihk hF7 hS7 hf8
                        by_cases he1 : e1 = 0
                        · subst he1
                          go_wp2
                          go_roundw
                          case rel => exact ⟨n + 1, met3, out3, by go_num, by omega, HFO.out, hL8, hF8, hS8⟩
                          case measure => simp [intOf]; omega
                        · have he1b : ((e1 : Int) != 0) = true := by simp; omega
                          have hfin := HFO.out
                          rw [← hstp, foldL_err _ _ _ _ _ _ _ he1] at hfin
                          cases hfin
                          clear HFO
                          go_wp2
                          go_ret
                          exact ⟨rfl, hL8, hF8⟩
                · have herb : ((er : Int) != 0) = true := by simp; omega
                  rw [if_pos her] at hs1
                  cases hs1
                  have hfin := HFO.out
                  rw [← hstp, foldL_err _ _ _ _ _ _ _ her] at hfin
                  cases hfin
                  clear HFO hS5
                  go_wp2
                  go_ret
                  exact ⟨rfl, hL5, hF5⟩
          · obtain ⟨ec, hec⟩ : ∃ ec, (headM c flow [45] [58] x).2 = ec := ⟨_, rfl⟩
            rw [hec] at hs1 he
            have hfin := HFO.out
            rw [if_pos he] at hs1
            cases hs1
            rw [← hstp, foldL_err _ _ _ _ _ _ _ he] at hfin
            cases hfin
            unfold headM at hec
            have h3 : t.kind = 3 := by
              apply Classical.byContradiction
              intro h3
              apply he
              rw [hx4 h3] at hec
              exact hec.symm
            have hk3 : ((t.kind : Int) == 3) = true := by rw [h3]; rfl
            have hn0 := hodd h3
            obtain ⟨m, rfl, hxm⟩ := hx3 h3
            obtain ⟨g7, o7, hv7, hcm⟩ := kid_cell hkr hL.wr.frame m (by omega)
            cases hv7
            have hkey := hkt (t.kids.getD m 0) (by rw [List.getD_eq_getElem?_getD, List.getElem?_eq_getElem (show m < t.kids.length by omega)]; exact List.getElem_mem _)
            have ck := wkey_any w0 wr b bA bM _ c flow hL.wr (hT0.below hL.wr.frame) (t.kids.getD m 0) hkey hcl HS.out
            rw [hxm] at hec
            dsimp only at hec
            generalize t.kids.getD m 0 = key at *
            generalize rkeyM c flow key = K at *
            obtain ⟨k1, k2⟩ := K
            dsimp only at hec ck
            subst hec
            have heb : ((k2 : Int) != 0) = true := by simp; omega
            have hm2 : (m : Int) < t.kids.length := by omega
            have hm3 : (m : Int) ≤ 1000000 := by omega
            clear hx3 hx4 h3 hS HFO
            go_wp2_with fail
            refine ck.mono ?_
            rintro _ w3 ⟨rfl, hb3⟩
            clear ck
            go_wp2
            go_ret
            exact ⟨rfl, hL.below hb3, hF.trans (FrL.of_below hb3)⟩
      · rw [remI_end t n (by omega)] at hfo
        simp at hfo
        obtain ⟨rfl, rfl, rfl⟩ := hfo
        have hge2 : (t.kids.length : Int) ≤ n := by omega
        go_wp2
        go_ret
        exact ⟨rfl, hL, hF⟩
end Go.Proofs.YtghigiapfmlkbaaGreatDoor
