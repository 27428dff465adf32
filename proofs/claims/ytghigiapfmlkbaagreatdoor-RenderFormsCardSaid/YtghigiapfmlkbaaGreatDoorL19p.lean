/- scholiumlaw19's graphs: plain facts. -/
import Derived.Test.YtghigiapfmlkbaaGreatDoorR18
namespace Go.Proofs.YtghigiapfmlkbaaGreatDoor
open Go.RowKit

theorem foldlM_mono {α β : Type} (f g : β → α → Option β) (h : ∀ b a r, f b a = some r → g b a = some r) : ∀ (l : List α) (b r : β), l.foldlM f b = some r → l.foldlM g b = some r
  | [], b, r, e => e
  | a :: l, b, r, e => by
    rw [List.foldlM_cons] at e ⊢
    obtain ⟨x, hx, hr⟩ := Option.bind_eq_some_iff.1 e
    exact Option.bind_eq_some_iff.2 ⟨x, h _ _ _ hx, foldlM_mono f g h l x r hr⟩
theorem linesM_mono (c : List Th) (an : Nat → Option Bs) (flow : Bool) : ∀ (f i col : Nat) (met : List Nat) (out : Bs) (r), linesM c an flow f i col met out = some r → linesM c an flow (f + 1) i col met out = some r := by
  intro f
  induction f with
  | zero => intro i col met out r h; simp [linesM] at h
  | succ f ih =>
    intro i col met out r h
    rw [linesM] at h ⊢
    refine foldlM_mono _ _ (fun p x q hq => ?_) _ _ _ h
    unfold stepL at hq ⊢
    dsimp only at hq ⊢
    by_cases h1 : p.1 ≠ 0
    · rw [if_pos h1] at hq ⊢; exact hq
    · rw [if_neg h1] at hq ⊢
      by_cases h2 : (headM c flow [45] [58] x).2 ≠ 0
      · rw [if_pos h2] at hq ⊢; exact hq
      · rw [if_neg h2] at hq ⊢
        by_cases h3 : (smallM c an flow p.2.1 x.2).1.2.2 ≠ 0
        · rw [if_pos h3] at hq ⊢; exact hq
        · rw [if_neg h3] at hq ⊢
          by_cases h4 : (smallM c an flow p.2.1 x.2).1.2.1 = true
          · rw [if_pos h4] at hq ⊢; exact hq
          · rw [if_neg h4] at hq ⊢; exact ih _ _ _ _ _ hq
theorem linesM_le (c : List Th) (an : Nat → Option Bs) (flow : Bool) (i col : Nat) (met : List Nat) (out : Bs) (r) : ∀ (d f : Nat), linesM c an flow f i col met out = some r → linesM c an flow (f + d) i col met out = some r
  | 0, _, h => h
  | d + 1, f, h => linesM_mono c an flow _ _ _ _ _ _ (linesM_le c an flow i col met out r d f h)
theorem linesM_two (c : List Th) (an : Nat → Option Bs) (flow : Bool) (i col : Nat) (met : List Nat) (out : Bs) (f1 f2 : Nat) (r1 r2) (h1 : linesM c an flow f1 i col met out = some r1) (h2 : linesM c an flow f2 i col met out = some r2) : r1 = r2 := by
  have a := linesM_le c an flow i col met out r1 f2 f1 h1
  have b := linesM_le c an flow i col met out r2 f1 f2 h2
  rw [Nat.add_comm] at b
  exact Option.some.inj (a.symm.trans b)

/-- What both functions tell of a graph that is walked. -/
structure Told (g : List Th) (r u : Bs × Nat) : Prop where
  small : Small g
  ren : renderM g = some r
  ne : r.2 = 0 → r.1 ≠ []
  inl : rinlineM g = some u
  out : ∀ f e met out, linesM (canonM g) (anchorM (canonM g)) false f 0 0 (smallM (canonM g) (anchorM (canonM g)) false [] 0).2 (if propsM (canonM g) (anchorM (canonM g)) 0 ≠ [] then propsM (canonM g) (anchorM (canonM g)) 0 ++ [10] else []) = some (e, met, out) → out.length ≤ 100000000000
def toldB (g : List Th) (r u : Bs × Nat) : Bool :=
  decide (g.length ≤ 1000000) && decide (kidsSum g ≤ 1000000) && g.all (fun t => decide (t.tag.length ≤ 1000000) && decide (t.value.length ≤ 1000000) && decide (t.kind ≤ 1000000)) &&
  decide ((canonM g).length ≤ 1000000) && decide (kidsSum (canonM g) ≤ 1000000) && decide ((sharedM (canonM g)).length ≤ 98) && (renderM g == some r) && (r.2 != 0 || r.1 != []) && (rinlineM g == some u) &&
  (match linesM (canonM g) (anchorM (canonM g)) false ((canonM g).length + 2) 0 0 (smallM (canonM g) (anchorM (canonM g)) false [] 0).2 (if propsM (canonM g) (anchorM (canonM g)) 0 ≠ [] then propsM (canonM g) (anchorM (canonM g)) 0 ++ [10] else []) with
    | some q => decide (q.2.2.length ≤ 100000000000)
    | none => false)
theorem toldB_is {g : List Th} {r u : Bs × Nat} (h : toldB g r u = true) : Told g r u := by
  unfold toldB at h
  simp only [Bool.and_eq_true, decide_eq_true_eq, List.all_eq_true, beq_iff_eq, Bool.or_eq_true, bne_iff_ne] at h
  obtain ⟨⟨⟨⟨⟨⟨⟨⟨⟨h1, h2⟩, h3⟩, h4⟩, h5⟩, h6⟩, h7⟩, h8⟩, h9⟩, h10⟩ := h
  refine ⟨⟨h1, h2, fun t ht => (h3 t ht).1, fun t ht => (h3 t ht).2, h4, h5, h6⟩, h7, fun e => h8.resolve_left (fun k => k e), h9, fun f e met out hl => ?_⟩
  split at h10
  · rename_i q hq
    have := linesM_two _ _ _ _ _ _ _ _ _ _ _ hl hq
    subst this
    simpa using h10
  · cases h10

def strT (s : Bs) : Th := ⟨1, [33, 33, 115, 116, 114], s, []⟩
def seqT (l : List Nat) : Th := ⟨2, [33, 33, 115, 101, 113], [], l⟩
def mapT (l : List Nat) : Th := ⟨3, [33, 33, 109, 97, 112], [], l⟩
def lettersR : Bs := [97, 98, 99, 100, 101, 102, 103, 104]
/-- RenderForms' graphs: with the text over lines, and on one. -/
def rendTab (a : UInt8) : List (List Th × Bs × Bs) := [
  ([strT [a]], [a, 10], [a]),
  ([strT [49]], [34, 49, 34, 10], [34, 49, 34]),
  ([seqT []], [91, 93, 10], [91, 93]),
  ([mapT []], [123, 125, 10], [123, 125]),
  ([mapT [1, 2], strT [a], seqT [3], strT [98]], [a, 58, 10, 32, 32, 45, 32, 98, 10], [123, a, 58, 32, 91, 98, 93, 125]),
  ([seqT [1, 2], strT [a], seqT [3], strT [120, 44, 32, 121]], [45, 32, a, 10, 45, 10, 32, 32, 45, 32, 120, 44, 32, 121, 10], [91, a, 44, 32, 91, 34, 120, 44, 32, 121, 34, 93, 93]),
  ([seqT [1, 1], strT [a]], [45, 32, 38, 97, 49, 32, a, 10, 45, 32, 42, 97, 49, 10], []),
  ([seqT [0]], [38, 97, 49, 10, 45, 32, 42, 97, 49, 10], []),
  ([mapT [1, 2, 3, 2], strT [a], seqT [4], strT [122], strT [49, 46, 53]], [a, 58, 32, 38, 97, 49, 10, 32, 32, 45, 32, 34, 49, 46, 53, 34, 10, 122, 58, 32, 42, 97, 49, 10], []),
  ([⟨3, [33, 116], [], [1, 2]⟩, strT [a], ⟨1, [33, 33, 110, 117, 108, 108], [], []⟩], [33, 116, 10, a, 58, 32, 33, 33, 110, 117, 108, 108, 32, 34, 34, 10], [33, 116, 32, 123, a, 58, 32, 33, 33, 110, 117, 108, 108, 32, 34, 34, 125]),
  ([seqT [1], ⟨1, [33, 33, 105, 110, 116], [49, 50], []⟩], [45, 32, 49, 50, 10], [91, 49, 50, 93]),
  ([seqT [1], ⟨2, [33, 121], [], []⟩], [45, 32, 33, 121, 32, 91, 93, 10], [91, 33, 121, 32, 91, 93, 93])]
def rendOk (p : List Th × Bs × Bs) : Bool := toldB p.1 (p.2.1, 0) (p.2.2, if p.2.2 = [] then 11 else 0)
theorem rend_ok : ∀ v, v < 8 → (rendTab (lettersR.getD v 0)).all rendOk = true := by decide +kernel
theorem wake19_ok : toldB [seqT [1], strT [97]] ([45, 32, 97, 10], 0) ([91, 97, 93], 0) = true := by decide +kernel
theorem letterR_at (v : Nat) (h : v < 8) : ∃ X, (∀ W, (Instr.slice 9 (.string ⟨#[97, 98, 99, 100, 101, 102, 103, 104]⟩) (some (.int .i64 v)) none none).run Tryz.prog W = .ok (.string X) W) ∧ ∀ W, (Instr.slice 9 (.string X) none (some (.int .i64 1)) none).run Tryz.prog W = .ok (.string ⟨#[lettersR.getD v 0]⟩) W := by
  match v, h with
  | 0, _ => exact ⟨⟨(lettersR.drop 0).toArray⟩, fun W => by kernel_rfl, fun W => by kernel_rfl⟩
  | 1, _ => exact ⟨⟨(lettersR.drop 1).toArray⟩, fun W => by kernel_rfl, fun W => by kernel_rfl⟩
  | 2, _ => exact ⟨⟨(lettersR.drop 2).toArray⟩, fun W => by kernel_rfl, fun W => by kernel_rfl⟩
  | 3, _ => exact ⟨⟨(lettersR.drop 3).toArray⟩, fun W => by kernel_rfl, fun W => by kernel_rfl⟩
  | 4, _ => exact ⟨⟨(lettersR.drop 4).toArray⟩, fun W => by kernel_rfl, fun W => by kernel_rfl⟩
  | 5, _ => exact ⟨⟨(lettersR.drop 5).toArray⟩, fun W => by kernel_rfl, fun W => by kernel_rfl⟩
  | 6, _ => exact ⟨⟨(lettersR.drop 6).toArray⟩, fun W => by kernel_rfl, fun W => by kernel_rfl⟩
  | 7, _ => exact ⟨⟨(lettersR.drop 7).toArray⟩, fun W => by kernel_rfl, fun W => by kernel_rfl⟩

/-- Ints of a block that was just made. -/
theorem IntsR.made (w : World) (t : TypeId) (l : List Nat) : IntsR (w.alloc (.cells (l.map fun n : Nat => Value.int .i64 (n : Int)).toArray t)) (.slice (some ⟨w.heap.size, 0, none⟩) l.length l.length) l := by
  refine .inr ⟨w.heap.size, 0, l.length, rfl, fun n hn => ?_⟩
  rw [World.cell?_alloc_at _ _ _ _ rfl]
  simp [List.getD_eq_getElem?_getD, List.getElem?_eq_getElem hn]
theorem IntsR.nil (w : World) (A : Option Addr) (c : Nat) : IntsR w (.slice A 0 c) [] := .inl ⟨rfl, A, c, rfl⟩
/-- Things of a block that was just made. -/
theorem GR.made (w : World) (t : TypeId) (l : List (Th × Value)) (hk : ∀ p ∈ l, IntsR w p.2 p.1.kids) : GR (w.alloc (.cells (flatT l).toArray t)) (.slice (some ⟨w.heap.size, 0, none⟩) l.length l.length) (l.map (·.1)) := by
  refine .inr ⟨w.heap.size, l.length, by rw [List.length_map], by rw [List.length_map]; exact Nat.le_refl _, fun i u hu => ?_⟩
  rw [List.getElem?_map] at hu
  obtain ⟨p, hp, rfl⟩ := Option.map_eq_some_iff.1 hu
  refine ⟨p.2, fun j hj => ?_, (hk p (List.mem_of_getElem? hp)).below ((Below.refl _ _).alloc (Nat.le_refl _) _)⟩
  rw [World.cell?_alloc_at _ _ _ _ rfl]
  rw [← flatT_get l i j p hp hj]
  simp
theorem GR.made2 {w : World} {t : TypeId} {cs : Array Value} {B n : Nat} {g : List Th} (l : List (Th × Value)) (h1 : w.heap.size = B) (h2 : (flatT l).toArray = cs) (h3 : l.map (·.1) = g) (h4 : l.length = n) (hk : ∀ p ∈ l, IntsR w p.2 p.1.kids) : GR (w.alloc (.cells cs t)) (.slice (some ⟨B, 0, none⟩) n n) g := by
  subst h1 h2 h3 h4
  exact GR.made w t l hk
theorem IntsR.made2 {w : World} {t : TypeId} {cs : Array Value} {B n : Nat} {l : List Nat} (h1 : w.heap.size = B) (h2 : (l.map fun n : Nat => Value.int .i64 (n : Int)).toArray = cs) (h4 : l.length = n) : IntsR (w.alloc (.cells cs t)) (.slice (some ⟨B, 0, none⟩) n n) l := by
  subst h1 h2 h4
  exact IntsR.made w t l
/-- The entries of a table: a graph's slice, its text over lines, its text on one. -/
abbrev Ent := (List Th × Bs × Bs) × Value
def flatE : List Ent → List Value
  | [] => []
  | p :: t => [p.2, .string ⟨p.1.2.1.toArray⟩, .string ⟨p.1.2.2.toArray⟩] ++ flatE t
theorem flatE_get : ∀ (l : List Ent) (i : Nat) (p : Ent), l[i]? = some p → (flatE l)[i * 3]? = some p.2 ∧ (flatE l)[i * 3 + 1]? = some (.string ⟨p.1.2.1.toArray⟩) ∧ (flatE l)[i * 3 + 2]? = some (.string ⟨p.1.2.2.toArray⟩)
  | [], _, _, h => by simp at h
  | q :: t, 0, p, h => by
    simp only [List.getElem?_cons_zero, Option.some.injEq] at h
    subst h
    simp [flatE]
  | q :: t, i + 1, p, h => by
    have := flatE_get t i p (by simpa using h)
    rw [flatE]
    have e : ∀ j, ([q.2, Value.string ⟨q.1.2.1.toArray⟩, Value.string ⟨q.1.2.2.toArray⟩] ++ flatE t)[(i + 1) * 3 + j]? = (flatE t)[i * 3 + j]? := fun j => by
      rw [List.getElem?_append_right (by simp; omega)]
      congr 1
      simp; omega
    exact ⟨(e 0).trans this.1, (e 1).trans this.2.1, (e 2).trans this.2.2⟩
/-- A block of entries. -/
def EntAt (w : World) (E : Nat) (ps : List Ent) : Prop := ∀ j p, ps[j]? = some p → GR w p.2 p.1.1 ∧ w.cell? ⟨E, j * 3, none⟩ = some p.2 ∧ w.cell? ⟨E, j * 3 + 1, none⟩ = some (.string ⟨p.1.2.1.toArray⟩) ∧ w.cell? ⟨E, j * 3 + 2, none⟩ = some (.string ⟨p.1.2.2.toArray⟩)
theorem EntAt.below {w w1 : World} {E : Nat} {ps : List Ent} (h : EntAt w E ps) (hb : Below w.heap.size w w1) : EntAt w1 E ps := fun j p hp => by
  obtain ⟨h1, h2, h3, h4⟩ := h j p hp
  exact ⟨h1.below hb, pw_cell hb h2, pw_cell hb h3, pw_cell hb h4⟩
theorem EntAt.made {w : World} {t : TypeId} {cs : Array Value} {B : Nat} (ps : List Ent) (h1 : w.heap.size = B) (h2 : (flatE ps).toArray = cs) (hk : ∀ p ∈ ps, GR w p.2 p.1.1) : EntAt (w.alloc (.cells cs t)) B ps := by
  subst h1 h2
  intro j p hp
  obtain ⟨e1, e2, e3⟩ := flatE_get ps j p hp
  refine ⟨(hk p (List.mem_of_getElem? hp)).below ((Below.refl _ _).alloc (Nat.le_refl _) _), ?_, ?_, ?_⟩ <;> rw [World.cell?_alloc_at _ _ _ _ rfl]
  · simpa using e1
  · simpa using e2
  · simpa using e3
theorem rend_at {a : UInt8} (h : (rendTab a).all rendOk = true) {ps : List Ent} (hp : ps.map (·.1) = rendTab a) {j : Nat} {p : Ent} (hj : ps[j]? = some p) : Told p.1.1 (p.1.2.1, 0) (p.1.2.2, if p.1.2.2 = [] then 11 else 0) := by
  have hm : p.1 ∈ rendTab a := by rw [← hp]; exact List.mem_map_of_mem (List.mem_of_getElem? hj)
  exact toldB_is (List.all_eq_true.1 h _ hm)
end Go.Proofs.YtghigiapfmlkbaaGreatDoor
