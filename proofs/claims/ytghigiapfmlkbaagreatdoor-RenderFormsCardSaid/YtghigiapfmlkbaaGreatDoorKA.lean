/- Things, ints and numbers in memory. -/
import Derived.Test.YtghigiapfmlkbaaGreatDoorMF
import Derived.Test.YtghigiapfmlkbaaGreatDoorW2
import Derived.OneCell
namespace Go.Proofs.YtghigiapfmlkbaaGreatDoor
open Go.RowKit
open Go.Maps (Keyed)

/-- The kids at even places. -/
def evs : List Nat → List Nat
  | [] => []
  | [a] => [a]
  | a :: _ :: t => a :: evs t
/-- A thing of a graph. -/
structure Th where
  kind : Nat
  tag : Bs
  value : Bs
  kids : List Nat
  deriving DecidableEq
/-- Pairs as a map over ints. -/
def intF (f : Nat → Option Nat) : Value → Option Value
  | .int .i64 z => if 0 ≤ z then (f z.toNat).map fun n => .int .i64 (n : Nat) else none
  | _ => none
theorem intF_at (f : Nat → Option Nat) (k : Nat) : intF f (.int .i64 (k : Nat)) = (f k).map fun n => Value.int .i64 (n : Nat) := by simp [intF]
theorem evs_take (l : List Nat) : ∀ n, n < l.length → evs (l.take (n + 1)) = evs (l.take n) ++ (if n % 2 = 0 then [l.getD n 0] else []) := by
  have key : ∀ (k : Nat) (l : List Nat) (n : Nat), l.length ≤ k → n < l.length → evs (l.take (n + 1)) = evs (l.take n) ++ (if n % 2 = 0 then [l.getD n 0] else []) := by
    intro k
    induction k with
    | zero => intro l n h1 h2; omega
    | succ k ih =>
      intro l n h1 h2
      match l, n, h1, h2 with
      | [a], 0, _, _ => simp [evs]
      | a :: b :: t, 0, _, _ => simp [evs]
      | a :: b :: t, 1, _, _ => simp [evs]
      | a :: b :: t, n + 2, h1, h2 =>
        have := ih t n (by simp at h1; omega) (by simp at h2; omega)
        rw [List.take_succ_cons, List.take_succ_cons, List.take_succ_cons, List.take_succ_cons, evs, evs, this, show (n + 2) % 2 = n % 2 by omega]
        simp
      | [a], n + 1, _, h2 => simp at h2
  exact fun n hn => key l.length l n (Nat.le_refl _) hn
/-- A slice of ints that reads as l. -/
def IntsR (w : World) (v : Value) (l : List Nat) : Prop := (l = [] ∧ ∃ A c, v = .slice A 0 c) ∨ ∃ g o c, v = .slice (some ⟨g, o, none⟩) l.length c ∧ ∀ n, n < l.length → w.cell? ⟨g, o + n, none⟩ = some (.int .i64 (l.getD n 0 : Nat))
theorem IntsR.below {w w1 : World} {v : Value} {l : List Nat} (h : IntsR w v l) (hb : Below w.heap.size w w1) : IntsR w1 v l := by
  rcases h with h | ⟨g, o, c, h1, h2⟩
  · exact .inl h
  · exact .inr ⟨g, o, c, h1, fun n hn => pw_cell hb (h2 n hn)⟩
theorem IntsR.turned {w w1 : World} {b : Nat} {v : Value} {l : List Nat} (h : IntsR w v l) (ht : w.mapTurned w1 b) : IntsR w1 v l := by
  rcases h with h | ⟨g, o, c, h1, h2⟩
  · exact .inl h
  · exact .inr ⟨g, o, c, h1, fun n hn => (turned_cell ht _).trans (h2 n hn)⟩
theorem IntsR.shape {w : World} {v : Value} {l : List Nat} (h : IntsR w v l) : ∃ A c, v = .slice A l.length c := by
  rcases h with ⟨rfl, A, c, rfl⟩ | ⟨g, o, c, rfl, h2⟩
  · exact ⟨A, c, rfl⟩
  · exact ⟨_, c, rfl⟩
theorem intLaw : Keyed Tryz.prog 3 := Maps.int_keyed Tryz.underlying3
theorem intZero (w : World) : (zeroValue 3).run Tryz.prog w = .ok (.int .i64 0) w := by kernel_rfl
theorem intKey (k : Nat) (h : k ≤ 1000000000) : keyOf Tryz.prog 3 (.int .i64 (k : Nat)) = some (.int .i64 (k : Nat)) := Maps.keyOf_int_mk Tryz.underlying3 (WalkArith.wf_i64 (by omega))
theorem intElem (k : Nat) (h : k ≤ 1000000000) : plainElem (H := Unit) Tryz.prog 3 (.int .i64 (k : Nat)) = some (.lit (.int .i64 (k : Nat)), []) := plainElem_int Tryz.underlying3 (WalkArith.wf_i64 (by omega))
theorem intKey_inv {key : Value} {kl : Lit} (h : keyOf Tryz.prog 3 key = some kl) : ∃ z : Int, key = .int .i64 z := by
  obtain ⟨x, rfl, _⟩ := Maps.keyOf_int_inv Tryz.underlying3 h
  exact ⟨x, rfl⟩
/-- Block N holds these numbers. -/
def NumAt (w : World) (N : Nat) (l : List Nat) : Prop := w.heap[N]? = some (.cells (l.map fun n : Nat => Value.int .i64 (n : Int)).toArray 3 (0, 0))
theorem NumAt.cell {w : World} {N : Nat} {l : List Nat} (h : NumAt w N l) (i : Nat) (hi : i < l.length) : w.cell? ⟨N, i, none⟩ = some (.int .i64 (l.getD i 0 : Nat)) := by
  rw [cell_of_row _ _ _ _ _ (0, 0) h]
  simp [List.getD_eq_getElem?_getD, List.getElem?_eq_getElem hi]
theorem NumAt.free {w : World} {N : Nat} {l : List Nat} (h : NumAt w N l) (i : Nat) : w.frozen? ⟨N, i, none⟩ = false := by
  unfold NumAt at h
  simp [World.frozen?, h]
theorem NumAt.lt {w : World} {N : Nat} {l : List Nat} (h : NumAt w N l) : N < w.heap.size := lt_of_block h
theorem NumAt.kept {w w' : World} {N : Nat} {l : List Nat} {row : Option Nat} (h : NumAt w N l) (hg : w.grownBy w' row) (hne : some N ≠ row) : NumAt w' N l := (hg.block N h.lt hne).trans h
theorem NumAt.alloc {w : World} {N : Nat} {l : List Nat} (h : NumAt w N l) (o : Obj) : NumAt (w.alloc o) N l := h.kept (World.grownBy_alloc w o none) (by simp)
theorem NumAt.other {w : World} {N : Nat} {l : List Nat} (h : NumAt w N l) {a : Addr} (ha : N ≠ a.block) (u : Value) : NumAt (w.setCell a u) N l := by
  unfold NumAt
  rw [heap_setCell_other _ _ _ _ ha]
  exact h
theorem NumAt.set {w : World} {N : Nat} {l : List Nat} (h : NumAt w N l) (i v : Nat) : NumAt (w.setCell ⟨N, i, none⟩ (.int .i64 (v : Int))) N (l.set i v) := by
  unfold NumAt
  rw [heap_setCell_same _ _ _ _ _ _ h]
  simp [List.map_set]
theorem NumAt.made (w : World) (n : Nat) : NumAt (w.alloc (.cells (madeCells #[.int .i64 0] n) 3)) w.heap.size (List.replicate n 0) := by
  unfold NumAt
  rw [heap_alloc_new]
  congr 2
  apply Array.ext
  · simp [madeCells]
  · intro i h1 h2
    simp [madeCells, Nat.mod_one]
/-- The four cells of a thing. -/
def thCells (t : Th) (v : Value) : List Value := [.int .i64 t.kind, .string ⟨t.tag.toArray⟩, .string ⟨t.value.toArray⟩, v]
def flatT : List (Th × Value) → List Value
  | [] => []
  | p :: t => thCells p.1 p.2 ++ flatT t
theorem flatT_len : ∀ l : List (Th × Value), (flatT l).length = l.length * 4
  | [] => rfl
  | p :: t => by rw [flatT, List.length_append, flatT_len t, List.length_cons]; simp [thCells]; omega
theorem flatT_app : ∀ l m : List (Th × Value), flatT (l ++ m) = flatT l ++ flatT m
  | [], _ => rfl
  | p :: t, m => by rw [List.cons_append, flatT, flatT, flatT_app t m, List.append_assoc]
theorem flatT_get : ∀ (l : List (Th × Value)) (i j : Nat) (p : Th × Value), l[i]? = some p → j < 4 → (flatT l)[i * 4 + j]? = (thCells p.1 p.2)[j]?
  | [], _, _, _, h, _ => by simp at h
  | q :: t, 0, j, p, h, hj => by
    simp only [List.getElem?_cons_zero, Option.some.injEq] at h
    subst h
    rw [flatT, List.getElem?_append_left (by simp [thCells]; omega), Nat.zero_mul, Nat.zero_add]
  | q :: t, i + 1, j, p, h, hj => by
    rw [flatT, List.getElem?_append_right (by simp [thCells]; omega), show (thCells q.1 q.2).length = 4 from rfl, show (i + 1) * 4 + j - 4 = i * 4 + j by omega]
    exact flatT_get t i j p (by simpa using h) hj
/-- A row of ints for these kids. -/
abbrev KRow (w : World) (B : Nat) (v : Value) (ks : List Nat) : Prop := w.ownsRow B 3 1 v ks.length (ks.map fun k : Nat => Value.int .i64 (k : Int))
/-- Things of the call's own. -/
structure OutAt (w : World) (B : Nat) (v : Value) (l : List (Th × Value)) : Prop where
  row : w.ownsRow B 25 4 v l.length (flatT l)
  kids : ∀ p ∈ l, KRow w B p.2 p.1.kids
  apart : l.Pairwise fun p q => ∀ k, p.2.ownBlock = some k → q.2.ownBlock ≠ some k
theorem OutAt.nil (w : World) (B : Nat) : OutAt w B (.slice none 0 0) [] := ⟨World.ownsRow_nil _ _ _ _, fun p hp => (by cases hp), List.Pairwise.nil⟩
theorem own_neT {w : World} {B n g : Nat} {v : Value} {xs : List Value} {cs : Array Value} (h : w.ownsRow B 3 1 v n xs) (hg : w.heap[g]? = some (.cells cs 25 (0, 0))) : v.ownBlock ≠ some g := by
  obtain ⟨_, ⟨rfl, _⟩ | ⟨k, cap, cur, rfl, _, hc, _⟩⟩ := h
  · intro e; cases e
  · intro e
    simp only [Value.ownBlock, Option.some.injEq] at e
    subst e
    rw [hc] at hg
    simp at hg
theorem row_neT {w : World} {B n m : Nat} {v u : Value} {xs ys : List Value} (h : w.ownsRow B 3 1 v n xs) (hu : w.ownsRow B 25 4 u m ys) : v.ownBlock = none ∨ v.ownBlock ≠ u.ownBlock := by
  obtain ⟨_, ⟨rfl, _⟩ | ⟨k, cap, cur, rfl, _, hc, _⟩⟩ := hu
  · cases hv : v.ownBlock
    · exact .inl rfl
    · exact .inr (by intro e; cases e)
  · exact .inr (own_neT h hc)
theorem row_neT2 {w : World} {B n m : Nat} {v u : Value} {xs ys : List Value} (h : w.ownsRow B 3 1 v n xs) (hu : w.ownsRow B 25 4 u m ys) : u.ownBlock = none ∨ u.ownBlock ≠ v.ownBlock := by
  rcases row_neT h hu with h1 | h1
  · cases hk : u.ownBlock
    · exact .inl rfl
    · exact .inr (by rw [h1]; intro e; cases e)
  · exact .inr (fun e => h1 e.symm)
/-- A world that grew by another row. -/
theorem OutAt.kept {w w' : World} {B : Nat} {v : Value} {l : List (Th × Value)} {row : Option Nat} (h : OutAt w B v l) (hg : w.grownBy w' row) (hv : v.ownBlock = none ∨ v.ownBlock ≠ row) (hk : ∀ p ∈ l, p.2.ownBlock = none ∨ p.2.ownBlock ≠ row) : OutAt w' B v l :=
  ⟨World.ownsRow.kept h.row hg hv, fun p hp => World.ownsRow.kept (h.kids p hp) hg (hk p hp), h.apart⟩
theorem OutAt.alloc {w : World} {B : Nat} {v : Value} {l : List (Th × Value)} (h : OutAt w B v l) (o : Obj) : OutAt (w.alloc o) B v l :=
  h.kept (World.grownBy_alloc w o none) (by cases v.ownBlock <;> simp) (fun p _ => by cases p.2.ownBlock <;> simp)
theorem OutAt.below {w w' : World} {B : Nat} {v : Value} {l : List (Th × Value)} (h : OutAt w B v l) (hb : Below w.heap.size w w') : OutAt w' B v l :=
  ⟨own_below h.row hb, fun p hp => own_below (h.kids p hp) hb, h.apart⟩
theorem own_neB {w : World} {B n e size : Nat} {v : Value} {xs : List Value} (h : w.ownsRow B e size v n xs) {a : Nat} (ha : a < B) : v.ownBlock ≠ some a := fun e2 => by
  have := (World.ownsRow.lt h a e2).1
  omega
/-- A store elsewhere. -/
theorem OutAt.other {w : World} {B : Nat} {v : Value} {l : List (Th × Value)} (h : OutAt w B v l) {a : Addr} (hv : v.ownBlock ≠ some a.block) (hk : ∀ p ∈ l, p.2.ownBlock ≠ some a.block) (u : Value) : OutAt (w.setCell a u) B v l :=
  ⟨ownsRow_setCell_other h.row hv u, fun p hp => ownsRow_setCell_other (h.kids p hp) (hk p hp) u, h.apart⟩
/-- One thing more. -/
theorem OutAt.snoc {w w' : World} {B : Nat} {v v' : Value} {l : List (Th × Value)} {p : Th × Value} (h : OutAt w B v l) (hp : KRow w B p.2 p.1.kids) (hap : ∀ q ∈ l, ∀ k, q.2.ownBlock = some k → p.2.ownBlock ≠ some k) (hg : w.grownBy w' v.ownBlock)
    (hrow : w'.ownsRow B 25 4 v' (l.length + 1) (flatT l ++ thCells p.1 p.2)) : OutAt w' B v' (l ++ [p]) := by
  refine ⟨?_, fun q hq => ?_, ?_⟩
  · rw [List.length_append, flatT_app]
    simpa [flatT] using hrow
  · rcases List.mem_append.1 hq with hq | hq
    · exact World.ownsRow.kept (h.kids q hq) hg (row_neT (h.kids q hq) h.row)
    · rw [List.mem_singleton] at hq
      subst hq
      exact World.ownsRow.kept hp hg (row_neT hp h.row)
  · rw [List.pairwise_append]
    refine ⟨h.apart, List.pairwise_singleton _ _, fun q hq r hr => ?_⟩
    rw [List.mem_singleton] at hr
    subst hr
    exact hap q hq
theorem OutAt.shape {w : World} {B : Nat} {v : Value} {l : List (Th × Value)} (h : OutAt w B v l) : ∃ A c, v = .slice A l.length c := by
  obtain ⟨_, ⟨rfl, h0⟩ | ⟨g, cap, cur, rfl, _⟩⟩ := h.row
  · exact ⟨none, 0, by rw [h0]⟩
  · exact ⟨_, _, rfl⟩
theorem KRow.shape {w : World} {B : Nat} {v : Value} {ks : List Nat} (h : KRow w B v ks) : ∃ A c, v = .slice A ks.length c := by
  obtain ⟨_, ⟨rfl, h0⟩ | ⟨g, cap, cur, rfl, _⟩⟩ := h
  · exact ⟨none, 0, by rw [h0]⟩
  · exact ⟨_, _, rfl⟩
theorem info_thing : (Tryz.prog.info? 25).map (fun i => (i.zero, i.size, i.bytes)) = some (some (.agg #[.int .i64 0, .string ⟨#[]⟩, .string ⟨#[]⟩, .slice none 0 0]), 4, 64) := by kernel_rfl
theorem own_cells {w : World} {B n e size : Nat} {v : Value} {xs : List Value} (h : w.ownsRow B e size v n xs) (hn : 0 < n) : ∃ g cap, v = .slice (some ⟨g, 0, none⟩) n cap ∧ n ≤ cap ∧ ∀ i, i < n * size → w.cell? ⟨g, i, none⟩ = xs[i]? := by
  obtain ⟨_, ⟨rfl, h0⟩ | ⟨g, cap, cur, rfl, hg, hc, hn2, hmx, hs, ht⟩⟩ := h
  · omega
  · refine ⟨g, cap, rfl, hn2, fun i hi => ?_⟩
    rw [cell_of_row _ _ _ _ _ (0, 0) hc, ← ht, List.getElem?_take, if_pos hi]
    simp
theorem KRow.ints {w : World} {B : Nat} {v : Value} {ks : List Nat} (h : KRow w B v ks) : IntsR w v ks := by
  by_cases hn : 0 < ks.length
  · obtain ⟨g, cap, rfl, _, hc⟩ := own_cells h hn
    refine .inr ⟨g, 0, cap, rfl, fun n hn3 => ?_⟩
    rw [Nat.zero_add, hc n (by omega), List.getElem?_map, List.getElem?_eq_getElem hn3]
    simp [List.getD_eq_getElem?_getD, List.getElem?_eq_getElem hn3]
  · have : ks = [] := List.length_eq_zero_iff.1 (by omega)
    subst this
    obtain ⟨A, c, rfl⟩ := h.shape
    exact .inl ⟨rfl, A, c, rfl⟩
theorem OutAt.cells {w : World} {B : Nat} {v : Value} {l : List (Th × Value)} (h : OutAt w B v l) (hn : 0 < l.length) : ∃ g cap, v = .slice (some ⟨g, 0, none⟩) l.length cap ∧ l.length ≤ cap ∧ ∀ i p, l[i]? = some p → ∀ j, j < 4 → w.cell? ⟨g, i * 4 + j, none⟩ = (thCells p.1 p.2)[j]? := by
  obtain ⟨g, cap, rfl, hc, h2⟩ := own_cells h.row hn
  refine ⟨g, cap, rfl, hc, fun i p hp j hj => ?_⟩
  have hi : i < l.length := (List.getElem?_eq_some_iff.1 hp).1
  rw [h2 _ (by omega), flatT_get l i j p hp hj]
theorem out_drew {w : World} {B : Nat} {v : Value} {l : List (Th × Value)} (h : OutAt w B v l) : OutAt w.drew B v l := ⟨h.row.drew, fun p hp => World.ownsRow.drew (h.kids p hp), h.apart⟩
theorem w1d {w w' : World} {row : Option Nat} (h : w.drew.grownBy w' row) : w.grownBy w' row := ⟨h.os, h.tape, h.output, h.size, h.block⟩
theorem below_row {B : Nat} {w w1 w2 : World} {row : Option Nat} (h : Below B w w1) (hB : B ≤ w1.heap.size) (hg : w1.grownBy w2 row) (hr : ∀ k, row = some k → B ≤ k) : Below B w w2 :=
  ⟨hg.os.trans h.os, hg.tape.trans h.tape, hg.output.trans h.output, Nat.le_trans h.size hg.size, fun k hk => (hg.block k (by omega) (fun e => by have := hr k e.symm; omega)).trans (h.block k hk)⟩

theorem bdrew {B : Nat} {w w1 : World} (h : Below B w w1) : Below B w w1.drew := ⟨h.os, h.tape, h.output, h.size, h.block⟩
end Go.Proofs.YtghigiapfmlkbaaGreatDoor
