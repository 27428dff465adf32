/- The reader's nodes as cells; stores, appends, kids: the worlds. -/
import Derived.Test.YtmindclciogneaaDoorI8
import Derived.Deep.QuietTactic
import Derived.OneCell
/- The reader's nodes as cells: plain laws of the flat list. -/
namespace Go.Proofs.YtmindclciogneaaDoor
open Go.RowKit

/-- The ten cells of a node; v is the slice of its kids. -/
def ndCells (y : Nd) (v : Value) : List Value :=
  [.int .i64 y.kind, .int .i64 y.style, .string ⟨y.tag.toArray⟩, .string ⟨y.anchor.toArray⟩, .string ⟨y.value.toArray⟩, .int .i64 y.start, .int .i64 y.stop, .int .i64 y.head, .int .i64 y.mark, v]
theorem ndCells_len (y : Nd) (v : Value) : (ndCells y v).length = 10 := rfl
/-- The cells of some nodes, one behind the other. -/
def flat : List (Nd × Value) → List Value
  | [] => []
  | p :: t => ndCells p.1 p.2 ++ flat t
theorem flat_len : ∀ l : List (Nd × Value), (flat l).length = l.length * 10
  | [] => rfl
  | p :: t => by rw [flat, List.length_append, ndCells_len, flat_len t, List.length_cons]; omega
theorem flat_app : ∀ l m : List (Nd × Value), flat (l ++ m) = flat l ++ flat m
  | [], _ => rfl
  | p :: t, m => by rw [List.cons_append, flat, flat, flat_app t m, List.append_assoc]
theorem flat_snoc (l : List (Nd × Value)) (p : Nd × Value) : flat (l ++ [p]) = flat l ++ ndCells p.1 p.2 := by rw [flat_app]; simp [flat]
/-- The cell of field j of node i. -/
theorem flat_get : ∀ (l : List (Nd × Value)) (i j : Nat) (p : Nd × Value), l[i]? = some p → j < 10 → (flat l)[i * 10 + j]? = (ndCells p.1 p.2)[j]?
  | [], _, _, _, h, _ => by simp at h
  | q :: t, 0, j, p, h, hj => by
    simp only [List.getElem?_cons_zero, Option.some.injEq] at h
    subst h
    rw [flat, List.getElem?_append_left (by rw [ndCells_len]; omega), Nat.zero_mul, Nat.zero_add]
  | q :: t, i + 1, j, p, h, hj => by
    rw [flat, List.getElem?_append_right (by rw [ndCells_len]; omega), ndCells_len, show (i + 1) * 10 + j - 10 = i * 10 + j by omega]
    exact flat_get t i j p (by simpa using h) hj
/-- A field is set: the node is another. -/
theorem flat_set : ∀ (l : List (Nd × Value)) (i j : Nat) (p q : Nd × Value) (u : Value), l[i]? = some p → j < 10 → (ndCells p.1 p.2).set j u = ndCells q.1 q.2 → (flat l).set (i * 10 + j) u = flat (l.set i q)
  | [], _, _, _, _, _, h, _, _ => by simp at h
  | r :: t, 0, j, p, q, u, h, hj, he => by
    simp only [List.getElem?_cons_zero, Option.some.injEq] at h
    subst h
    rw [flat, List.set_append_left _ _ (by rw [ndCells_len]; omega), Nat.zero_mul, Nat.zero_add, he, List.set_cons_zero, flat]
  | r :: t, i + 1, j, p, q, u, h, hj, he => by
    rw [flat, List.set_append_right _ _ (by rw [ndCells_len]; omega), ndCells_len, show (i + 1) * 10 + j - 10 = i * 10 + j by omega, flat_set t i j p q u (by simpa using h) hj he, List.set_cons_succ, flat]
/-- The nodes own their kids' rows, each another. -/
structure Own (w : World) (B : Nat) (l : List (Nd × Value)) : Prop where
  row : ∀ p ∈ l, w.ownsRow B 3 1 p.2 p.1.kids.length (p.1.kids.map fun k : Nat => Value.int .i64 (k : Int))
  apart : l.Pairwise fun p q => ∀ k, p.2.ownBlock = some k → q.2.ownBlock ≠ some k
/-- The reader at block R: its bytes, its nodes. -/
structure RD (w0 w : World) (B R : Nat) (A : Option Addr) (c : Nat) (b : Bs) (l : List (Nd × Value)) : Prop where
  base : B ≤ R
  state : ∃ v, w.heap[R]? = some (.cells #[.slice A b.length c, v] 115 (0, 0)) ∧ w.ownsRow B 42 10 v l.length (flat l)
  own : Own w B l
  bytes : w0.heap.size = B ∧ BA w0 A b ∧ Below B w0 w
  cap : b.length ≤ c
  big : b.length ≤ 1000000 ∧ c ≤ 9223372036854775807
theorem RD.rb {w0 w : World} {B R : Nat} {A : Option Addr} {c : Nat} {b : Bs} {l : List (Nd × Value)} (h : RD w0 w B R A c b l) : RB w R A c b := by
  obtain ⟨v, h1, h2⟩ := h.state
  obtain ⟨rfl, hb, hbel⟩ := h.bytes
  exact ⟨by rw [cell_of_row _ _ _ _ _ (0, 0) h1]; rfl, hb.below hbel, h.cap, h.big⟩
end Go.Proofs.YtmindclciogneaaDoor

/- What the reader's none does. -/
namespace Go.Proofs.YtmindclciogneaaDoor
open Go.RowKit

/-- A node's cells, read. -/
theorem RD.at {w0 w : World} {B R : Nat} {A : Option Addr} {c : Nat} {b : Bs} {l : List (Nd × Value)} (h : RD w0 w B R A c b l) (i : Nat) (p : Nd × Value) (hp : l[i]? = some p) :
    ∃ g cap, w.cell? ⟨R, 1, none⟩ = some (.slice (some ⟨g, 0, none⟩) l.length cap) ∧ i < l.length ∧ l.length ≤ cap ∧ ∀ j, j < 10 → w.cell? ⟨g, i * 10 + j, none⟩ = (ndCells p.1 p.2)[j]? := by
  obtain ⟨v, h1, h2⟩ := h.state
  have hi : i < l.length := (List.getElem?_eq_some_iff.1 hp).1
  obtain ⟨hl, ⟨rfl, h0⟩ | ⟨g, cap, cur, rfl, hg, hc, hn, hm, hs, ht⟩⟩ := h2
  · omega
  · refine ⟨g, cap, by rw [cell_of_row _ _ _ _ _ (0, 0) h1]; rfl, hi, hn, fun j hj => ?_⟩
    rw [cell_of_row _ _ _ _ _ (0, 0) hc, ← flat_get l i j p hp hj, ← ht, List.getElem?_take, if_pos (by omega)]
    simp
set_option maxRecDepth 20000 in
theorem none_any {w0 w : World} {B R : Nat} {A : Option Addr} {c : Nat} {b : Bs} {l : List (Nd × Value)} (h : RD w0 w B R A c b l) (i : Nat) (p : Nd × Value) (hp : l[i]? = some p) (_hl : l.length ≤ 1000000) :
    Calls Tryd.prog 167 #[.pointer (some ⟨R, 0, none⟩), .int .i64 i] w fun e w' => e = .returned (.bool (noneB p.1)) ∧ Below w.heap.size w w' := by
  obtain ⟨g, cap, hc1, hi, hcap, hcell⟩ := h.at i p hp
  have h0 : w.cell? ⟨g, i * 10, none⟩ = some (.int .i64 p.1.kind) := hcell 0 (by omega)
  have h5 : w.cell? ⟨g, i * 10 + 5, none⟩ = some (.int .i64 p.1.start) := hcell 5 (by omega)
  have h6 : w.cell? ⟨g, i * 10 + 6, none⟩ = some (.int .i64 p.1.stop) := hcell 6 (by omega)
  have hil : (i : Int) < l.length := by omega
  clear hcell
  obtain ⟨V, hV⟩ : ∃ V, noneB p.1 = V := ⟨_, rfl⟩
  rw [hV]
  unfold noneB at hV
  generalize p.1.kind = a at *
  generalize p.1.start = s at *
  generalize p.1.stop = t at *
  have HV := Lib.hid hV
  clear hV h hp
  go_enter Tryd.func167, Tryd.ntmps167
  cases hq : (a == 0)
  · have hqa : ((a : Int) == 0) = false := by
      simp only [beq_eq_false_iff_ne, ne_eq] at hq ⊢
      omega
    have HF : Hid (V = false) := Lib.hid (by rw [← HV.out, hq]; rfl)
    clear HV hq
    go_wp2
    go_quiet (fail)
    go_wp2
    go_ret
    exact ⟨by rw [HF.out]; rfl, ⟨rfl, rfl, rfl, Nat.le_refl _, fun _ _ => rfl⟩⟩
  · obtain rfl : a = 0 := by simpa using hq
    have HF : Hid (V = (s == t)) := Lib.hid (by rw [← HV.out]; rfl)
    have hst : ((s : Int) == t) = (s == t) := by
      rw [Bool.eq_iff_iff]
      simp only [beq_iff_eq]
      omega
    clear HV hq
    go_wp2
    go_quiet (fail)
    go_wp2
    go_ret
    exact ⟨by rw [HF.out, ← hst]; rfl, ⟨rfl, rfl, rfl, Nat.le_refl _, fun _ _ => rfl⟩⟩
end Go.Proofs.YtmindclciogneaaDoor

/- A store into a node's field. -/
namespace Go.Proofs.YtmindclciogneaaDoor
open Go.RowKit

/-- The reader with a node or more: its row at block g. -/
structure RG (w0 w : World) (B R : Nat) (A : Option Addr) (c : Nat) (b : Bs) (l : List (Nd × Value)) (g cap : Nat) : Prop where
  base : B ≤ R
  at_ : w.heap[R]? = some (.cells #[.slice A b.length c, .slice (some ⟨g, 0, none⟩) l.length cap] 115 (0, 0))
  row : B ≤ g ∧ l.length ≤ cap ∧ cap ≤ maxLen ∧ ∃ cur, w.heap[g]? = some (.cells cur 42 (0, 0)) ∧ cur.size = cap * 10 ∧ cur.toList.take (l.length * 10) = flat l
  own : Own w B l
  bytes : w0.heap.size = B ∧ BA w0 A b ∧ Below B w0 w
  cap_ : b.length ≤ c
  big : b.length ≤ 1000000 ∧ c ≤ 9223372036854775807
theorem RG.rd {w0 w : World} {B R : Nat} {A : Option Addr} {c : Nat} {b : Bs} {l : List (Nd × Value)} {g cap : Nat} (h : RG w0 w B R A c b l g cap) : RD w0 w B R A c b l := by
  obtain ⟨h1, h2, ⟨h3, h4, h5, cur, h6, h7, h8⟩, h9, h10, h11, h12⟩ := h
  exact ⟨h1, ⟨_, h2, by rw [flat_len], .inr ⟨g, cap, cur, rfl, h3, h6, h4, h5, h7, h8⟩⟩, h9, h10, h11, h12⟩
theorem RD.rg {w0 w : World} {B R : Nat} {A : Option Addr} {c : Nat} {b : Bs} {l : List (Nd × Value)} (h : RD w0 w B R A c b l) (hl : 0 < l.length) : ∃ g cap, RG w0 w B R A c b l g cap := by
  obtain ⟨h1, ⟨v, h2, h3⟩, h9, h10, h11, h12⟩ := h
  obtain ⟨hl2, ⟨rfl, h0⟩ | ⟨g, cap, cur, rfl, hg, hc, hn, hm, hs, ht⟩⟩ := h3
  · omega
  · exact ⟨g, cap, h1, h2, ⟨hg, hn, hm, cur, hc, hs, ht⟩, h9, h10, h11, h12⟩
/-- A row of whole numbers lies in another block than a row of nodes. -/
theorem own_ne {w : World} {B n g : Nat} {v : Value} {xs : List Value} {cs : Array Value} (h : w.ownsRow B 3 1 v n xs) (hg : w.heap[g]? = some (.cells cs 42 (0, 0))) : v.ownBlock ≠ some g := by
  obtain ⟨_, ⟨rfl, _⟩ | ⟨k, cap, cur, rfl, _, hc, _⟩⟩ := h
  · intro e; cases e
  · intro e
    simp only [Value.ownBlock, Option.some.injEq] at e
    subst e
    rw [hc] at hg
    simp at hg
theorem Own.set {w : World} {B : Nat} {l : List (Nd × Value)} (h : Own w B l) (i : Nat) (p q : Nd × Value) (hp : l[i]? = some p) (h2 : q.2 = p.2) (hk : q.1.kids = p.1.kids) : Own w B (l.set i q) := by
  constructor
  · intro r hr
    rcases List.mem_or_eq_of_mem_set hr with hr | rfl
    · exact h.row r hr
    · rw [h2, hk]
      exact h.row p (List.mem_of_getElem? hp)
  · have hmap : (l.set i q).map (·.2) = l.map (·.2) := by
      rw [List.map_set, h2]
      apply List.ext_getElem?
      intro k
      rw [List.getElem?_set]
      split
      · rename_i hk'
        subst hk'
        split
        · rw [List.getElem?_map, hp]; rfl
        · rename_i hlt
          rw [List.getElem?_eq_none (by omega)]
      · rfl
    have key : ∀ m : List (Nd × Value), (m.Pairwise fun p q => ∀ k, p.2.ownBlock = some k → q.2.ownBlock ≠ some k) ↔ ((m.map (·.2)).Pairwise fun p q => ∀ k, p.ownBlock = some k → q.ownBlock ≠ some k) := fun m => by rw [List.pairwise_map]
    rw [key, hmap, ← key]
    exact h.apart
theorem RG.store {w0 w : World} {B R : Nat} {A : Option Addr} {c : Nat} {b : Bs} {l : List (Nd × Value)} {g cap : Nat} (h : RG w0 w B R A c b l g cap) (i j : Nat) (p q : Nd × Value) (u : Value) (hp : l[i]? = some p) (hj : j < 10)
    (he : (ndCells p.1 p.2).set j u = ndCells q.1 q.2) (h2 : q.2 = p.2) (hk : q.1.kids = p.1.kids) : RG w0 (w.setCell ⟨g, i * 10 + j, none⟩ u) B R A c b (l.set i q) g cap := by
  obtain ⟨a1, a2, ⟨a3, a4, a5, cur, a6, a7, a8⟩, a9, ⟨b1, b2, b3⟩, a11, a12⟩ := h
  have hi : i < l.length := (List.getElem?_eq_some_iff.1 hp).1
  have hRg : R ≠ g := fun e => by
    subst e
    rw [a2] at a6
    simp at a6
  refine ⟨a1, ?_, ⟨a3, by rw [List.length_set]; exact a4, a5, _, heap_setCell_same w g (i * 10 + j) cur _ u a6, by simpa using a7, ?_⟩, ?_, ⟨b1, b2, b3.setCell a3 u⟩, a11, a12⟩
  · rw [heap_setCell_other _ _ _ _ hRg, List.length_set]
    exact a2
  · rw [List.length_set, Array.toList_setIfInBounds, List.take_set, a8, flat_set l i j p q u hp hj he]
  · have := a9.set i p q hp h2 hk
    exact ⟨fun r hr => ownsRow_setCell_other (this.row r hr) (own_ne (this.row r hr) a6) u, this.apart⟩
end Go.Proofs.YtmindclciogneaaDoor

/- The reader's row of nodes: what is read, what stays. -/
namespace Go.Proofs.YtmindclciogneaaDoor
open Go.RowKit

section
variable {w0 w w1 : World} {B R : Nat} {A : Option Addr} {c : Nat} {b : Bs} {l : List (Nd × Value)} {g cap : Nat}
theorem RG.lst (h : RG w0 w B R A c b l g cap) : w.cell? ⟨R, 1, none⟩ = some (.slice (some ⟨g, 0, none⟩) l.length cap) := by rw [cell_of_row _ _ _ _ _ (0, 0) h.at_]; rfl
theorem RG.cell (h : RG w0 w B R A c b l g cap) (i j : Nat) (p : Nd × Value) (hp : l[i]? = some p) (hj : j < 10) : w.cell? ⟨g, i * 10 + j, none⟩ = (ndCells p.1 p.2)[j]? := by
  have hi : i < l.length := (List.getElem?_eq_some_iff.1 hp).1
  obtain ⟨_, _, _, cur, h6, h7, h8⟩ := h.row
  rw [cell_of_row _ _ _ _ _ (0, 0) h6, ← flat_get l i j p hp hj, ← h8, List.getElem?_take, if_pos (by omega)]
  simp
theorem RG.free (h : RG w0 w B R A c b l g cap) (k : Nat) : w.frozen? ⟨g, k, none⟩ = false := by
  obtain ⟨_, _, _, cur, h6, _⟩ := h.row
  simp [World.frozen?, h6]
theorem RG.freeR (h : RG w0 w B R A c b l g cap) (k : Nat) : w.frozen? ⟨R, k, none⟩ = false := by
  have := h.at_
  simp [World.frozen?, this]
theorem own_below {xs : List Value} {n e size : Nat} {v : Value} (h : w.ownsRow B e size v n xs) (hb : Below w.heap.size w w1) : w1.ownsRow B e size v n xs := by
  obtain ⟨hl, ⟨rfl, h0⟩ | ⟨g, cap, cur, rfl, hg, hc, hn, hm, hs, ht⟩⟩ := h
  · exact ⟨hl, .inl ⟨rfl, h0⟩⟩
  · exact ⟨hl, .inr ⟨g, cap, cur, rfl, hg, (hb.block g (lt_of_block hc)).trans hc, hn, hm, hs, ht⟩⟩
theorem Own.below (h : Own w B l) (hb : Below w.heap.size w w1) : Own w1 B l := ⟨fun p hp => own_below (h.row p hp) hb, h.apart⟩
theorem RG.below (h : RG w0 w B R A c b l g cap) (hb : Below w.heap.size w w1) : RG w0 w1 B R A c b l g cap := by
  obtain ⟨a1, a2, ⟨a3, a4, a5, cur, a6, a7, a8⟩, a9, ⟨b1, b2, b3⟩, a11, a12⟩ := h
  have hB : B ≤ w.heap.size := by rw [← b1]; exact b3.size
  exact ⟨a1, (hb.block R (lt_of_block a2)).trans a2, ⟨a3, a4, a5, cur, (hb.block g (lt_of_block a6)).trans a6, a7, a8⟩, a9.below hb, ⟨b1, b2, b3.trans (hb.mono hB)⟩, a11, a12⟩
theorem RD.below (h : RD w0 w B R A c b l) (hb : Below w.heap.size w w1) : RD w0 w1 B R A c b l := by
  obtain ⟨a1, ⟨v, a2, a3⟩, a9, ⟨b1, b2, b3⟩, a11, a12⟩ := h
  have hB : B ≤ w.heap.size := by rw [← b1]; exact b3.size
  exact ⟨a1, ⟨v, (hb.block R (lt_of_block a2)).trans a2, own_below a3 hb⟩, a9.below hb, ⟨b1, b2, b3.trans (hb.mono hB)⟩, a11, a12⟩
theorem RG.drew (h : RG w0 w B R A c b l g cap) (n : Nat) : RG w0 (w.drewN n) B R A c b l g cap := h.below ⟨rfl, rfl, rfl, Nat.le_refl _, fun _ _ => rfl⟩
theorem RG.rb (h : RG w0 w B R A c b l g cap) : RB w R A c b := h.rd.rb
end
end Go.Proofs.YtmindclciogneaaDoor

/- A node is appended to the reader's list: the worlds. -/
namespace Go.Proofs.YtmindclciogneaaDoor
open Go.RowKit

/-- A row of nodes lies in another block than a reader. -/
theorem row_neR {w : World} {B n R : Nat} {v : Value} {xs : List Value} {cs : Array Value} (h : w.ownsRow B 42 10 v n xs) (hR : w.heap[R]? = some (.cells cs 115 (0, 0))) : v.ownBlock ≠ some R := by
  obtain ⟨_, ⟨rfl, _⟩ | ⟨k, cap, cur, rfl, _, hc, _⟩⟩ := h
  · intro e; cases e
  · intro e
    simp only [Value.ownBlock, Option.some.injEq] at e
    subst e
    rw [hc] at hR
    simp at hR
/-- A row of whole numbers lies in another block than a row of nodes. -/
theorem row_neK {w : World} {B n m : Nat} {v u : Value} {xs ys : List Value} (h : w.ownsRow B 3 1 v n xs) (hu : w.ownsRow B 42 10 u m ys) : v.ownBlock = none ∨ v.ownBlock ≠ u.ownBlock := by
  obtain ⟨_, ⟨rfl, _⟩ | ⟨k, cap, cur, rfl, _, hc, _⟩⟩ := hu
  · cases hv : v.ownBlock
    · exact .inl rfl
    · exact .inr (by intro e; cases e)
  · exact .inr (own_ne h hc)
theorem RD.push {w0 w w1 : World} {B R : Nat} {A : Option Addr} {c : Nat} {b : Bs} {l : List (Nd × Value)} {v : Value} (h : RD w0 w B R A c b l) (hv : w.heap[R]? = some (.cells #[.slice A b.length c, v] 115 (0, 0)))
    (hrow : w.ownsRow B 42 10 v l.length (flat l)) (y : Nd) (hy : y.kids = []) (g cap : Nat) (hg : w.grownBy w1 v.ownBlock)
    (hown : w1.ownsRow B 42 10 (.slice (some ⟨g, 0, none⟩) (l.length + 1) cap) (l.length + 1) (flat l ++ ndCells y (.slice none 0 0))) :
    RG w0 (w1.setCell ⟨R, 1, none⟩ (.slice (some ⟨g, 0, none⟩) (l.length + 1) cap)) B R A c b (l ++ [(y, .slice none 0 0)]) g cap := by
  obtain ⟨a1, _, a9, ⟨b1, b2, b3⟩, a11, a12⟩ := h
  have hB : B ≤ w.heap.size := by rw [← b1]; exact b3.size
  have hR1 : w1.heap[R]? = some (.cells #[.slice A b.length c, v] 115 (0, 0)) := (hg.block R (lt_of_block hv) (fun e => row_neR hrow hv e.symm)).trans hv
  have hlen : (l ++ [(y, Value.slice none 0 0)]).length = l.length + 1 := by simp
  obtain ⟨_, ⟨e, _⟩ | ⟨g', cap', cur, e, hBg, hc, hn, hm, hs, ht⟩⟩ := hown
  · cases e
  · simp only [Value.slice.injEq, Option.some.injEq, Addr.mk.injEq, and_true, true_and] at e
    obtain ⟨rfl, rfl⟩ := e
    have hgR : g ≠ R := fun e => by
      subst e
      rw [hR1] at hc
      simp at hc
    have hbel : Below B w0 w1 := b3.grown hg (by rw [← b1] at *; exact b3.size) (fun k hk => (World.ownsRow.lt hrow k hk).1)
    refine ⟨a1, ?_, ⟨hBg, by rw [hlen]; exact hn, hm, cur, ?_, hs, ?_⟩, ⟨?_, ?_⟩, ⟨b1, b2, hbel.setCell a1 _⟩, a11, a12⟩
    · rw [hlen]
      exact heap_setCell_same w1 R 1 _ _ _ hR1
    · rw [heap_setCell_other _ _ _ _ hgR]
      exact hc
    · rw [hlen, flat_snoc]
      exact ht
    · intro p hp
      rcases List.mem_append.1 hp with hp | hp
      · have h1 := a9.row p hp
        have h2 := World.ownsRow.kept h1 hg (row_neK h1 hrow)
        refine ownsRow_setCell_other h2 ?_ _
        obtain ⟨_, ⟨e, _⟩ | ⟨k, cap2, cur2, e, _, hc2, _⟩⟩ := h2
        · rw [e]; intro e'; cases e'
        · rw [e]
          intro e'
          simp only [Value.ownBlock, Option.some.injEq] at e'
          subst e'
          rw [hR1] at hc2
          simp at hc2
      · rw [List.mem_singleton] at hp
        subst hp
        simp only [hy]
        exact World.ownsRow_nil _ _ _ _
    · rw [List.pairwise_append]
      refine ⟨a9.apart, List.pairwise_singleton _ _, fun p _ q hq => ?_⟩
      rw [List.mem_singleton] at hq
      subst hq
      intro k _ e
      cases e
end Go.Proofs.YtmindclciogneaaDoor

/- A node's kids grow: the worlds. -/
namespace Go.Proofs.YtmindclciogneaaDoor
open Go.RowKit

theorem Own.grow {w w1 : World} {B : Nat} {l : List (Nd × Value)} (h : Own w B l) (i : Nat) (p q : Nd × Value) (hp : l[i]? = some p) (hg : w.grownBy w1 p.2.ownBlock)
    (hown : w1.ownsRow B 3 1 q.2 q.1.kids.length (q.1.kids.map fun k : Nat => Value.int .i64 (k : Int))) (hb : ∀ k, q.2.ownBlock = some k → p.2.ownBlock = some k ∨ w.heap.size ≤ k) : Own w1 B (l.set i q) := by
  obtain ⟨hi, hpi⟩ := List.getElem?_eq_some_iff.1 hp
  have hap := List.pairwise_iff_getElem.1 h.apart
  have hlt : ∀ (a : Nat) (ha : a < l.length) k, l[a].2.ownBlock = some k → k < w.heap.size := fun a ha k hk => (World.ownsRow.lt (h.row _ (List.getElem_mem ha)) k hk).2
  constructor
  · intro r hr
    obtain ⟨a, ha, rfl⟩ := List.mem_iff_getElem.1 hr
    rw [List.length_set] at ha
    rw [List.getElem_set]
    split
    · exact hown
    · rename_i hne
      refine World.ownsRow.kept (h.row _ (List.getElem_mem ha)) hg ?_
      cases hk : l[a].2.ownBlock with
      | none => exact .inl rfl
      | some k =>
        refine .inr fun e => ?_
        rcases Nat.lt_or_gt_of_ne hne with h1 | h1
        · exact hap i a hi ha h1 k (by rw [hpi]; exact e.symm) hk
        · exact hap a i ha hi h1 k hk (by rw [hpi]; exact e.symm)
  · rw [List.pairwise_iff_getElem]
    intro a b ha hb2 hab k
    rw [List.length_set] at ha hb2
    rw [List.getElem_set, List.getElem_set]
    split
    · rename_i h1
      subst h1
      rw [if_neg (by omega)]
      intro hk e
      rcases hb k hk with h2 | h2
      · exact hap i b hi hb2 hab k (by rw [hpi]; exact h2) e
      · have := hlt b hb2 k e
        omega
    · split
      · rename_i h1 h2
        subst h2
        intro hk e
        rcases hb k e with h3 | h3
        · exact hap a i ha hi hab k hk (by rw [hpi]; exact h3)
        · have := hlt a ha k hk
          omega
      · exact hap a b ha hb2 hab k
theorem RG.kid {w0 w w1 : World} {B R : Nat} {A : Option Addr} {c : Nat} {b : Bs} {l : List (Nd × Value)} {g cap : Nat} (h : RG w0 w B R A c b l g cap) (i : Nat) (p q : Nd × Value) (hp : l[i]? = some p) (hg : w.grownBy w1 p.2.ownBlock)
    (hown : w1.ownsRow B 3 1 q.2 q.1.kids.length (q.1.kids.map fun k : Nat => Value.int .i64 (k : Int))) (hb : ∀ k, q.2.ownBlock = some k → p.2.ownBlock = some k ∨ w.heap.size ≤ k)
    (he : (ndCells p.1 p.2).set 9 q.2 = ndCells q.1 q.2) : RG w0 (w1.setCell ⟨g, i * 10 + 9, none⟩ q.2) B R A c b (l.set i q) g cap := by
  obtain ⟨a1, a2, ⟨a3, a4, a5, cur, a6, a7, a8⟩, a9, ⟨b1, b2, b3⟩, a11, a12⟩ := h
  have hpm := a9.row p (List.mem_of_getElem? hp)
  have hgne : p.2.ownBlock ≠ some g := own_ne hpm a6
  have hRne : p.2.ownBlock ≠ some R := by
    obtain ⟨_, ⟨e, _⟩ | ⟨k, cap2, cur2, e, _, hc2, _⟩⟩ := hpm
    · rw [e]; intro e'; cases e'
    · rw [e]
      intro e'
      simp only [Value.ownBlock, Option.some.injEq] at e'
      subst e'
      rw [a2] at hc2
      simp at hc2
  have c6 : w1.heap[g]? = some (.cells cur 42 (0, 0)) := (hg.block g (lt_of_block a6) (fun e => hgne e.symm)).trans a6
  have c2 : w1.heap[R]? = some (.cells #[.slice A b.length c, .slice (some ⟨g, 0, none⟩) l.length cap] 115 (0, 0)) := (hg.block R (lt_of_block a2) (fun e => hRne e.symm)).trans a2
  have hRg : R ≠ g := fun e => by
    subst e
    rw [a2] at a6
    simp at a6
  have hB : B ≤ w.heap.size := by rw [← b1]; exact b3.size
  have hbel : Below B w0 w1 := b3.grown hg hB (fun k hk => (World.ownsRow.lt hpm k hk).1)
  have hO := a9.grow i p q hp hg hown hb
  refine ⟨a1, ?_, ⟨a3, by rw [List.length_set]; exact a4, a5, _, heap_setCell_same w1 g (i * 10 + 9) cur _ q.2 c6, by simpa using a7, ?_⟩, ⟨fun r hr => ownsRow_setCell_other (hO.row r hr) (own_ne (hO.row r hr) c6) _, hO.apart⟩, ⟨b1, b2, hbel.setCell a3 _⟩, a11, a12⟩
  · rw [heap_setCell_other _ _ _ _ hRg, List.length_set]
    exact c2
  · rw [List.length_set, Array.toList_setIfInBounds, List.take_set, a8, flat_set l i 9 p q q.2 hp (by omega) he]
end Go.Proofs.YtmindclciogneaaDoor
