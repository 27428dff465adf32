/- Words of this work: a slice of bytes that the call itself has built. -/
import Derived.Test.YtghigiapfmlkbaaGreatDoorW
import Derived.Test.YtghigiapfmlkbaaGreatDoorProg
import Derived.OwnWalk
import Derived.Laws.OwnMore
import Derived.Lib.RuneBytes
import Derived.Below
namespace Go.Proofs.YtghigiapfmlkbaaGreatDoor
open Go.RowKit

/-- v is a slice of bytes of the call's own (nil, or a row from block B on) that reads as l. -/
def OB (w : World) (B : Nat) (v : Value) (l : Bs) : Prop := w.ownsRow B 5 1 v l.length (Lib.byteCells l)
theorem OB.nil (w : World) (B : Nat) : OB w B (.slice none 0 0) [] := World.ownsRow_nil _ _ _ _
theorem OB.shape {w : World} {B : Nat} {v : Value} {l : Bs} (h : OB w B v l) : ∃ A c, v = .slice A l.length c ∧ l.length ≤ c ∧ BA w A l := by
  obtain ⟨hl, ⟨rfl, h0⟩ | ⟨g, cap, cur, rfl, hg, hc, hn, hm, hs, ht⟩⟩ := h
  · exact ⟨none, 0, by rw [h0], by omega, fun hp => by omega⟩
  · refine ⟨_, cap, rfl, hn, fun _ => ⟨g, 0, rfl, fun i hi => ?_⟩⟩
    rw [cell_of_row _ _ _ _ 5 (0, 0) hc]
    have h2 : (Lib.byteCells l)[i]? = some (.int .u8 (l.getD i 0).toNat) := by
      simp [Lib.byteCells, List.getElem?_eq_getElem hi, List.getD_eq_getElem?_getD]
    rw [← ht, List.getElem?_take] at h2
    split at h2
    · simpa using h2
    · cases h2
theorem OB.own {w : World} {B : Nat} {v : Value} {l : Bs} (h : OB w B v l) : ∀ k, v.ownBlock = some k → B ≤ k := fun k hk => (World.ownsRow.lt h k hk).1
theorem lt_of_block {w : World} {g : Nat} {x : Obj} (h : w.heap[g]? = some x) : g < w.heap.size := (Array.getElem?_eq_some_iff.1 h).1
theorem byteCells_app (a b : Bs) : Lib.byteCells (a ++ b) = Lib.byteCells a ++ Lib.byteCells b := by simp [Lib.byteCells]
theorem one_new (w : World) (x : Value) (t : TypeId) (j : Nat) (u : Value) (h : [x][j]? = some u) : (w.alloc (.cells #[x] t)).cell? ((⟨w.heap.size, 0, none⟩ : Addr).add j) = some u := by
  cases j with
  | zero =>
    simp at h
    subst h
    have e : (⟨w.heap.size, 0, none⟩ : Addr).add 0 = ⟨w.heap.size, 0, none⟩ := by simp [Addr.add]
    rw [e, World.cell?_alloc_at _ _ _ _ rfl]
    rfl
  | succ j => simp at h
theorem below_new {w0 w : World} {B : Nat} (h : Below B w0 w) (hB : B ≤ w.heap.size) (o : Obj) : Below B w0 (w.alloc o) := h.alloc hB o
theorem info_u8 : (Tryz.prog.info? 5).map (fun i => (i.zero, i.size, i.bytes)) = some (some (.int .u8 0), 1, 1) := by kernel_rfl
theorem OB.below {w w1 : World} {B : Nat} {v : Value} {l : Bs} (h : OB w B v l) (hb : Below w.heap.size w w1) : OB w1 B v l := by
  obtain ⟨hl, ⟨rfl, h0⟩ | ⟨g, cap, cur, rfl, hg, hc, hn, hm, hs, ht⟩⟩ := h
  · exact ⟨hl, .inl ⟨rfl, h0⟩⟩
  · exact ⟨hl, .inr ⟨g, cap, cur, rfl, hg, (hb.block g (lt_of_block hc)).trans hc, hn, hm, hs, ht⟩⟩
theorem OB.more {w : World} {B : Nat} {v : Value} {l m : Bs} {n : Nat} {xs : List Value} (h : w.ownsRow B 5 1 v n xs) (hn : n = (l ++ m).length) (hx : xs = Lib.byteCells l ++ Lib.byteCells m) : OB w B v (l ++ m) := by
  unfold OB
  rw [byteCells_app, ← hn, ← hx]
  exact h
theorem own_below {w w1 : World} {B : Nat} {xs : List Value} {n e size : Nat} {v : Value} (h : w.ownsRow B e size v n xs) (hb : Below w.heap.size w w1) : w1.ownsRow B e size v n xs := by
  obtain ⟨hl, ⟨rfl, h0⟩ | ⟨g, cap, cur, rfl, hg, hc, hn, hm, hs, ht⟩⟩ := h
  · exact ⟨hl, .inl ⟨rfl, h0⟩⟩
  · exact ⟨hl, .inr ⟨g, cap, cur, rfl, hg, (hb.block g (lt_of_block hc)).trans hc, hn, hm, hs, ht⟩⟩
theorem info_int : (Tryz.prog.info? 3).map (fun i => (i.zero, i.size, i.bytes)) = some (some (.int .i64 0), 1, 8) := by kernel_rfl
end Go.Proofs.YtghigiapfmlkbaaGreatDoor
