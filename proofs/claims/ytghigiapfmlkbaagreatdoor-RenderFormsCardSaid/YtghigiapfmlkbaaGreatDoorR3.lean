/- Ints of the call's own: cut, appended to, cloned, turned; bools in memory. -/
import Derived.Test.YtghigiapfmlkbaaGreatDoorR2
import Derived.Test.YtghigiapfmlkbaaGreatDoorShelf
import Derived.Lib.OwnBridge
import Derived.Laws.AppendOwnNone
import Derived.Maps.AppendAt
namespace Go.Proofs.YtghigiapfmlkbaaGreatDoor
open Go.RowKit

theorem own_take {w : World} {B n e size g cap k : Nat} {xs : List Value} (h : w.ownsRow B e size (.slice (some ⟨g, 0, none⟩) n cap) n xs) (hk : k ≤ n) : w.ownsRow B e size (.slice (some ⟨g, 0, none⟩) k cap) k (xs.take (k * size)) := by
  obtain ⟨hl, ⟨h1, _⟩ | ⟨g', cap', cur, h1, hg, hc, hn, hmx, hs, ht⟩⟩ := h
  · cases h1
  · cases h1
    have hkn : k * size ≤ n * size := Nat.mul_le_mul_right _ hk
    refine ⟨by rw [List.length_take, hl]; omega, .inr ⟨g, cap, cur, rfl, hg, hc, by omega, hmx, hs, ?_⟩⟩
    rw [← ht, List.take_take, Nat.min_eq_left hkn]
theorem KRow.cut {w : World} {B : Nat} {A : Option Addr} {c : Nat} {ks : List Nat} (h : KRow w B (.slice A ks.length c) ks) (k : Nat) (hk : k ≤ ks.length) : KRow w B (.slice A k c) (ks.take k) := by
  unfold KRow
  rw [List.length_take, Nat.min_eq_left hk]
  cases A with
  | none =>
    obtain ⟨hl, ⟨h1, h2⟩ | ⟨g', cap', cur, h1, _⟩⟩ := h
    · simp only [Value.slice.injEq, true_and] at h1
      obtain ⟨h3, rfl⟩ := h1
      have h4 : k = 0 := by omega
      subst h4
      exact World.ownsRow_nil _ _ _ _
    · cases h1
  | some a =>
    have h0 := h
    obtain ⟨hl, ⟨h1, h2⟩ | ⟨g', cap', cur, h1, _⟩⟩ := h
    · cases h1
    · cases h1
      have := own_take h0 hk
      rwa [Nat.mul_one, ← List.map_take] at this
theorem add_at (g o j : Nat) : (⟨g, o, none⟩ : Addr).add j = ⟨g, o + j, none⟩ := by
  simp only [Addr.add]
  split <;> simp_all
/-- 'append(own, more...)' of ints. -/
theorem KRow.append {w : World} {B : Nat} {u v : Value} {xs ks : List Nat} (h : KRow w B u xs) (hv : KRow w B v ks) (hl : xs.length + ks.length ≤ 100000000) (hB : B ≤ w.heap.size) :
    ∃ v' w', (Builtin.append_ #[23, 23] 23 #[u, v]).run Tryz.prog w = .ok v' w' ∧ KRow w' B v' (xs ++ ks) ∧ w.grownBy w' u.ownBlock ∧ (v'.ownBlock = u.ownBlock ∨ v'.ownBlock = some w.heap.size) := by
  obtain ⟨i0, hi, hz0, hz1, hz2⟩ := info_parts info_int
  by_cases hn : 0 < ks.length
  · obtain ⟨g, cap, rfl, _, hc⟩ := own_cells hv hn
    obtain ⟨v', w', h1, h2, h3, _, h5⟩ := run_append_own_at (P := Tryz.prog) w B 23 23 3 i0 _ 1 8 Tryz.underlying23 hi hz0 hz1 hz2 rfl (by omega) u xs.length _ h ⟨g, 0, none⟩ ks.length cap (ks.map fun k : Nat => Value.int .i64 (k : Int)) (by simp)
      (fun j x hx => by
        have hj : j < ks.length := by
          have := (List.getElem?_eq_some_iff.1 hx).1
          simpa using this
        rw [add_at, Nat.zero_add, hc j (by omega)]
        exact hx)
      (fun x hx => by
        obtain ⟨k, _, rfl⟩ := List.mem_map.1 hx
        simp [Value.oneCell']) (by unfold maxLen; omega) (by omega) hB
    refine ⟨v', w', h1, ?_, h3, h5⟩
    unfold KRow
    rw [List.length_append, List.map_append]
    exact h2
  · have h0 : ks = [] := List.length_eq_zero_iff.1 (by omega)
    subst h0
    obtain ⟨hl0, ⟨rfl, _⟩ | ⟨g, cap, cur, rfl, hg, hc, hn2, hmx, hs, ht⟩⟩ := hv
    · have hrun := run_append_owned_none (P := Tryz.prog) (w := w) B 23 23 3 i0 1 Tryz.underlying23 hi u xs.length _ h
      refine ⟨u, w, hrun, by rw [List.append_nil]; exact h, ?_⟩
      exact ⟨⟨rfl, rfl, rfl, Nat.le_refl _, fun i _ _ => rfl⟩, .inl rfl⟩
    · obtain ⟨v', w', h1, h2, h3, _, h5⟩ := run_append_own_at (P := Tryz.prog) w B 23 23 3 i0 _ 1 8 Tryz.underlying23 hi hz0 hz1 hz2 rfl (by omega) u xs.length _ h ⟨g, 0, none⟩ 0 cap [] (by simp)
        (fun j x hx => by simp at hx) (fun x hx => by cases hx) (by unfold maxLen; omega) (by omega) hB
      exact ⟨v', w', h1, by rw [List.append_nil] at h2 ⊢; exact h2, h3, h5⟩
/-- An append whose run is known. -/
theorem wpList_append_run {P : Program} {ops : Array Oper} {rest : List Oper} {o : Oper} {a : Act} {w : World} {Q : Exit → Act → World → Prop} (hgd : o.guard = none) (s x : Operand) (t : TypeId)
    (ho : o.op = .call { callee := .builtin .append, args := #[s, x], argTypes := #[t, t] }) (u v : Value) (hs : a.eval s = u) (hx : a.eval x = v) (v' : Value) (w' : World)
    (hr : (Builtin.append_ #[t, t] o.type #[u, v]).run P w = .ok v' w') (h : wpList P ops Q rest (a.put o.dst v') w') : wpList P ops Q (o :: rest) a w :=
  wpList_plain hgd fun _ hK => by
    unfold Oper.wp execOp
    simp only [ho, resolve, invoke, builtin, Sem.run_bind, Sem.run_pure, Result.andThen_ok, List.map_toArray, List.map_cons, List.map_nil, hs, hx, hr]
    exact hK _ _ h
/-- One int of a fresh block. -/
theorem KRow.lit (w : World) (B k : Nat) (hB : B ≤ w.heap.size) : KRow (w.alloc (.cells #[.int .i64 (k : Nat)] 3)) B (.slice (some ⟨w.heap.size, 0, none⟩) 1 1) [k] := by
  have := World.ownsRow_lit (base := B) (e := 3) (size := 1) w #[.int .i64 (k : Nat)] 1 hB (by unfold maxLen; omega) (by simp)
  unfold KRow
  simpa using this
/-- slices.Clone of ints. -/
theorem clone_any (v : Value) (ks : List Nat) (w : World) (h : IntsR w v ks) (hl : ks.length ≤ 1000000) :
    Calls Tryz.prog 87 #[v] w fun e w' => ∃ u, e = .returned u ∧ KRow w' w.heap.size u ks ∧ Below w.heap.size w w' := by
  by_cases hn : 0 < ks.length
  · rcases h with ⟨rfl, _⟩ | ⟨g, o, c, rfl, hc⟩
    · simp at hn
    · have := Tryz.slices_Clone_int g o ks.length c (ks.map fun k : Nat => (k : Int)) w (by simp) (by omega) (fun j hj => by
        rw [List.length_map] at hj
        rw [hc j hj]
        simp [List.getD_eq_getElem?_getD, List.getElem?_eq_getElem hj])
      refine this.mono ?_
      rintro e w' ⟨u, rfl, h1, _, h2⟩
      refine ⟨u, rfl, ?_, h2⟩
      rw [List.take_of_length_le (by simp), List.map_map] at h1
      exact h1
  · have h0 : ks = [] := List.length_eq_zero_iff.1 (by omega)
    subst h0
    obtain ⟨A, c, rfl⟩ := h.shape
    cases A with
    | none =>
      refine (Tryz.slices_Clone_int_nil 0 c w).mono ?_
      rintro e w' ⟨rfl, rfl⟩
      exact ⟨_, rfl, World.ownsRow_nil _ _ _ _, Below.refl _ _⟩
    | some a =>
      refine (Tryz.slices_Clone_int_zero a c w).mono ?_
      rintro e w' ⟨u, rfl, h1, _, h2⟩
      exact ⟨u, rfl, h1, h2⟩
/-- slices.Reverse of ints of the call's own. -/
theorem reverse_any (v : Value) (B : Nat) (ks : List Nat) (w : World) (h : KRow w B v ks) (hl : ks.length ≤ 1000000) :
    Calls Tryz.prog 132 #[v] w fun e w' => e = .returned (.tuple #[]) ∧ KRow w' B v ks.reverse ∧ w.grownBy w' v.ownBlock := by
  by_cases hv : v = .slice none 0 0
  · subst hv
    have h0 : ks.length = 0 := by
      obtain ⟨_, ⟨_, h2⟩ | ⟨g', cap', cur, h1, _⟩⟩ := h
      · exact h2
      · cases h1
    have : ks = [] := List.length_eq_zero_iff.1 h0
    subst this
    refine (Tryz.slices_Reverse_int_empty none 0 w).mono ?_
    rintro e w' ⟨rfl, rfl⟩
    exact ⟨rfl, h, ⟨rfl, rfl, rfl, Nat.le_refl _, fun i _ _ => rfl⟩⟩
  · have h' : w.ownsRow B 3 1 v ks.length ((ks.map fun k : Nat => (k : Int)).map (Value.int .i64)) := by
      rw [List.map_map]
      exact h
    obtain ⟨g, cap, rfl, hbg, hgs, _, hcm, hlen, hH⟩ := Lib.holds_of_ownsRow h' hv
    have hrev := Tryz.slices_Reverse_int g 0 cap (ks.map fun k : Nat => (k : Int)) w hH (by simp; omega)
    rw [List.length_map] at hrev
    refine hrev.mono ?_
    rintro e w' ⟨rfl, q, rfl⟩
    have h1 := Lib.ownsRow_putRow (q := q) (ys := (ks.map fun k : Nat => (k : Int)).reverse) h' (by simp) (Nat.le_refl _)
    rw [List.take_of_length_le (by simp), ← List.map_reverse, List.map_map] at h1
    refine ⟨rfl, ?_, ?_⟩
    · unfold KRow
      rw [List.length_reverse, ← List.map_reverse] at *
      exact h1
    · have hb := Lib.below_putRow (q := q) (d := ((ks.map fun k : Nat => (k : Int)).reverse).toArray) (enc := Value.int .i64) (Below.refl (w := w) 0) (Nat.zero_le g)
      refine ⟨rfl, rfl, rfl, by simp [Sort.putRow, Sort.mapBlock, Sort.ahead], fun i hi hne => ?_⟩
      have : g ≠ i := fun e => hne (by simp [Value.ownBlock, e])
      simp [Sort.putRow, Sort.mapBlock, Sort.ahead, Array.getElem?_modify, this]
/-- Block N holds these bools. -/
def BolAt (w : World) (N : Nat) (l : List Bool) : Prop := w.heap[N]? = some (.cells (l.map Value.bool).toArray 4 (0, 0))
theorem BolAt.cell {w : World} {N : Nat} {l : List Bool} (h : BolAt w N l) (i : Nat) (hi : i < l.length) : w.cell? ⟨N, i, none⟩ = some (.bool (l.getD i false)) := by
  rw [cell_of_row _ _ _ _ _ (0, 0) h]
  simp [List.getD_eq_getElem?_getD, List.getElem?_eq_getElem hi]
theorem BolAt.free {w : World} {N : Nat} {l : List Bool} (h : BolAt w N l) (i : Nat) : w.frozen? ⟨N, i, none⟩ = false := by
  unfold BolAt at h
  simp [World.frozen?, h]
theorem BolAt.lt {w : World} {N : Nat} {l : List Bool} (h : BolAt w N l) : N < w.heap.size := lt_of_block h
theorem BolAt.kept {w w' : World} {N : Nat} {l : List Bool} {row : Option Nat} (h : BolAt w N l) (hg : w.grownBy w' row) (hne : some N ≠ row) : BolAt w' N l := (hg.block N h.lt hne).trans h
theorem BolAt.alloc {w : World} {N : Nat} {l : List Bool} (h : BolAt w N l) (o : Obj) : BolAt (w.alloc o) N l := h.kept (World.grownBy_alloc w o none) (by simp)
theorem BolAt.below {w w' : World} {N : Nat} {l : List Bool} (h : BolAt w N l) (hb : Below w.heap.size w w') : BolAt w' N l := (hb.block N h.lt).trans h
theorem BolAt.other {w : World} {N : Nat} {l : List Bool} (h : BolAt w N l) {a : Addr} (ha : N ≠ a.block) (u : Value) : BolAt (w.setCell a u) N l := by
  unfold BolAt
  rw [heap_setCell_other _ _ _ _ ha]
  exact h
theorem BolAt.set {w : World} {N : Nat} {l : List Bool} (h : BolAt w N l) (i : Nat) (v : Bool) : BolAt (w.setCell ⟨N, i, none⟩ (.bool v)) N (l.set i v) := by
  unfold BolAt
  rw [heap_setCell_same _ _ _ _ _ _ h]
  simp [List.map_set]
theorem BolAt.made (w : World) (n : Nat) : BolAt (w.alloc (.cells (madeCells #[.bool false] n) 4)) w.heap.size (List.replicate n false) := by
  unfold BolAt
  rw [heap_alloc_new]
  congr 2
  apply Array.ext
  · simp [madeCells]
  · intro i h1 h2
    simp [madeCells, Nat.mod_one]
theorem KRow.neBol {w : World} {B N : Nat} {v : Value} {ks : List Nat} {l : List Bool} (h : KRow w B v ks) (hb : BolAt w N l) : v.ownBlock ≠ some N := by
  obtain ⟨_, ⟨rfl, _⟩ | ⟨k, cap, cur, rfl, _, hc, _⟩⟩ := h
  · intro e; cases e
  · intro e
    simp only [Value.ownBlock, Option.some.injEq] at e
    subst e
    unfold BolAt at hb
    rw [hc] at hb
    simp at hb
theorem KRow.below {w w1 : World} {B : Nat} {v : Value} {ks : List Nat} (h : KRow w B v ks) (hb : Below w.heap.size w w1) : KRow w1 B v ks := own_below h hb
theorem KRow.less {w : World} {B B2 : Nat} {v : Value} {ks : List Nat} (h : KRow w B v ks) (hB : B2 ≤ B) : KRow w B2 v ks := by
  obtain ⟨h1, h2 | ⟨g, cap, cur, h2, h3, h4⟩⟩ := h
  · exact ⟨h1, .inl h2⟩
  · exact ⟨h1, .inr ⟨g, cap, cur, h2, Nat.le_trans hB h3, h4⟩⟩
theorem row_less {w : World} {B B2 n e size : Nat} {v : Value} {xs : List Value} (h : w.ownsRow B e size v n xs) (hB : B2 ≤ B) : w.ownsRow B2 e size v n xs := by
  obtain ⟨h1, h2 | ⟨g, cap, cur, h2, h3, h4⟩⟩ := h
  · exact ⟨h1, .inl h2⟩
  · exact ⟨h1, .inr ⟨g, cap, cur, h2, Nat.le_trans hB h3, h4⟩⟩
theorem OutAt.less {w : World} {B B2 : Nat} {v : Value} {l : List (Th × Value)} (h : OutAt w B v l) (hB : B2 ≤ B) : OutAt w B2 v l := ⟨row_less h.row hB, fun p hp => row_less (h.kids p hp) hB, h.apart⟩
theorem KRow.at {w : World} {B : Nat} {v : Value} {ks : List Nat} (h : KRow w B v ks) : ∀ k, v.ownBlock = some k → B ≤ k ∧ k < w.heap.size := World.ownsRow.lt h
theorem KRow.other {w : World} {B : Nat} {v : Value} {ks : List Nat} (h : KRow w B v ks) {a : Addr} (ha : v.ownBlock ≠ some a.block) (u : Value) : KRow (w.setCell a u) B v ks := ownsRow_setCell_other h ha u
theorem KRow.grown {w w' : World} {B : Nat} {v : Value} {ks : List Nat} {row : Option Nat} (h : KRow w B v ks) (hg : w.grownBy w' row) (hne : ∀ k, v.ownBlock = some k → row ≠ some k) : KRow w' B v ks :=
  World.ownsRow.kept h hg (by
    cases hv : v.ownBlock with
    | none => exact .inl rfl
    | some k => exact .inr (fun e => hne k hv e.symm))
end Go.Proofs.YtghigiapfmlkbaaGreatDoor
