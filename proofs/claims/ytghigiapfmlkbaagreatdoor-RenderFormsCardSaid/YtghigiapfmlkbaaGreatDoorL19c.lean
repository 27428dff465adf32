/- scholiumlaw19's little functions. -/
import Derived.Test.YtghigiapfmlkbaaGreatDoorL19w
namespace Go.Proofs.YtghigiapfmlkbaaGreatDoor
open Go.RowKit
attribute [local go_sem ↓] Go.wp_at_zero Go.wp_at_succ

theorem results_cell1 {P : Program} {fn : Func} {p : Tmp} {ty : TypeId} (h : fn.results = #[.cell p ty]) (tmps : Array Value) (w : World) (g : Nat) (t : TypeId) (cs : Array Value) (fr : Nat × Nat) (d : TypeDesc)
    (hp : tmps.getD p undef = .pointer (some ⟨g, 0, none⟩)) (hg : w.heap[g]? = some (.cells cs t fr))
    (hu : P.underlying ty = some d) (hd : (match d with | .struct _ | .array _ _ => true | _ => false) = true) (hi : (P.info? ty).map (·.size) = some cs.size) :
    (results fn tmps).run P w = .ok (.agg cs) w := by
  have hp' : tmps[p]?.getD undef = .pointer (some ⟨g, 0, none⟩) := by simpa using hp
  simp [results, h, hp', asAddr, run_loadVar_row w g t ty cs fr d hg hu hd hi]

set_option maxRecDepth 100000 in
theorem str_any (s : ByteArray) (w : World) : Calls Tryz.prog 12 #[.string s] w fun e w' => e = .returned (.agg #[.int .i64 1, .string ⟨#[33, 33, 115, 116, 114]⟩, .string s, .slice none 0 0]) ∧ Below w.heap.size w w' := by
  go_enter Tryz.func12, Tryz.ntmps12
  go_wp2
  refine bodyPost_ret (results_cell1 rfl _ _ w.heap.size _ _ (0, 0) _ rfl (heap_alloc_new _ _) Tryz.underlying25 rfl (by kernel_rfl)) rfl ?_
  exact ⟨rfl, (Below.refl _ _).alloc (Nat.le_refl _) _⟩
set_option maxRecDepth 100000 in
theorem seq_any (A : Option Addr) (n c : Nat) (w : World) : Calls Tryz.prog 13 #[.slice A n c] w fun e w' => e = .returned (.agg #[.int .i64 2, .string ⟨#[33, 33, 115, 101, 113]⟩, .string ⟨#[]⟩, .slice A n c]) ∧ Below w.heap.size w w' := by
  go_enter Tryz.func13, Tryz.ntmps13
  go_wp2
  refine bodyPost_ret (results_cell1 rfl _ _ w.heap.size _ _ (0, 0) _ rfl (heap_alloc_new _ _) Tryz.underlying25 rfl (by kernel_rfl)) rfl ?_
  exact ⟨rfl, (Below.refl _ _).alloc (Nat.le_refl _) _⟩
set_option maxRecDepth 100000 in
theorem map_any (A : Option Addr) (n c : Nat) (w : World) : Calls Tryz.prog 14 #[.slice A n c] w fun e w' => e = .returned (.agg #[.int .i64 3, .string ⟨#[33, 33, 109, 97, 112]⟩, .string ⟨#[]⟩, .slice A n c]) ∧ Below w.heap.size w w' := by
  go_enter Tryz.func14, Tryz.ntmps14
  go_wp2
  refine bodyPost_ret (results_cell1 rfl _ _ w.heap.size _ _ (0, 0) _ rfl (heap_alloc_new _ _) Tryz.underlying25 rfl (by kernel_rfl)) rfl ?_
  exact ⟨rfl, (Below.refl _ _).alloc (Nat.le_refl _) _⟩
end Go.Proofs.YtghigiapfmlkbaaGreatDoor
