/- scholiumlaw19's example. -/
import Derived.Test.YtghigiapfmlkbaaGreatDoorL19p
namespace Go.Proofs.YtghigiapfmlkbaaGreatDoor
open Go.RowKit
attribute [local go_sem ↓] Go.wp_at_zero Go.wp_at_succ

theorem told_ren {g : List Th} {r u : Bs × Nat} (h : Told g r u) (vg : Value) (w : World) (hT : Tabs w) (hg : GR w vg g) : Calls Tryz.prog 15 #[vg] w fun e w' => e = .returned (.tuple #[.string ⟨r.1.toArray⟩, .int .i64 (r.2 : Nat)]) ∧ Below w.heap.size w w' :=
  render_any vg g w hT hg h.small r h.ren h.ne h.out
theorem told_inl {g : List Th} {r u : Bs × Nat} (h : Told g r u) (vg : Value) (w : World) (hT : Tabs w) (hg : GR w vg g) : Calls Tryz.prog 16 #[vg] w fun e w' => e = .returned (.tuple #[.string ⟨u.1.toArray⟩, .int .i64 (u.2 : Nat)]) ∧ Below w.heap.size w w' :=
  rinline_any vg g w hT hg h.small u h.inl

set_option maxRecDepth 100000 in
set_option maxHeartbeats 1000000 in
theorem wakes19_any (w : World) (hT : Tabs w) : Calls Tryz.prog 17 #[] w fun e w' => e = .returned (.bool true) ∧ Below w.heap.size w w' := by
  have hb1 : Below w.heap.size w (w.alloc (.cells #[.int .i64 1] 3)) := (Below.refl _ _).alloc (Nat.le_refl _) _
  have hk : IntsR (w.alloc (.cells #[.int .i64 1] 3)) (.slice (some ⟨w.heap.size, 0, none⟩) 1 1) [1] := IntsR.made2 rfl rfl rfl
  have hz : (w.alloc (.cells #[.int .i64 1] 3)).heap.size = w.heap.size + 1 := by simp
  have hg := fun W B t (hW : IntsR W (.slice (some ⟨w.heap.size, 0, none⟩) 1 1) [1]) (hB : W.heap.size = B) => GR.made2 (t := t) (cs := #[.int .i64 2, .string ⟨#[33, 33, 115, 101, 113]⟩, .string ⟨#[]⟩, .slice (some ⟨w.heap.size, 0, none⟩) 1 1, .int .i64 1, .string ⟨#[33, 33, 115, 116, 114]⟩, .string ⟨#[97]⟩, .slice none 0 0]) (n := 2) (g := [seqT [1], strT [97]]) [(seqT [1], .slice (some ⟨w.heap.size, 0, none⟩) 1 1), (strT [97], .slice none 0 0)] hB rfl rfl rfl (by
    intro p hp
    rcases List.mem_cons.1 hp with rfl | hp
    · exact hW
    · rw [List.mem_singleton] at hp
      subst hp
      exact IntsR.nil _ _ _)
  have hb2 := fun o => hb1.alloc hb1.size o
  have cr := fun W h B => told_ren (toldB_is wake19_ok) (.slice (some ⟨B, 0, none⟩) 2 2) W h
  go_enter Tryz.func17, Tryz.ntmps17
  go_wp2_with fail
  refine (cr _ (hT.below (hb2 _)) _ (hg _ _ _ hk hz)).mono ?_
  rintro _ w1 ⟨rfl, hb⟩
  replace hb := bthen (hb2 _) hb
  clear hg hb2 cr hk hz hb1
  go_wp2
  go_ret
  exact ⟨rfl, hb⟩
end Go.Proofs.YtghigiapfmlkbaaGreatDoor
