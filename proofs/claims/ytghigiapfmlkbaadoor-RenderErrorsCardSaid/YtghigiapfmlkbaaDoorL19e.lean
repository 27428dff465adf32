/- scholiumlaw19.RenderErrors: the walk. -/
import Derived.Test.YtghigiapfmlkbaaDoorL19w
import Derived.Test.YtghigiapfmlkbaaDoorWI
namespace Go.Proofs.YtghigiapfmlkbaaDoor
open Go.RowKit
attribute [local go_sem ↓] Go.wp_at_zero Go.wp_at_succ

theorem rep_snoc2 (i : Nat) : List.replicate i (107 : UInt8) ++ [107] = List.replicate (i + 1) 107 := by
  rw [List.replicate_succ']
/-- RenderErrors' graphs. -/
def errTab (x : Bs) : List (List Th) := [[], [⟨1, [33], [], []⟩], [mapT [1, 2], ⟨1, [33, 33, 105, 110, 116], [49], []⟩, strT [118]], [mapT [1, 2], strT x, strT [118]], [seqT [7], strT [118]]]
theorem err_ok : ∀ i, i < 134 → 129 ≤ i → (errTab (List.replicate i 107)).all (fun g => toldB g ([], 11) ([], 11)) = true := by decide +kernel
/-- A block of graphs' slices. -/
def GsAt (w : World) (E : Nat) (ps : List (List Th × Value)) : Prop := ∀ j p, ps[j]? = some p → GR w p.2 p.1 ∧ w.cell? ⟨E, j, none⟩ = some p.2
theorem GsAt.below {w w1 : World} {E : Nat} {ps} (h : GsAt w E ps) (hb : Below w.heap.size w w1) : GsAt w1 E ps := fun j p hp => by
  obtain ⟨h1, h2⟩ := h j p hp
  exact ⟨h1.below hb, pw_cell hb h2⟩
theorem GsAt.made {w : World} {t : TypeId} {cs : Array Value} {B : Nat} (ps : List (List Th × Value)) (h1 : w.heap.size = B) (h2 : (ps.map (·.2)).toArray = cs) (hk : ∀ p ∈ ps, GR w p.2 p.1) : GsAt (w.alloc (.cells cs t)) B ps := by
  subst h1 h2
  intro j p hp
  refine ⟨(hk p (List.mem_of_getElem? hp)).below ((Below.refl _ _).alloc (Nat.le_refl _) _), ?_⟩
  rw [World.cell?_alloc_at _ _ _ _ rfl]
  simp [hp]
theorem err_at {x : Bs} (h : (errTab x).all (fun g => toldB g ([], 11) ([], 11)) = true) {ps : List (List Th × Value)} (hp : ps.map (·.1) = errTab x) {j : Nat} {p} (hj : ps[j]? = some p) : Told p.1 ([], 11) ([], 11) := by
  have hm : p.1 ∈ errTab x := by rw [← hp]; exact List.mem_map_of_mem (List.mem_of_getElem? hj)
  exact toldB_is (List.all_eq_true.1 h _ hm)

set_option maxRecDepth 100000 in
set_option maxHeartbeats 4000000 in
theorem RenderErrors_in (n : Int) (w : World) (hT : Tabs w) (h1 : -9223372036854775808 ≤ n) (h2 : n ≤ 9223372036854775807) :
    Calls Tryd.prog 3 #[.int .i64 n] w fun e w' => e = .returned (.bool true) ∧ Below w.heap.size w w' := by
  have hw := fun W => within_any n 5 W h1 h2 (by omega) (by omega)
  have hv0 := Int.emod_nonneg n (show (5 : Int) ≠ 0 by omega)
  have hv5 := Int.emod_lt_of_pos n (show (0 : Int) < 5 by omega)
  generalize n % 5 = v at *
  go_enter Tryd.func3, Tryd.ntmps3
  go_wp2_with fail
  go_loop [3, 4] (fun a b => ∃ i : Nat, (i : Int) ≤ 129 + v ∧ a = .string ⟨(List.replicate i (107 : UInt8)).toArray⟩ ∧ b = .int .i64 i) (fun _ b => (129 + v - intOf b).toNat)
  case atStart => exact ⟨0, by omega, rfl, rfl⟩
  case round =>
    obtain ⟨i, hi, rfl, rfl⟩ := hrel
    by_cases hlt : (i : Int) ≤ 128 + v
    · have hap := app_l (List.replicate i 107) [107]
      rw [rep_snoc2] at hap
      have hll : (List.replicate i (107 : UInt8)).length ≤ 133 := by simp; omega
      have HAP := Lib.hid hap
      clear hap
      generalize List.replicate i (107 : UInt8) = x at *
      go_wp2_with (go_at_call 4; refine (hw _).mono ?_; rintro e w' ⟨rfl, rfl⟩)
      exact ⟨⟨i + 1, by omega, by rw [← HAP.out], by go_num⟩, by simp [intOf]; omega⟩
    · have hik : (i : Int) = 129 + v := by omega
      have hok := err_ok i (by omega) (by omega)
      have hxl : (List.replicate i (107 : UInt8)).length ≤ 134 := by simp; omega
      generalize List.replicate i (107 : UInt8) = x at *
      have HOK := Lib.hid hok
      clear hok
      go_wp2_with (go_at_call 4; refine (hw _).mono ?_; rintro e w' ⟨rfl, rfl⟩)
      generalize hA : w.alloc _ = w1
      have hB : Below w.heap.size w w1 := by rw [← hA]; exact (Below.refl _ _).alloc (Nat.le_refl _) _
      have hz1 : w1.heap.size = w.heap.size + 1 := by rw [← hA]; simp
      have hbw := hB
      clear hA hB
      generalize hA : w1.alloc _ = w2
      have hB : Below w1.heap.size w1 w2 := by rw [← hA]; exact (Below.refl _ _).alloc (Nat.le_refl _) _
      have hz2 : w2.heap.size = w.heap.size + 1 + 1 := by rw [← hA]; simp [hz1]
      have g1 : GR w2 (.slice (some ⟨w.heap.size + 1, 0, none⟩) 1 1) [⟨1, [33], [], []⟩] := by rw [← hA]; exact GR.made2 [(⟨1, [33], [], []⟩, .slice none 0 0)] hz1 rfl rfl rfl (List.forall_mem_cons.2 ⟨IntsR.nil _ _ _, (fun _ h => nomatch h)⟩)
      replace hbw := bthen hbw hB
      clear hA hB
      generalize hA : w2.alloc _ = w3
      have hB : Below w2.heap.size w2 w3 := by rw [← hA]; exact (Below.refl _ _).alloc (Nat.le_refl _) _
      have hz3 : w3.heap.size = w.heap.size + 1 + 1 + 1 := by rw [← hA]; simp [hz2]
      have k1 : IntsR w3 (.slice (some ⟨w.heap.size + 1 + 1, 0, none⟩) 2 2) [1, 2] := by rw [← hA]; exact IntsR.made2 hz2 rfl rfl
      replace g1 := g1.below hB
      replace hbw := bthen hbw hB
      clear hA hB
      generalize hA : w3.alloc _ = w4
      have hB : Below w3.heap.size w3 w4 := by rw [← hA]; exact (Below.refl _ _).alloc (Nat.le_refl _) _
      have hz4 : w4.heap.size = w.heap.size + 1 + 1 + 1 + 1 := by rw [← hA]; simp [hz3]
      have g2 : GR w4 (.slice (some ⟨w.heap.size + 1 + 1 + 1, 0, none⟩) 3 3) [mapT [1, 2], ⟨1, [33, 33, 105, 110, 116], [49], []⟩, strT [118]] := by rw [← hA]; exact GR.made2 [(mapT [1, 2], (.slice (some ⟨w.heap.size + 1 + 1, 0, none⟩) 2 2)), (⟨1, [33, 33, 105, 110, 116], [49], []⟩, .slice none 0 0), (strT [118], .slice none 0 0)] hz3 rfl rfl rfl (List.forall_mem_cons.2 ⟨k1, (List.forall_mem_cons.2 ⟨IntsR.nil _ _ _, (List.forall_mem_cons.2 ⟨IntsR.nil _ _ _, (fun _ h => nomatch h)⟩)⟩)⟩)
      replace g1 := g1.below hB
      replace k1 := k1.below hB
      replace hbw := bthen hbw hB
      clear hA hB
      generalize hA : w4.alloc _ = w5
      have hB : Below w4.heap.size w4 w5 := by rw [← hA]; exact (Below.refl _ _).alloc (Nat.le_refl _) _
      have hz5 : w5.heap.size = w.heap.size + 1 + 1 + 1 + 1 + 1 := by rw [← hA]; simp [hz4]
      have k2 : IntsR w5 (.slice (some ⟨w.heap.size + 1 + 1 + 1 + 1, 0, none⟩) 2 2) [1, 2] := by rw [← hA]; exact IntsR.made2 hz4 rfl rfl
      replace g1 := g1.below hB
      replace k1 := k1.below hB
      replace g2 := g2.below hB
      replace hbw := bthen hbw hB
      clear hA hB
      generalize hA : w5.alloc _ = w6
      have hB : Below w5.heap.size w5 w6 := by rw [← hA]; exact (Below.refl _ _).alloc (Nat.le_refl _) _
      have hz6 : w6.heap.size = w.heap.size + 1 + 1 + 1 + 1 + 1 + 1 := by rw [← hA]; simp [hz5]
      have g3 : GR w6 (.slice (some ⟨w.heap.size + 1 + 1 + 1 + 1 + 1, 0, none⟩) 3 3) [mapT [1, 2], strT x, strT [118]] := by rw [← hA]; exact GR.made2 [(mapT [1, 2], (.slice (some ⟨w.heap.size + 1 + 1 + 1 + 1, 0, none⟩) 2 2)), (strT x, .slice none 0 0), (strT [118], .slice none 0 0)] hz5 rfl rfl rfl (List.forall_mem_cons.2 ⟨k2, (List.forall_mem_cons.2 ⟨IntsR.nil _ _ _, (List.forall_mem_cons.2 ⟨IntsR.nil _ _ _, (fun _ h => nomatch h)⟩)⟩)⟩)
      replace g1 := g1.below hB
      replace k1 := k1.below hB
      replace g2 := g2.below hB
      replace k2 := k2.below hB
      replace hbw := bthen hbw hB
      clear hA hB
      generalize hA : w6.alloc _ = w7
      have hB : Below w6.heap.size w6 w7 := by rw [← hA]; exact (Below.refl _ _).alloc (Nat.le_refl _) _
      have hz7 : w7.heap.size = w.heap.size + 1 + 1 + 1 + 1 + 1 + 1 + 1 := by rw [← hA]; simp [hz6]
      have k3 : IntsR w7 (.slice (some ⟨w.heap.size + 1 + 1 + 1 + 1 + 1 + 1, 0, none⟩) 1 1) [7] := by rw [← hA]; exact IntsR.made2 hz6 rfl rfl
      replace g1 := g1.below hB
      replace k1 := k1.below hB
      replace g2 := g2.below hB
      replace k2 := k2.below hB
      replace g3 := g3.below hB
      replace hbw := bthen hbw hB
      clear hA hB
      generalize hA : w7.alloc _ = w8
      have hB : Below w7.heap.size w7 w8 := by rw [← hA]; exact (Below.refl _ _).alloc (Nat.le_refl _) _
      have hz8 : w8.heap.size = w.heap.size + 1 + 1 + 1 + 1 + 1 + 1 + 1 + 1 := by rw [← hA]; simp [hz7]
      have g4 : GR w8 (.slice (some ⟨w.heap.size + 1 + 1 + 1 + 1 + 1 + 1 + 1, 0, none⟩) 2 2) [seqT [7], strT [118]] := by rw [← hA]; exact GR.made2 [(seqT [7], (.slice (some ⟨w.heap.size + 1 + 1 + 1 + 1 + 1 + 1, 0, none⟩) 1 1)), (strT [118], .slice none 0 0)] hz7 rfl rfl rfl (List.forall_mem_cons.2 ⟨k3, (List.forall_mem_cons.2 ⟨IntsR.nil _ _ _, (fun _ h => nomatch h)⟩)⟩)
      replace g1 := g1.below hB
      replace k1 := k1.below hB
      replace g2 := g2.below hB
      replace k2 := k2.below hB
      replace g3 := g3.below hB
      replace k3 := k3.below hB
      replace hbw := bthen hbw hB
      clear hA hB
      generalize hA : w8.alloc _ = w9
      have hB : Below w8.heap.size w8 w9 := by rw [← hA]; exact (Below.refl _ _).alloc (Nat.le_refl _) _
      have hz9 : w9.heap.size = w.heap.size + 1 + 1 + 1 + 1 + 1 + 1 + 1 + 1 + 1 := by rw [← hA]; simp [hz8]
      have hE : GsAt w9 (w.heap.size + 1 + 1 + 1 + 1 + 1 + 1 + 1 + 1) (List.zip (errTab x) ([.slice none 0 0, (.slice (some ⟨w.heap.size + 1, 0, none⟩) 1 1), (.slice (some ⟨w.heap.size + 1 + 1 + 1, 0, none⟩) 3 3), (.slice (some ⟨w.heap.size + 1 + 1 + 1 + 1 + 1, 0, none⟩) 3 3), (.slice (some ⟨w.heap.size + 1 + 1 + 1 + 1 + 1 + 1 + 1, 0, none⟩) 2 2)] : List Value)) := by rw [← hA]; exact GsAt.made _ hz8 rfl (List.forall_mem_cons.2 ⟨.inl ⟨rfl, none, 0, rfl⟩, List.forall_mem_cons.2 ⟨g1, List.forall_mem_cons.2 ⟨g2, List.forall_mem_cons.2 ⟨g3, List.forall_mem_cons.2 ⟨g4, fun _ h => nomatch h⟩⟩⟩⟩⟩)
      replace g1 := g1.below hB
      replace k1 := k1.below hB
      replace g2 := g2.below hB
      replace k2 := k2.below hB
      replace g3 := g3.below hB
      replace k3 := k3.below hB
      replace g4 := g4.below hB
      replace hbw := bthen hbw hB
      clear hA hB
      have hp : (List.zip (errTab x) ([.slice none 0 0, (.slice (some ⟨w.heap.size + 1, 0, none⟩) 1 1), (.slice (some ⟨w.heap.size + 1 + 1 + 1, 0, none⟩) 3 3), (.slice (some ⟨w.heap.size + 1 + 1 + 1 + 1 + 1, 0, none⟩) 3 3), (.slice (some ⟨w.heap.size + 1 + 1 + 1 + 1 + 1 + 1 + 1, 0, none⟩) 2 2)] : List Value)).map (·.1) = errTab x := rfl
      generalize (List.zip (errTab x) ([.slice none 0 0, (.slice (some ⟨w.heap.size + 1, 0, none⟩) 1 1), (.slice (some ⟨w.heap.size + 1 + 1 + 1, 0, none⟩) 3 3), (.slice (some ⟨w.heap.size + 1 + 1 + 1 + 1 + 1, 0, none⟩) 3 3), (.slice (some ⟨w.heap.size + 1 + 1 + 1 + 1 + 1 + 1 + 1, 0, none⟩) 2 2)] : List Value)) = ps at *
      have hpl : ps.length = 5 := by rw [← List.length_map (f := fun p : List Th × Value => p.1), hp]; rfl
      have HP := Lib.hid hp
      clear hp g1 k1 g2 k2 g3 k3 g4 hw hz1 hz2 hz3 hz4 hz5 hz6 hz7 hz8 hz9
      generalize hE0 : w.heap.size + 1 + 1 + 1 + 1 + 1 + 1 + 1 + 1 = E at *
      go_loopw [2, 41] (fun r i wr => r = .bool false ∧ ∃ k : Nat, i = .int .i64 k ∧ k ≤ 5 ∧ GsAt wr E ps ∧ Below w.heap.size w wr) (fun _ i _ => 5 - (intOf i).toNat)
      case atStart => exact ⟨rfl, 0, rfl, by omega, hE, hbw⟩
      case round =>
        obtain ⟨rfl, k, rfl, hk, hEr, hbr⟩ := hrel
        clear hE hbw
        by_cases hlt : k < 5
        · obtain ⟨p, hpk⟩ : ∃ p, ps[k]? = some p := ⟨_, List.getElem?_eq_getElem (by omega)⟩
          obtain ⟨hg, c0⟩ := hEr k p hpk
          have hto := err_at HOK.out HP.out hpk
          obtain ⟨g, vg⟩ := p
          dsimp only at hg c0 hto
          obtain ⟨A, cp, rfl⟩ := hg.shape
          have cr := fun W (h : Below wr.heap.size wr W) => told_ren hto _ W (hT.below (bthen hbr h)) (hg.below h)
          have ci := fun W (h : Below wr.heap.size wr W) => told_inl hto _ W (hT.below (bthen hbr h)) (hg.below h)
          have HB := Lib.hid hbr
          have HE := Lib.hid hEr
          have HK := Lib.hid hlt
          clear hto hg hpk hEr hbr
          go_wp2_with fail
          refine (cr wr (Below.refl _ _)).mono ?_
          rintro _ w1 ⟨rfl, hb⟩
          clear cr
          go_wp2_with fail
          refine (ci w1 hb).mono ?_
          rintro _ w2 ⟨rfl, hb2⟩
          replace hb := bthen hb hb2
          clear hb2 ci c0
          go_wp2_with fail
          exact ⟨⟨rfl, k + 1, by go_num, HK.out, HE.out.below hb, bthen HB.out hb⟩, by simp [intOf]; have := HK.out; omega⟩
        · have hge : (5 : Int) ≤ k := by omega
          obtain rfl : k = 5 := by omega
          clear hEr
          go_wp2_with fail
          refine (wakes19_any wr (hT.below hbr)).mono ?_
          rintro _ w5 ⟨rfl, hb5⟩
          replace hb5 := bthen hbr hb5
          clear hbr
          go_wp2
          go_ret
          exact ⟨rfl, hb5⟩
end Go.Proofs.YtghigiapfmlkbaaDoor
