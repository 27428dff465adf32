/- scholiumlaw19.RenderForms: the walk. -/
import Derived.Test.YtghigiapfmlkbaaGreatDoorL19c
import Derived.Test.YtghigiapfmlkbaaGreatDoorWI
namespace Go.Proofs.YtghigiapfmlkbaaGreatDoor
open Go.RowKit
attribute [local go_sem ↓] Go.wp_at_zero Go.wp_at_succ

set_option maxRecDepth 100000 in
set_option maxHeartbeats 4000000 in
theorem RenderForms_in (n : Int) (w : World) (hT : Tabs w) (h1 : -9223372036854775808 ≤ n) (h2 : n ≤ 9223372036854775807) :
    Calls Tryz.prog 3 #[.int .i64 n] w fun e w' => e = .returned (.bool true) ∧ Below w.heap.size w w' := by
  have hw := fun W => within_any n 8 W h1 h2 (by omega) (by omega)
  obtain ⟨v, hv⟩ : ∃ v : Nat, n % 8 = v := ⟨(n % 8).toNat, by omega⟩
  have hv8 : v < 8 := by omega
  rw [hv] at hw
  clear hv
  obtain ⟨X, hx1, hx2⟩ := letterR_at v hv8
  have hok := rend_ok v hv8
  generalize lettersR.getD v 0 = a at *
  have HOK := Lib.hid hok
  have hbw := Below.refl w.heap.size w
  clear hok hv8 h1 h2
  go_enter Tryz.func3, Tryz.ntmps3
  go_upto_region 5 with (go_at_call 11; refine (hw _).mono ?_; rintro e w' ⟨rfl, rfl⟩)
  clear hw
  have HS1 := Lib.hid (show (⟨#[a]⟩ : ByteArray) ++ ⟨#[10]⟩ = ⟨#[a, 10]⟩ from app_l [a] [10])
  have HS2 := Lib.hid (show (⟨#[a]⟩ : ByteArray) ++ ⟨#[58, 10, 32, 32, 45, 32, 98, 10]⟩ = ⟨#[a, 58, 10, 32, 32, 45, 32, 98, 10]⟩ from app_l [a] [58, 10, 32, 32, 45, 32, 98, 10])
  have HS3 := Lib.hid (show (⟨#[123]⟩ : ByteArray) ++ ⟨#[a]⟩ = ⟨#[123, a]⟩ from app_l [123] [a])
  have HS4 := Lib.hid (show (⟨#[123, a]⟩ : ByteArray) ++ ⟨#[58, 32, 91, 98, 93, 125]⟩ = ⟨#[123, a, 58, 32, 91, 98, 93, 125]⟩ from app_l [123, a] [58, 32, 91, 98, 93, 125])
  have HS5 := Lib.hid (show (⟨#[45, 32]⟩ : ByteArray) ++ ⟨#[a]⟩ = ⟨#[45, 32, a]⟩ from app_l [45, 32] [a])
  have HS6 := Lib.hid (show (⟨#[45, 32, a]⟩ : ByteArray) ++ ⟨#[10, 45, 10, 32, 32, 45, 32, 120, 44, 32, 121, 10]⟩ = ⟨#[45, 32, a, 10, 45, 10, 32, 32, 45, 32, 120, 44, 32, 121, 10]⟩ from app_l [45, 32, a] [10, 45, 10, 32, 32, 45, 32, 120, 44, 32, 121, 10])
  have HS7 := Lib.hid (show (⟨#[91]⟩ : ByteArray) ++ ⟨#[a]⟩ = ⟨#[91, a]⟩ from app_l [91] [a])
  have HS8 := Lib.hid (show (⟨#[91, a]⟩ : ByteArray) ++ ⟨#[44, 32, 91, 34, 120, 44, 32, 121, 34, 93, 93]⟩ = ⟨#[91, a, 44, 32, 91, 34, 120, 44, 32, 121, 34, 93, 93]⟩ from app_l [91, a] [44, 32, 91, 34, 120, 44, 32, 121, 34, 93, 93])
  have HS9 := Lib.hid (show (⟨#[45, 32, 38, 97, 49, 32]⟩ : ByteArray) ++ ⟨#[a]⟩ = ⟨#[45, 32, 38, 97, 49, 32, a]⟩ from app_l [45, 32, 38, 97, 49, 32] [a])
  have HS10 := Lib.hid (show (⟨#[45, 32, 38, 97, 49, 32, a]⟩ : ByteArray) ++ ⟨#[10, 45, 32, 42, 97, 49, 10]⟩ = ⟨#[45, 32, 38, 97, 49, 32, a, 10, 45, 32, 42, 97, 49, 10]⟩ from app_l [45, 32, 38, 97, 49, 32, a] [10, 45, 32, 42, 97, 49, 10])
  have HS11 := Lib.hid (show (⟨#[a]⟩ : ByteArray) ++ ⟨#[58, 32, 38, 97, 49, 10, 32, 32, 45, 32, 34, 49, 46, 53, 34, 10, 122, 58, 32, 42, 97, 49, 10]⟩ = ⟨#[a, 58, 32, 38, 97, 49, 10, 32, 32, 45, 32, 34, 49, 46, 53, 34, 10, 122, 58, 32, 42, 97, 49, 10]⟩ from app_l [a] [58, 32, 38, 97, 49, 10, 32, 32, 45, 32, 34, 49, 46, 53, 34, 10, 122, 58, 32, 42, 97, 49, 10])
  have HS12 := Lib.hid (show (⟨#[33, 116, 10]⟩ : ByteArray) ++ ⟨#[a]⟩ = ⟨#[33, 116, 10, a]⟩ from app_l [33, 116, 10] [a])
  have HS13 := Lib.hid (show (⟨#[33, 116, 10, a]⟩ : ByteArray) ++ ⟨#[58, 32, 33, 33, 110, 117, 108, 108, 32, 34, 34, 10]⟩ = ⟨#[33, 116, 10, a, 58, 32, 33, 33, 110, 117, 108, 108, 32, 34, 34, 10]⟩ from app_l [33, 116, 10, a] [58, 32, 33, 33, 110, 117, 108, 108, 32, 34, 34, 10])
  have HS14 := Lib.hid (show (⟨#[33, 116, 32, 123]⟩ : ByteArray) ++ ⟨#[a]⟩ = ⟨#[33, 116, 32, 123, a]⟩ from app_l [33, 116, 32, 123] [a])
  have HS15 := Lib.hid (show (⟨#[33, 116, 32, 123, a]⟩ : ByteArray) ++ ⟨#[58, 32, 33, 33, 110, 117, 108, 108, 32, 34, 34, 125]⟩ = ⟨#[33, 116, 32, 123, a, 58, 32, 33, 33, 110, 117, 108, 108, 32, 34, 34, 125]⟩ from app_l [33, 116, 32, 123, a] [58, 32, 33, 33, 110, 117, 108, 108, 32, 34, 34, 125])
  go_cut [2, 133, 134, 135] (fun r t m i wx => r = .bool false ∧ m = .int .i64 12 ∧ i = .int .i64 0 ∧ ∃ E ps, t = .slice (some ⟨E, 0, none⟩) 12 12 ∧ EntAt wx E ps ∧ ps.map (·.1) = rendTab a ∧ Below w.heap.size w wx)
  case first =>
    go_wp2_with fail
    refine (str_any _ _).mono ?_
    rintro _ w1 ⟨rfl, hB⟩
    replace hbw := bthen hbw hB
    clear hB
    go_wp2_with fail
    generalize hA : w1.alloc _ = w2
    have hB : Below w1.heap.size w1 w2 := by rw [← hA]; exact (Below.refl _ _).alloc (Nat.le_refl _) _
    have hzw2 : w2.heap.size = w1.heap.size + 1 := by rw [← hA]; simp
    have g0 : GR w2 (.slice (some ⟨w1.heap.size, 0, none⟩) 1 1) [strT [a]] := by rw [← hA]; exact GR.made2 [(strT [a], .slice none 0 0)] rfl rfl rfl rfl (List.forall_mem_cons.2 ⟨IntsR.nil _ _ _, (fun _ h => nomatch h)⟩)
    replace hbw := bthen hbw hB
    clear hA hB
    refine (str_any _ _).mono ?_
    rintro _ w3 ⟨rfl, hB⟩
    replace g0 := g0.below hB
    replace hbw := bthen hbw hB
    clear hB
    go_wp2_with fail
    generalize hA : w3.alloc _ = w4
    have hB : Below w3.heap.size w3 w4 := by rw [← hA]; exact (Below.refl _ _).alloc (Nat.le_refl _) _
    have hzw4 : w4.heap.size = w3.heap.size + 1 := by rw [← hA]; simp
    have g1 : GR w4 (.slice (some ⟨w3.heap.size, 0, none⟩) 1 1) [strT [49]] := by rw [← hA]; exact GR.made2 [(strT [49], .slice none 0 0)] rfl rfl rfl rfl (List.forall_mem_cons.2 ⟨IntsR.nil _ _ _, (fun _ h => nomatch h)⟩)
    replace g0 := g0.below hB
    replace hbw := bthen hbw hB
    clear hA hB
    refine (seq_any _ _ _ _).mono ?_
    rintro _ w5 ⟨rfl, hB⟩
    replace g0 := g0.below hB
    replace g1 := g1.below hB
    replace hbw := bthen hbw hB
    clear hB
    go_wp2_with fail
    generalize hA : w5.alloc _ = w6
    have hB : Below w5.heap.size w5 w6 := by rw [← hA]; exact (Below.refl _ _).alloc (Nat.le_refl _) _
    have hzw6 : w6.heap.size = w5.heap.size + 1 := by rw [← hA]; simp
    have g2 : GR w6 (.slice (some ⟨w5.heap.size, 0, none⟩) 1 1) [seqT []] := by rw [← hA]; exact GR.made2 [(seqT [], (.slice none 0 0))] rfl rfl rfl rfl (List.forall_mem_cons.2 ⟨IntsR.nil _ _ _, (fun _ h => nomatch h)⟩)
    replace g0 := g0.below hB
    replace g1 := g1.below hB
    replace hbw := bthen hbw hB
    clear hA hB
    refine (map_any _ _ _ _).mono ?_
    rintro _ w7 ⟨rfl, hB⟩
    replace g0 := g0.below hB
    replace g1 := g1.below hB
    replace g2 := g2.below hB
    replace hbw := bthen hbw hB
    clear hB
    go_wp2_with fail
    generalize hA : w7.alloc _ = w8
    have hB : Below w7.heap.size w7 w8 := by rw [← hA]; exact (Below.refl _ _).alloc (Nat.le_refl _) _
    have hzw8 : w8.heap.size = w7.heap.size + 1 := by rw [← hA]; simp
    have g3 : GR w8 (.slice (some ⟨w7.heap.size, 0, none⟩) 1 1) [mapT []] := by rw [← hA]; exact GR.made2 [(mapT [], (.slice none 0 0))] rfl rfl rfl rfl (List.forall_mem_cons.2 ⟨IntsR.nil _ _ _, (fun _ h => nomatch h)⟩)
    replace g0 := g0.below hB
    replace g1 := g1.below hB
    replace g2 := g2.below hB
    replace hbw := bthen hbw hB
    clear hA hB
    generalize hA : w8.alloc _ = w9
    have hB : Below w8.heap.size w8 w9 := by rw [← hA]; exact (Below.refl _ _).alloc (Nat.le_refl _) _
    have hzw9 : w9.heap.size = w7.heap.size + 1 + 1 := by rw [← hA]; simp [hzw8]
    have k0 : IntsR w9 (.slice (some ⟨w7.heap.size + 1, 0, none⟩) 2 2) [1, 2] := by rw [← hA]; exact IntsR.made2 hzw8 rfl rfl
    replace g0 := g0.below hB
    replace g1 := g1.below hB
    replace g2 := g2.below hB
    replace g3 := g3.below hB
    replace hbw := bthen hbw hB
    clear hA hB
    refine (map_any _ _ _ _).mono ?_
    rintro _ w10 ⟨rfl, hB⟩
    replace g0 := g0.below hB
    replace g1 := g1.below hB
    replace g2 := g2.below hB
    replace g3 := g3.below hB
    replace k0 := k0.below hB
    replace hbw := bthen hbw hB
    clear hB
    go_wp2_with fail
    refine (str_any _ _).mono ?_
    rintro _ w11 ⟨rfl, hB⟩
    replace g0 := g0.below hB
    replace g1 := g1.below hB
    replace g2 := g2.below hB
    replace g3 := g3.below hB
    replace k0 := k0.below hB
    replace hbw := bthen hbw hB
    clear hB
    go_wp2_with fail
    generalize hA : w11.alloc _ = w12
    have hB : Below w11.heap.size w11 w12 := by rw [← hA]; exact (Below.refl _ _).alloc (Nat.le_refl _) _
    have hzw12 : w12.heap.size = w11.heap.size + 1 := by rw [← hA]; simp
    have k1 : IntsR w12 (.slice (some ⟨w11.heap.size, 0, none⟩) 1 1) [3] := by rw [← hA]; exact IntsR.made2 rfl rfl rfl
    replace g0 := g0.below hB
    replace g1 := g1.below hB
    replace g2 := g2.below hB
    replace g3 := g3.below hB
    replace k0 := k0.below hB
    replace hbw := bthen hbw hB
    clear hA hB
    refine (seq_any _ _ _ _).mono ?_
    rintro _ w13 ⟨rfl, hB⟩
    replace g0 := g0.below hB
    replace g1 := g1.below hB
    replace g2 := g2.below hB
    replace g3 := g3.below hB
    replace k0 := k0.below hB
    replace k1 := k1.below hB
    replace hbw := bthen hbw hB
    clear hB
    go_wp2_with fail
    refine (str_any _ _).mono ?_
    rintro _ w14 ⟨rfl, hB⟩
    replace g0 := g0.below hB
    replace g1 := g1.below hB
    replace g2 := g2.below hB
    replace g3 := g3.below hB
    replace k0 := k0.below hB
    replace k1 := k1.below hB
    replace hbw := bthen hbw hB
    clear hB
    go_wp2_with fail
    generalize hA : w14.alloc _ = w15
    have hB : Below w14.heap.size w14 w15 := by rw [← hA]; exact (Below.refl _ _).alloc (Nat.le_refl _) _
    have hzw15 : w15.heap.size = w14.heap.size + 1 := by rw [← hA]; simp
    have g4 : GR w15 (.slice (some ⟨w14.heap.size, 0, none⟩) 4 4) [mapT [1, 2], strT [a], seqT [3], strT [98]] := by rw [← hA]; exact GR.made2 [(mapT [1, 2], (.slice (some ⟨w7.heap.size + 1, 0, none⟩) 2 2)), (strT [a], .slice none 0 0), (seqT [3], (.slice (some ⟨w11.heap.size, 0, none⟩) 1 1)), (strT [98], .slice none 0 0)] rfl rfl rfl rfl (List.forall_mem_cons.2 ⟨k0, (List.forall_mem_cons.2 ⟨IntsR.nil _ _ _, (List.forall_mem_cons.2 ⟨k1, (List.forall_mem_cons.2 ⟨IntsR.nil _ _ _, (fun _ h => nomatch h)⟩)⟩)⟩)⟩)
    replace g0 := g0.below hB
    replace g1 := g1.below hB
    replace g2 := g2.below hB
    replace g3 := g3.below hB
    replace k0 := k0.below hB
    replace k1 := k1.below hB
    replace hbw := bthen hbw hB
    clear hA hB
    generalize hA : w15.alloc _ = w16
    have hB : Below w15.heap.size w15 w16 := by rw [← hA]; exact (Below.refl _ _).alloc (Nat.le_refl _) _
    have hzw16 : w16.heap.size = w14.heap.size + 1 + 1 := by rw [← hA]; simp [hzw15]
    have k2 : IntsR w16 (.slice (some ⟨w14.heap.size + 1, 0, none⟩) 2 2) [1, 2] := by rw [← hA]; exact IntsR.made2 hzw15 rfl rfl
    replace g0 := g0.below hB
    replace g1 := g1.below hB
    replace g2 := g2.below hB
    replace g3 := g3.below hB
    replace k0 := k0.below hB
    replace k1 := k1.below hB
    replace g4 := g4.below hB
    replace hbw := bthen hbw hB
    clear hA hB
    refine (seq_any _ _ _ _).mono ?_
    rintro _ w17 ⟨rfl, hB⟩
    replace g0 := g0.below hB
    replace g1 := g1.below hB
    replace g2 := g2.below hB
    replace g3 := g3.below hB
    replace k0 := k0.below hB
    replace k1 := k1.below hB
    replace g4 := g4.below hB
    replace k2 := k2.below hB
    replace hbw := bthen hbw hB
    clear hB
    go_wp2_with fail
    refine (str_any _ _).mono ?_
    rintro _ w18 ⟨rfl, hB⟩
    replace g0 := g0.below hB
    replace g1 := g1.below hB
    replace g2 := g2.below hB
    replace g3 := g3.below hB
    replace k0 := k0.below hB
    replace k1 := k1.below hB
    replace g4 := g4.below hB
    replace k2 := k2.below hB
    replace hbw := bthen hbw hB
    clear hB
    go_wp2_with fail
    generalize hA : w18.alloc _ = w19
    have hB : Below w18.heap.size w18 w19 := by rw [← hA]; exact (Below.refl _ _).alloc (Nat.le_refl _) _
    have hzw19 : w19.heap.size = w18.heap.size + 1 := by rw [← hA]; simp
    have k3 : IntsR w19 (.slice (some ⟨w18.heap.size, 0, none⟩) 1 1) [3] := by rw [← hA]; exact IntsR.made2 rfl rfl rfl
    replace g0 := g0.below hB
    replace g1 := g1.below hB
    replace g2 := g2.below hB
    replace g3 := g3.below hB
    replace k0 := k0.below hB
    replace k1 := k1.below hB
    replace g4 := g4.below hB
    replace k2 := k2.below hB
    replace hbw := bthen hbw hB
    clear hA hB
    refine (seq_any _ _ _ _).mono ?_
    rintro _ w20 ⟨rfl, hB⟩
    replace g0 := g0.below hB
    replace g1 := g1.below hB
    replace g2 := g2.below hB
    replace g3 := g3.below hB
    replace k0 := k0.below hB
    replace k1 := k1.below hB
    replace g4 := g4.below hB
    replace k2 := k2.below hB
    replace k3 := k3.below hB
    replace hbw := bthen hbw hB
    clear hB
    go_wp2_with fail
    refine (str_any _ _).mono ?_
    rintro _ w21 ⟨rfl, hB⟩
    replace g0 := g0.below hB
    replace g1 := g1.below hB
    replace g2 := g2.below hB
    replace g3 := g3.below hB
    replace k0 := k0.below hB
    replace k1 := k1.below hB
    replace g4 := g4.below hB
    replace k2 := k2.below hB
    replace k3 := k3.below hB
    replace hbw := bthen hbw hB
    clear hB
    go_wp2_with fail
    generalize hA : w21.alloc _ = w22
    have hB : Below w21.heap.size w21 w22 := by rw [← hA]; exact (Below.refl _ _).alloc (Nat.le_refl _) _
    have hzw22 : w22.heap.size = w21.heap.size + 1 := by rw [← hA]; simp
    have g5 : GR w22 (.slice (some ⟨w21.heap.size, 0, none⟩) 4 4) [seqT [1, 2], strT [a], seqT [3], strT [120, 44, 32, 121]] := by rw [← hA]; exact GR.made2 [(seqT [1, 2], (.slice (some ⟨w14.heap.size + 1, 0, none⟩) 2 2)), (strT [a], .slice none 0 0), (seqT [3], (.slice (some ⟨w18.heap.size, 0, none⟩) 1 1)), (strT [120, 44, 32, 121], .slice none 0 0)] rfl rfl rfl rfl (List.forall_mem_cons.2 ⟨k2, (List.forall_mem_cons.2 ⟨IntsR.nil _ _ _, (List.forall_mem_cons.2 ⟨k3, (List.forall_mem_cons.2 ⟨IntsR.nil _ _ _, (fun _ h => nomatch h)⟩)⟩)⟩)⟩)
    replace g0 := g0.below hB
    replace g1 := g1.below hB
    replace g2 := g2.below hB
    replace g3 := g3.below hB
    replace k0 := k0.below hB
    replace k1 := k1.below hB
    replace g4 := g4.below hB
    replace k2 := k2.below hB
    replace k3 := k3.below hB
    replace hbw := bthen hbw hB
    clear hA hB
    generalize hA : w22.alloc _ = w23
    have hB : Below w22.heap.size w22 w23 := by rw [← hA]; exact (Below.refl _ _).alloc (Nat.le_refl _) _
    have hzw23 : w23.heap.size = w21.heap.size + 1 + 1 := by rw [← hA]; simp [hzw22]
    have k4 : IntsR w23 (.slice (some ⟨w21.heap.size + 1, 0, none⟩) 2 2) [1, 1] := by rw [← hA]; exact IntsR.made2 hzw22 rfl rfl
    replace g0 := g0.below hB
    replace g1 := g1.below hB
    replace g2 := g2.below hB
    replace g3 := g3.below hB
    replace k0 := k0.below hB
    replace k1 := k1.below hB
    replace g4 := g4.below hB
    replace k2 := k2.below hB
    replace k3 := k3.below hB
    replace g5 := g5.below hB
    replace hbw := bthen hbw hB
    clear hA hB
    refine (seq_any _ _ _ _).mono ?_
    rintro _ w24 ⟨rfl, hB⟩
    replace g0 := g0.below hB
    replace g1 := g1.below hB
    replace g2 := g2.below hB
    replace g3 := g3.below hB
    replace k0 := k0.below hB
    replace k1 := k1.below hB
    replace g4 := g4.below hB
    replace k2 := k2.below hB
    replace k3 := k3.below hB
    replace g5 := g5.below hB
    replace k4 := k4.below hB
    replace hbw := bthen hbw hB
    clear hB
    go_wp2_with fail
    refine (str_any _ _).mono ?_
    rintro _ w25 ⟨rfl, hB⟩
    replace g0 := g0.below hB
    replace g1 := g1.below hB
    replace g2 := g2.below hB
    replace g3 := g3.below hB
    replace k0 := k0.below hB
    replace k1 := k1.below hB
    replace g4 := g4.below hB
    replace k2 := k2.below hB
    replace k3 := k3.below hB
    replace g5 := g5.below hB
    replace k4 := k4.below hB
    replace hbw := bthen hbw hB
    clear hB
    go_wp2_with fail
    generalize hA : w25.alloc _ = w26
    have hB : Below w25.heap.size w25 w26 := by rw [← hA]; exact (Below.refl _ _).alloc (Nat.le_refl _) _
    have hzw26 : w26.heap.size = w25.heap.size + 1 := by rw [← hA]; simp
    have g6 : GR w26 (.slice (some ⟨w25.heap.size, 0, none⟩) 2 2) [seqT [1, 1], strT [a]] := by rw [← hA]; exact GR.made2 [(seqT [1, 1], (.slice (some ⟨w21.heap.size + 1, 0, none⟩) 2 2)), (strT [a], .slice none 0 0)] rfl rfl rfl rfl (List.forall_mem_cons.2 ⟨k4, (List.forall_mem_cons.2 ⟨IntsR.nil _ _ _, (fun _ h => nomatch h)⟩)⟩)
    replace g0 := g0.below hB
    replace g1 := g1.below hB
    replace g2 := g2.below hB
    replace g3 := g3.below hB
    replace k0 := k0.below hB
    replace k1 := k1.below hB
    replace g4 := g4.below hB
    replace k2 := k2.below hB
    replace k3 := k3.below hB
    replace g5 := g5.below hB
    replace k4 := k4.below hB
    replace hbw := bthen hbw hB
    clear hA hB
    generalize hA : w26.alloc _ = w27
    have hB : Below w26.heap.size w26 w27 := by rw [← hA]; exact (Below.refl _ _).alloc (Nat.le_refl _) _
    have hzw27 : w27.heap.size = w25.heap.size + 1 + 1 := by rw [← hA]; simp [hzw26]
    have k5 : IntsR w27 (.slice (some ⟨w25.heap.size + 1, 0, none⟩) 1 1) [0] := by rw [← hA]; exact IntsR.made2 hzw26 rfl rfl
    replace g0 := g0.below hB
    replace g1 := g1.below hB
    replace g2 := g2.below hB
    replace g3 := g3.below hB
    replace k0 := k0.below hB
    replace k1 := k1.below hB
    replace g4 := g4.below hB
    replace k2 := k2.below hB
    replace k3 := k3.below hB
    replace g5 := g5.below hB
    replace k4 := k4.below hB
    replace g6 := g6.below hB
    replace hbw := bthen hbw hB
    clear hA hB
    refine (seq_any _ _ _ _).mono ?_
    rintro _ w28 ⟨rfl, hB⟩
    replace g0 := g0.below hB
    replace g1 := g1.below hB
    replace g2 := g2.below hB
    replace g3 := g3.below hB
    replace k0 := k0.below hB
    replace k1 := k1.below hB
    replace g4 := g4.below hB
    replace k2 := k2.below hB
    replace k3 := k3.below hB
    replace g5 := g5.below hB
    replace k4 := k4.below hB
    replace g6 := g6.below hB
    replace k5 := k5.below hB
    replace hbw := bthen hbw hB
    clear hB
    go_wp2_with fail
    generalize hA : w28.alloc _ = w29
    have hB : Below w28.heap.size w28 w29 := by rw [← hA]; exact (Below.refl _ _).alloc (Nat.le_refl _) _
    have hzw29 : w29.heap.size = w28.heap.size + 1 := by rw [← hA]; simp
    have g7 : GR w29 (.slice (some ⟨w28.heap.size, 0, none⟩) 1 1) [seqT [0]] := by rw [← hA]; exact GR.made2 [(seqT [0], (.slice (some ⟨w25.heap.size + 1, 0, none⟩) 1 1))] rfl rfl rfl rfl (List.forall_mem_cons.2 ⟨k5, (fun _ h => nomatch h)⟩)
    replace g0 := g0.below hB
    replace g1 := g1.below hB
    replace g2 := g2.below hB
    replace g3 := g3.below hB
    replace k0 := k0.below hB
    replace k1 := k1.below hB
    replace g4 := g4.below hB
    replace k2 := k2.below hB
    replace k3 := k3.below hB
    replace g5 := g5.below hB
    replace k4 := k4.below hB
    replace g6 := g6.below hB
    replace k5 := k5.below hB
    replace hbw := bthen hbw hB
    clear hA hB
    generalize hA : w29.alloc _ = w30
    have hB : Below w29.heap.size w29 w30 := by rw [← hA]; exact (Below.refl _ _).alloc (Nat.le_refl _) _
    have hzw30 : w30.heap.size = w28.heap.size + 1 + 1 := by rw [← hA]; simp [hzw29]
    have k6 : IntsR w30 (.slice (some ⟨w28.heap.size + 1, 0, none⟩) 4 4) [1, 2, 3, 2] := by rw [← hA]; exact IntsR.made2 hzw29 rfl rfl
    replace g0 := g0.below hB
    replace g1 := g1.below hB
    replace g2 := g2.below hB
    replace g3 := g3.below hB
    replace k0 := k0.below hB
    replace k1 := k1.below hB
    replace g4 := g4.below hB
    replace k2 := k2.below hB
    replace k3 := k3.below hB
    replace g5 := g5.below hB
    replace k4 := k4.below hB
    replace g6 := g6.below hB
    replace k5 := k5.below hB
    replace g7 := g7.below hB
    replace hbw := bthen hbw hB
    clear hA hB
    refine (map_any _ _ _ _).mono ?_
    rintro _ w31 ⟨rfl, hB⟩
    replace g0 := g0.below hB
    replace g1 := g1.below hB
    replace g2 := g2.below hB
    replace g3 := g3.below hB
    replace k0 := k0.below hB
    replace k1 := k1.below hB
    replace g4 := g4.below hB
    replace k2 := k2.below hB
    replace k3 := k3.below hB
    replace g5 := g5.below hB
    replace k4 := k4.below hB
    replace g6 := g6.below hB
    replace k5 := k5.below hB
    replace g7 := g7.below hB
    replace k6 := k6.below hB
    replace hbw := bthen hbw hB
    clear hB
    go_wp2_with fail
    refine (str_any _ _).mono ?_
    rintro _ w32 ⟨rfl, hB⟩
    replace g0 := g0.below hB
    replace g1 := g1.below hB
    replace g2 := g2.below hB
    replace g3 := g3.below hB
    replace k0 := k0.below hB
    replace k1 := k1.below hB
    replace g4 := g4.below hB
    replace k2 := k2.below hB
    replace k3 := k3.below hB
    replace g5 := g5.below hB
    replace k4 := k4.below hB
    replace g6 := g6.below hB
    replace k5 := k5.below hB
    replace g7 := g7.below hB
    replace k6 := k6.below hB
    replace hbw := bthen hbw hB
    clear hB
    go_wp2_with fail
    generalize hA : w32.alloc _ = w33
    have hB : Below w32.heap.size w32 w33 := by rw [← hA]; exact (Below.refl _ _).alloc (Nat.le_refl _) _
    have hzw33 : w33.heap.size = w32.heap.size + 1 := by rw [← hA]; simp
    have k7 : IntsR w33 (.slice (some ⟨w32.heap.size, 0, none⟩) 1 1) [4] := by rw [← hA]; exact IntsR.made2 rfl rfl rfl
    replace g0 := g0.below hB
    replace g1 := g1.below hB
    replace g2 := g2.below hB
    replace g3 := g3.below hB
    replace k0 := k0.below hB
    replace k1 := k1.below hB
    replace g4 := g4.below hB
    replace k2 := k2.below hB
    replace k3 := k3.below hB
    replace g5 := g5.below hB
    replace k4 := k4.below hB
    replace g6 := g6.below hB
    replace k5 := k5.below hB
    replace g7 := g7.below hB
    replace k6 := k6.below hB
    replace hbw := bthen hbw hB
    clear hA hB
    refine (seq_any _ _ _ _).mono ?_
    rintro _ w34 ⟨rfl, hB⟩
    replace g0 := g0.below hB
    replace g1 := g1.below hB
    replace g2 := g2.below hB
    replace g3 := g3.below hB
    replace k0 := k0.below hB
    replace k1 := k1.below hB
    replace g4 := g4.below hB
    replace k2 := k2.below hB
    replace k3 := k3.below hB
    replace g5 := g5.below hB
    replace k4 := k4.below hB
    replace g6 := g6.below hB
    replace k5 := k5.below hB
    replace g7 := g7.below hB
    replace k6 := k6.below hB
    replace k7 := k7.below hB
    replace hbw := bthen hbw hB
    clear hB
    go_wp2_with fail
    refine (str_any _ _).mono ?_
    rintro _ w35 ⟨rfl, hB⟩
    replace g0 := g0.below hB
    replace g1 := g1.below hB
    replace g2 := g2.below hB
    replace g3 := g3.below hB
    replace k0 := k0.below hB
    replace k1 := k1.below hB
    replace g4 := g4.below hB
    replace k2 := k2.below hB
    replace k3 := k3.below hB
    replace g5 := g5.below hB
    replace k4 := k4.below hB
    replace g6 := g6.below hB
    replace k5 := k5.below hB
    replace g7 := g7.below hB
    replace k6 := k6.below hB
    replace k7 := k7.below hB
    replace hbw := bthen hbw hB
    clear hB
    go_wp2_with fail
    refine (str_any _ _).mono ?_
    rintro _ w36 ⟨rfl, hB⟩
    replace g0 := g0.below hB
    replace g1 := g1.below hB
    replace g2 := g2.below hB
    replace g3 := g3.below hB
    replace k0 := k0.below hB
    replace k1 := k1.below hB
    replace g4 := g4.below hB
    replace k2 := k2.below hB
    replace k3 := k3.below hB
    replace g5 := g5.below hB
    replace k4 := k4.below hB
    replace g6 := g6.below hB
    replace k5 := k5.below hB
    replace g7 := g7.below hB
    replace k6 := k6.below hB
    replace k7 := k7.below hB
    replace hbw := bthen hbw hB
    clear hB
    go_wp2_with fail
    generalize hA : w36.alloc _ = w37
    have hB : Below w36.heap.size w36 w37 := by rw [← hA]; exact (Below.refl _ _).alloc (Nat.le_refl _) _
    have hzw37 : w37.heap.size = w36.heap.size + 1 := by rw [← hA]; simp
    have g8 : GR w37 (.slice (some ⟨w36.heap.size, 0, none⟩) 5 5) [mapT [1, 2, 3, 2], strT [a], seqT [4], strT [122], strT [49, 46, 53]] := by rw [← hA]; exact GR.made2 [(mapT [1, 2, 3, 2], (.slice (some ⟨w28.heap.size + 1, 0, none⟩) 4 4)), (strT [a], .slice none 0 0), (seqT [4], (.slice (some ⟨w32.heap.size, 0, none⟩) 1 1)), (strT [122], .slice none 0 0), (strT [49, 46, 53], .slice none 0 0)] rfl rfl rfl rfl (List.forall_mem_cons.2 ⟨k6, (List.forall_mem_cons.2 ⟨IntsR.nil _ _ _, (List.forall_mem_cons.2 ⟨k7, (List.forall_mem_cons.2 ⟨IntsR.nil _ _ _, (List.forall_mem_cons.2 ⟨IntsR.nil _ _ _, (fun _ h => nomatch h)⟩)⟩)⟩)⟩)⟩)
    replace g0 := g0.below hB
    replace g1 := g1.below hB
    replace g2 := g2.below hB
    replace g3 := g3.below hB
    replace k0 := k0.below hB
    replace k1 := k1.below hB
    replace g4 := g4.below hB
    replace k2 := k2.below hB
    replace k3 := k3.below hB
    replace g5 := g5.below hB
    replace k4 := k4.below hB
    replace g6 := g6.below hB
    replace k5 := k5.below hB
    replace g7 := g7.below hB
    replace k6 := k6.below hB
    replace k7 := k7.below hB
    replace hbw := bthen hbw hB
    clear hA hB
    generalize hA : w37.alloc _ = w38
    have hB : Below w37.heap.size w37 w38 := by rw [← hA]; exact (Below.refl _ _).alloc (Nat.le_refl _) _
    have hzw38 : w38.heap.size = w36.heap.size + 1 + 1 := by rw [← hA]; simp [hzw37]
    have k8 : IntsR w38 (.slice (some ⟨w36.heap.size + 1, 0, none⟩) 2 2) [1, 2] := by rw [← hA]; exact IntsR.made2 hzw37 rfl rfl
    replace g0 := g0.below hB
    replace g1 := g1.below hB
    replace g2 := g2.below hB
    replace g3 := g3.below hB
    replace k0 := k0.below hB
    replace k1 := k1.below hB
    replace g4 := g4.below hB
    replace k2 := k2.below hB
    replace k3 := k3.below hB
    replace g5 := g5.below hB
    replace k4 := k4.below hB
    replace g6 := g6.below hB
    replace k5 := k5.below hB
    replace g7 := g7.below hB
    replace k6 := k6.below hB
    replace k7 := k7.below hB
    replace g8 := g8.below hB
    replace hbw := bthen hbw hB
    clear hA hB
    refine (str_any _ _).mono ?_
    rintro _ w39 ⟨rfl, hB⟩
    replace g0 := g0.below hB
    replace g1 := g1.below hB
    replace g2 := g2.below hB
    replace g3 := g3.below hB
    replace k0 := k0.below hB
    replace k1 := k1.below hB
    replace g4 := g4.below hB
    replace k2 := k2.below hB
    replace k3 := k3.below hB
    replace g5 := g5.below hB
    replace k4 := k4.below hB
    replace g6 := g6.below hB
    replace k5 := k5.below hB
    replace g7 := g7.below hB
    replace k6 := k6.below hB
    replace k7 := k7.below hB
    replace g8 := g8.below hB
    replace k8 := k8.below hB
    replace hbw := bthen hbw hB
    clear hB
    go_wp2_with fail
    generalize hA : w39.alloc _ = w40
    have hB : Below w39.heap.size w39 w40 := by rw [← hA]; exact (Below.refl _ _).alloc (Nat.le_refl _) _
    have hzw40 : w40.heap.size = w39.heap.size + 1 := by rw [← hA]; simp
    have g9 : GR w40 (.slice (some ⟨w39.heap.size, 0, none⟩) 3 3) [⟨3, [33, 116], [], [1, 2]⟩, strT [a], ⟨1, [33, 33, 110, 117, 108, 108], [], []⟩] := by rw [← hA]; exact GR.made2 [(⟨3, [33, 116], [], [1, 2]⟩, (.slice (some ⟨w36.heap.size + 1, 0, none⟩) 2 2)), (strT [a], .slice none 0 0), (⟨1, [33, 33, 110, 117, 108, 108], [], []⟩, (.slice none 0 0))] rfl rfl rfl rfl (List.forall_mem_cons.2 ⟨k8, (List.forall_mem_cons.2 ⟨IntsR.nil _ _ _, (List.forall_mem_cons.2 ⟨IntsR.nil _ _ _, (fun _ h => nomatch h)⟩)⟩)⟩)
    replace g0 := g0.below hB
    replace g1 := g1.below hB
    replace g2 := g2.below hB
    replace g3 := g3.below hB
    replace k0 := k0.below hB
    replace k1 := k1.below hB
    replace g4 := g4.below hB
    replace k2 := k2.below hB
    replace k3 := k3.below hB
    replace g5 := g5.below hB
    replace k4 := k4.below hB
    replace g6 := g6.below hB
    replace k5 := k5.below hB
    replace g7 := g7.below hB
    replace k6 := k6.below hB
    replace k7 := k7.below hB
    replace g8 := g8.below hB
    replace k8 := k8.below hB
    replace hbw := bthen hbw hB
    clear hA hB
    generalize hA : w40.alloc _ = w41
    have hB : Below w40.heap.size w40 w41 := by rw [← hA]; exact (Below.refl _ _).alloc (Nat.le_refl _) _
    have hzw41 : w41.heap.size = w39.heap.size + 1 + 1 := by rw [← hA]; simp [hzw40]
    have k9 : IntsR w41 (.slice (some ⟨w39.heap.size + 1, 0, none⟩) 1 1) [1] := by rw [← hA]; exact IntsR.made2 hzw40 rfl rfl
    replace g0 := g0.below hB
    replace g1 := g1.below hB
    replace g2 := g2.below hB
    replace g3 := g3.below hB
    replace k0 := k0.below hB
    replace k1 := k1.below hB
    replace g4 := g4.below hB
    replace k2 := k2.below hB
    replace k3 := k3.below hB
    replace g5 := g5.below hB
    replace k4 := k4.below hB
    replace g6 := g6.below hB
    replace k5 := k5.below hB
    replace g7 := g7.below hB
    replace k6 := k6.below hB
    replace k7 := k7.below hB
    replace g8 := g8.below hB
    replace k8 := k8.below hB
    replace g9 := g9.below hB
    replace hbw := bthen hbw hB
    clear hA hB
    refine (seq_any _ _ _ _).mono ?_
    rintro _ w42 ⟨rfl, hB⟩
    replace g0 := g0.below hB
    replace g1 := g1.below hB
    replace g2 := g2.below hB
    replace g3 := g3.below hB
    replace k0 := k0.below hB
    replace k1 := k1.below hB
    replace g4 := g4.below hB
    replace k2 := k2.below hB
    replace k3 := k3.below hB
    replace g5 := g5.below hB
    replace k4 := k4.below hB
    replace g6 := g6.below hB
    replace k5 := k5.below hB
    replace g7 := g7.below hB
    replace k6 := k6.below hB
    replace k7 := k7.below hB
    replace g8 := g8.below hB
    replace k8 := k8.below hB
    replace g9 := g9.below hB
    replace k9 := k9.below hB
    replace hbw := bthen hbw hB
    clear hB
    go_wp2_with fail
    generalize hA : w42.alloc _ = w43
    have hB : Below w42.heap.size w42 w43 := by rw [← hA]; exact (Below.refl _ _).alloc (Nat.le_refl _) _
    have hzw43 : w43.heap.size = w42.heap.size + 1 := by rw [← hA]; simp
    have g10 : GR w43 (.slice (some ⟨w42.heap.size, 0, none⟩) 2 2) [seqT [1], ⟨1, [33, 33, 105, 110, 116], [49, 50], []⟩] := by rw [← hA]; exact GR.made2 [(seqT [1], (.slice (some ⟨w39.heap.size + 1, 0, none⟩) 1 1)), (⟨1, [33, 33, 105, 110, 116], [49, 50], []⟩, (.slice none 0 0))] rfl rfl rfl rfl (List.forall_mem_cons.2 ⟨k9, (List.forall_mem_cons.2 ⟨IntsR.nil _ _ _, (fun _ h => nomatch h)⟩)⟩)
    replace g0 := g0.below hB
    replace g1 := g1.below hB
    replace g2 := g2.below hB
    replace g3 := g3.below hB
    replace k0 := k0.below hB
    replace k1 := k1.below hB
    replace g4 := g4.below hB
    replace k2 := k2.below hB
    replace k3 := k3.below hB
    replace g5 := g5.below hB
    replace k4 := k4.below hB
    replace g6 := g6.below hB
    replace k5 := k5.below hB
    replace g7 := g7.below hB
    replace k6 := k6.below hB
    replace k7 := k7.below hB
    replace g8 := g8.below hB
    replace k8 := k8.below hB
    replace g9 := g9.below hB
    replace k9 := k9.below hB
    replace hbw := bthen hbw hB
    clear hA hB
    generalize hA : w43.alloc _ = w44
    have hB : Below w43.heap.size w43 w44 := by rw [← hA]; exact (Below.refl _ _).alloc (Nat.le_refl _) _
    have hzw44 : w44.heap.size = w42.heap.size + 1 + 1 := by rw [← hA]; simp [hzw43]
    have k10 : IntsR w44 (.slice (some ⟨w42.heap.size + 1, 0, none⟩) 1 1) [1] := by rw [← hA]; exact IntsR.made2 hzw43 rfl rfl
    replace g0 := g0.below hB
    replace g1 := g1.below hB
    replace g2 := g2.below hB
    replace g3 := g3.below hB
    replace k0 := k0.below hB
    replace k1 := k1.below hB
    replace g4 := g4.below hB
    replace k2 := k2.below hB
    replace k3 := k3.below hB
    replace g5 := g5.below hB
    replace k4 := k4.below hB
    replace g6 := g6.below hB
    replace k5 := k5.below hB
    replace g7 := g7.below hB
    replace k6 := k6.below hB
    replace k7 := k7.below hB
    replace g8 := g8.below hB
    replace k8 := k8.below hB
    replace g9 := g9.below hB
    replace k9 := k9.below hB
    replace g10 := g10.below hB
    replace hbw := bthen hbw hB
    clear hA hB
    refine (seq_any _ _ _ _).mono ?_
    rintro _ w45 ⟨rfl, hB⟩
    replace g0 := g0.below hB
    replace g1 := g1.below hB
    replace g2 := g2.below hB
    replace g3 := g3.below hB
    replace k0 := k0.below hB
    replace k1 := k1.below hB
    replace g4 := g4.below hB
    replace k2 := k2.below hB
    replace k3 := k3.below hB
    replace g5 := g5.below hB
    replace k4 := k4.below hB
    replace g6 := g6.below hB
    replace k5 := k5.below hB
    replace g7 := g7.below hB
    replace k6 := k6.below hB
    replace k7 := k7.below hB
    replace g8 := g8.below hB
    replace k8 := k8.below hB
    replace g9 := g9.below hB
    replace k9 := k9.below hB
    replace g10 := g10.below hB
    replace k10 := k10.below hB
    replace hbw := bthen hbw hB
    clear hB
    go_wp2_with fail
    generalize hA : w45.alloc _ = w46
    have hB : Below w45.heap.size w45 w46 := by rw [← hA]; exact (Below.refl _ _).alloc (Nat.le_refl _) _
    have hzw46 : w46.heap.size = w45.heap.size + 1 := by rw [← hA]; simp
    have g11 : GR w46 (.slice (some ⟨w45.heap.size, 0, none⟩) 2 2) [seqT [1], ⟨2, [33, 121], [], []⟩] := by rw [← hA]; exact GR.made2 [(seqT [1], (.slice (some ⟨w42.heap.size + 1, 0, none⟩) 1 1)), (⟨2, [33, 121], [], []⟩, (.slice none 0 0))] rfl rfl rfl rfl (List.forall_mem_cons.2 ⟨k10, (List.forall_mem_cons.2 ⟨IntsR.nil _ _ _, (fun _ h => nomatch h)⟩)⟩)
    replace g0 := g0.below hB
    replace g1 := g1.below hB
    replace g2 := g2.below hB
    replace g3 := g3.below hB
    replace k0 := k0.below hB
    replace k1 := k1.below hB
    replace g4 := g4.below hB
    replace k2 := k2.below hB
    replace k3 := k3.below hB
    replace g5 := g5.below hB
    replace k4 := k4.below hB
    replace g6 := g6.below hB
    replace k5 := k5.below hB
    replace g7 := g7.below hB
    replace k6 := k6.below hB
    replace k7 := k7.below hB
    replace g8 := g8.below hB
    replace k8 := k8.below hB
    replace g9 := g9.below hB
    replace k9 := k9.below hB
    replace g10 := g10.below hB
    replace k10 := k10.below hB
    replace hbw := bthen hbw hB
    clear hA hB
    have hp : (List.zip (rendTab a) ([(.slice (some ⟨w1.heap.size, 0, none⟩) 1 1), (.slice (some ⟨w3.heap.size, 0, none⟩) 1 1), (.slice (some ⟨w5.heap.size, 0, none⟩) 1 1), (.slice (some ⟨w7.heap.size, 0, none⟩) 1 1), (.slice (some ⟨w14.heap.size, 0, none⟩) 4 4), (.slice (some ⟨w21.heap.size, 0, none⟩) 4 4), (.slice (some ⟨w25.heap.size, 0, none⟩) 2 2), (.slice (some ⟨w28.heap.size, 0, none⟩) 1 1), (.slice (some ⟨w36.heap.size, 0, none⟩) 5 5), (.slice (some ⟨w39.heap.size, 0, none⟩) 3 3), (.slice (some ⟨w42.heap.size, 0, none⟩) 2 2), (.slice (some ⟨w45.heap.size, 0, none⟩) 2 2)] : List Value)).map (·.1) = rendTab a := rfl
    generalize hA : w46.alloc _ = wE
    have hE : EntAt wE (w45.heap.size + 1) (List.zip (rendTab a) ([(.slice (some ⟨w1.heap.size, 0, none⟩) 1 1), (.slice (some ⟨w3.heap.size, 0, none⟩) 1 1), (.slice (some ⟨w5.heap.size, 0, none⟩) 1 1), (.slice (some ⟨w7.heap.size, 0, none⟩) 1 1), (.slice (some ⟨w14.heap.size, 0, none⟩) 4 4), (.slice (some ⟨w21.heap.size, 0, none⟩) 4 4), (.slice (some ⟨w25.heap.size, 0, none⟩) 2 2), (.slice (some ⟨w28.heap.size, 0, none⟩) 1 1), (.slice (some ⟨w36.heap.size, 0, none⟩) 5 5), (.slice (some ⟨w39.heap.size, 0, none⟩) 3 3), (.slice (some ⟨w42.heap.size, 0, none⟩) 2 2), (.slice (some ⟨w45.heap.size, 0, none⟩) 2 2)] : List Value)) := by
      rw [← hA]
      exact EntAt.made _ hzw46 (by simp only [HS1.out, HS2.out, HS3.out, HS4.out, HS5.out, HS6.out, HS7.out, HS8.out, HS9.out, HS10.out, HS11.out, HS12.out, HS13.out, HS14.out, HS15.out]; rfl) (List.forall_mem_cons.2 ⟨g0, List.forall_mem_cons.2 ⟨g1, List.forall_mem_cons.2 ⟨g2, List.forall_mem_cons.2 ⟨g3, List.forall_mem_cons.2 ⟨g4, List.forall_mem_cons.2 ⟨g5, List.forall_mem_cons.2 ⟨g6, List.forall_mem_cons.2 ⟨g7, List.forall_mem_cons.2 ⟨g8, List.forall_mem_cons.2 ⟨g9, List.forall_mem_cons.2 ⟨g10, List.forall_mem_cons.2 ⟨g11, fun _ h => nomatch h⟩⟩⟩⟩⟩⟩⟩⟩⟩⟩⟩⟩)
    have hB : Below w46.heap.size w46 wE := by rw [← hA]; exact (Below.refl _ _).alloc (Nat.le_refl _) _
    replace hbw := bthen hbw hB
    clear hA hB
    go_wp2_with fail
    go_meet
    exact ⟨rfl, rfl, rfl, _, _, rfl, hE, hp, hbw⟩
  case rest =>
    obtain ⟨rfl, rfl, rfl, E, ps, rfl, hE, hp, hbw⟩ := hcut
    have hpl : ps.length = 12 := by rw [← List.length_map (f := fun p : Ent => p.1), hp]; rfl
    have HP := Lib.hid hp
    clear hp hx1 hx2 HS1 HS2 HS3 HS4 HS5 HS6 HS7 HS8 HS9 HS10 HS11 HS12 HS13 HS14 HS15
    go_wp2_with fail
    go_loopw [2, 135] (fun r i wr => r = .bool false ∧ ∃ k : Nat, i = .int .i64 k ∧ k ≤ 12 ∧ EntAt wr E ps ∧ Below w.heap.size w wr) (fun _ i _ => 12 - (intOf i).toNat)
    case atStart => exact ⟨rfl, 0, rfl, by omega, hE, hbw⟩
    case round =>
      obtain ⟨rfl, k, rfl, hk, hEr, hbr⟩ := hrel
      clear hE hbw
      by_cases hlt : k < 12
      · obtain ⟨p, hpk⟩ : ∃ p, ps[k]? = some p := ⟨_, List.getElem?_eq_getElem (by omega)⟩
        obtain ⟨hg, c0, c1, c2⟩ := hEr k p hpk
        have hto := rend_at HOK.out HP.out hpk
        obtain ⟨⟨g, t, u⟩, vg⟩ := p
        dsimp only at hg c0 c1 c2 hto
        obtain ⟨A, cp, rfl⟩ := hg.shape
        have cr := fun W (h : Below wr.heap.size wr W) => told_ren hto _ W (hT.below (bthen hbr h)) (hg.below h)
        have ci := fun W (h : Below wr.heap.size wr W) => told_inl hto _ W (hT.below (bthen hbr h)) (hg.below h)
        have hu1 : u = [] ∨ (u ≠ [] ∧ u.isEmpty = false) := by cases u <;> simp
        have HB := Lib.hid hbr
        have HE := Lib.hid hEr
        have HK := Lib.hid hlt
        have hb1 : ∀ o, Below wr.heap.size wr (wr.alloc o) := fun o => (Below.refl _ _).alloc (Nat.le_refl _) o
        dsimp only at cr ci
        clear hto hg hpk hEr hbr
        go_wp2_with fail
        generalize hA : wr.alloc _ = wA
        have d0 : wA.cell? ⟨wr.heap.size, 0, none⟩ = some (.slice A g.length cp) := by rw [← hA, World.cell?_alloc_at _ _ _ _ rfl]; rfl
        have d1 : wA.cell? ⟨wr.heap.size, 1, none⟩ = some (.string ⟨t.toArray⟩) := by rw [← hA, World.cell?_alloc_at _ _ _ _ rfl]; rfl
        have d2 : wA.cell? ⟨wr.heap.size, 2, none⟩ = some (.string ⟨u.toArray⟩) := by rw [← hA, World.cell?_alloc_at _ _ _ _ rfl]; rfl
        have hb : Below wr.heap.size wr wA := by rw [← hA]; exact hb1 _
        clear hA hb1 c0 c1 c2 hlt
        refine (cr wA hb).mono ?_
        rintro _ w1 ⟨rfl, hb2⟩
        replace d0 := pw_cell hb2 d0
        replace d1 := pw_cell hb2 d1
        replace d2 := pw_cell hb2 d2
        replace hb := bthen hb hb2
        clear hb2 cr
        go_wp2_with fail
        refine (ci w1 hb).mono ?_
        rintro _ w2 ⟨rfl, hb2⟩
        replace d0 := pw_cell hb2 d0
        replace d1 := pw_cell hb2 d1
        replace d2 := pw_cell hb2 d2
        replace hb := bthen hb hb2
        clear hb2 ci
        rcases hu1 with rfl | ⟨hu2, hu3⟩
        · go_wp2_with fail
          exact ⟨⟨rfl, k + 1, by go_num, HK.out, HE.out.below hb, bthen HB.out hb⟩, by simp [intOf]; have := HK.out; omega⟩
        · rw [if_neg hu2]
          go_wp2_with fail
          exact ⟨⟨rfl, k + 1, by go_num, HK.out, HE.out.below hb, bthen HB.out hb⟩, by simp [intOf]; have := HK.out; omega⟩
      · have hge : (12 : Int) ≤ k := by omega
        obtain rfl : k = 12 := by omega
        clear hEr
        go_wp2_with fail
        refine (wakes19_any wr (hT.below hbr)).mono ?_
        rintro _ w5 ⟨rfl, hb5⟩
        replace hb5 := bthen hbr hb5
        clear hbr
        go_wp2
        go_ret
        exact ⟨rfl, hb5⟩
end Go.Proofs.YtghigiapfmlkbaaGreatDoor
