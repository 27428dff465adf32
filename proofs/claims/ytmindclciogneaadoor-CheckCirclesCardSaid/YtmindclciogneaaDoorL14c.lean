/- scholiumlaw14.CheckCircles: the walk. -/
import Derived.Test.YtmindclciogneaaDoorK5
import Derived.Test.YtmindclciogneaaDoorI21
import Derived.Test.YtmindclciogneaaDoorWI
namespace Go.Proofs.YtmindclciogneaaDoor
open Go.RowKit
attribute [local go_sem ↓] Go.wp_at_zero Go.wp_at_succ

def lett (i : Nat) : UInt8 := UInt8.ofNat (97 + i)
def opens : Nat → Bs
  | 0 => []
  | k + 1 => opens k ++ [38, lett k, 32, 91]
def closes : Nat → Bs
  | 0 => []
  | k + 1 => closes k ++ [93]
def circle (N i : Nat) : Bs := opens N ++ [42, lett i, 32] ++ closes N
def treeOkC (m : List Nd) : Bool := decide (m.length ≤ 1000000) && decide (sumK m ≤ 1000000) && m.all (fun y => y.kids.all fun k => decide (k < m.length)) && m.all (fun y => decide (y.tag.length ≤ 1000000) && decide (y.anchor.length ≤ 1000000) && decide (y.value.length ≤ 1000000))
theorem treeOkC_is {m : List Nd} (h : treeOkC m = true) : m.length ≤ 1000000 ∧ sumK m ≤ 1000000 ∧ (∀ y ∈ m, ∀ k ∈ y.kids, k < m.length) ∧ (∀ y ∈ m, y.tag.length ≤ 1000000 ∧ y.anchor.length ≤ 1000000 ∧ y.value.length ≤ 1000000) := by
  unfold treeOkC at h
  simp only [Bool.and_eq_true, decide_eq_true_eq, List.all_eq_true] at h
  exact ⟨h.1.1.1, h.1.1.2, fun y hy k hk => h.1.2 y hy k hk, fun y hy => ⟨(h.2 y hy).1.1, (h.2 y hy).1.2, (h.2 y hy).2⟩⟩
def circOk (N i : Nat) : Bool :=
  let V := parseR (circle N i) true
  V.2 == 0 && treeOkC V.1 && ((composeM V.1).2 == 0) && ((composeM V.1).1.length == N) && (((composeM V.1).1[N - 1]?).map (·.kids) == some [i])
theorem circ_ok : ∀ N, N < 7 → ∀ i, i < N → circOk N i = true := by decide +kernel
theorem circ_is {N i : Nat} (h : circOk N i = true) : (parseR (circle N i) true).2 = 0 ∧ treeOkC (parseR (circle N i) true).1 = true ∧ (composeM (parseR (circle N i) true).1).2 = 0 ∧ (composeM (parseR (circle N i) true).1).1.length = N ∧ ∃ t, (composeM (parseR (circle N i) true).1).1[N - 1]? = some t ∧ t.kids = [i] := by
  unfold circOk at h
  simp only [Bool.and_eq_true, beq_iff_eq, Option.map_eq_some_iff] at h
  obtain ⟨⟨⟨⟨h1, h2⟩, h3⟩, h4⟩, h5⟩ := h
  exact ⟨h1, h2, h3, h4, h5⟩
theorem opens_len (k : Nat) : (opens k).length = k * 4 := by
  induction k with
  | zero => rfl
  | succ n ih => rw [opens, List.length_append, ih]; simp; omega
theorem closes_len (k : Nat) : (closes k).length = k := by
  induction k with
  | zero => rfl
  | succ n ih => rw [closes, List.length_append, ih]; rfl
theorem lett_wrap (k : Nat) (h : k < 6) : IntKind.u8.wrap (97 + (k : Int)) = ((lett k).toNat : Int) := by
  match k, h with
  | 0, _ | 1, _ | 2, _ | 3, _ | 4, _ | 5, _ => rfl
theorem lett_str (x : UInt8) (W : World) : (convert 51 9 (.slice (some ⟨W.heap.size, 0, none⟩) 1 1)).run Tryd.prog (W.alloc (.cells #[.int .u8 (x.toNat : Int)] 5)) = .ok (.string ⟨#[x]⟩) (W.alloc (.cells #[.int .u8 (x.toNat : Int)] 5)) := by
  refine conv_str _ 51 9 5 Tryd.underlying51 Tryd.underlying5 Tryd.underlying9 _ 1 [x] (fun _ => ⟨W.heap.size, 0, rfl, fun i hi => ?_⟩)
  rw [World.cell?_alloc_at _ _ _ _ rfl]
  match i, hi with
  | 0, _ => rfl

set_option maxRecDepth 100000 in
set_option maxHeartbeats 2000000 in
theorem CheckCircles_in (n : Int) (w : World) (hT : Tabs w) (hM : Maxl w) (h1 : -9223372036854775808 ≤ n) (h2 : n ≤ 9223372036854775807) :
    Calls Tryd.prog 7 #[.int .i64 n] w fun e w' => e = .returned (.bool true) ∧ Below w.heap.size w w' := by
  have hw := fun W => within_any n 6 W h1 h2 (by omega) (by omega)
  obtain ⟨v, hv⟩ : ∃ v : Nat, n % 6 = v := ⟨(n % 6).toNat, by omega⟩
  have hv6 : v < 6 := by omega
  rw [hv] at hw
  clear hv
  go_enter Tryd.func7, Tryd.ntmps7
  go_wp2_with (go_at_call 11; refine (hw _).mono ?_; rintro e w' ⟨rfl, rfl⟩)
  clear hw h1 h2
  go_loopw [3, 4, 5] (fun a b i wi => ∃ k : Nat, i = .int .i64 k ∧ k ≤ v + 1 ∧ a = .string ⟨(opens k).toArray⟩ ∧ b = .string ⟨(closes k).toArray⟩ ∧ Below w.heap.size w wi) (fun _ _ i _ => v + 1 - (intOf i).toNat)
  case atStart => exact ⟨0, rfl, Nat.zero_le _, rfl, rfl, Below.refl _ _⟩
  case round =>
    obtain ⟨k, rfl, hk, rfl, rfl, hbw⟩ := hrel
    by_cases hlt : k < v + 1
    · have hli : (k : Int) < 1 + v := by omega
      have hwr := lett_wrap k (by omega)
      have hcv := lett_str (lett k)
      have e1 : (⟨(opens (k + 1)).toArray⟩ : ByteArray) = ⟨(opens k).toArray⟩ ++ ⟨#[38]⟩ ++ ⟨#[lett k]⟩ ++ ⟨#[32, 91]⟩ := by
        apply WideShapes.bytes_inj
        simp [opens]
      have e2 : (⟨(closes (k + 1)).toArray⟩ : ByteArray) = ⟨(closes k).toArray⟩ ++ ⟨#[93]⟩ := by
        apply WideShapes.bytes_inj
        simp [closes]
      have s1 : (⟨(opens k).toArray⟩ : ByteArray).size ≤ 1000 := by show (opens k).toArray.size ≤ 1000; rw [List.size_toArray, opens_len]; omega
      have s2 : (⟨(closes k).toArray⟩ : ByteArray).size ≤ 1000 := by show (closes k).toArray.size ≤ 1000; rw [List.size_toArray, closes_len]; omega
      have HE1 := Lib.hid e1
      have HE2 := Lib.hid e2
      have hb2 := hbw.alloc hbw.size (.cells #[.int .u8 ((lett k).toNat : Int)] 5)
      clear e1 e2
      generalize lett k = x at *
      generalize (⟨(opens k).toArray⟩ : ByteArray) = O at *
      generalize (⟨(closes k).toArray⟩ : ByteArray) = C at *
      go_wp2_with fail
      go_roundw
      case rel => exact ⟨k + 1, by go_num, by omega, by rw [HE1.out], by rw [HE2.out], hb2⟩
      case measure => simp [intOf]; omega
    · have hk2 : (k : Int) = 1 + v := by omega
      have hge : ¬ (k : Int) < 1 + v := by omega
      obtain ⟨O, hO⟩ : ∃ O : ByteArray, (⟨(opens k).toArray⟩ : ByteArray) = O := ⟨_, rfl⟩
      obtain ⟨C, hC⟩ : ∃ C : ByteArray, (⟨(closes k).toArray⟩ : ByteArray) = C := ⟨_, rfl⟩
      have s1 : O.size ≤ 1000 := by rw [← hO]; show (opens k).toArray.size ≤ 1000; rw [List.size_toArray, opens_len]; omega
      have s2 : C.size ≤ 1000 := by rw [← hC]; show (closes k).toArray.size ≤ 1000; rw [List.size_toArray, closes_len]; omega
      have HO := Lib.hid hO
      have HC := Lib.hid hC
      have HK := Lib.hid hk2
      rw [hO, hC, hk2]
      clear hO hC hk2
      go_wp2_with fail
      go_loopw [6] (fun i wi => ∃ j : Nat, i = .int .i64 j ∧ j ≤ k ∧ Below w.heap.size w wi) (fun i _ => k - (intOf i).toNat)
      case atStart => exact ⟨0, rfl, Nat.zero_le _, hbw⟩
      case round =>
        obtain ⟨j, rfl, hj, hb1⟩ := hrel
        clear hbw
        by_cases hlt2 : j < k
        · have hjv : (j : Int) < 1 + v := by have := HK.out; omega
          have hwr := lett_wrap j (by omega)
          have hcv := lett_str (lett j)
          obtain ⟨c1, c2, c3, c4, t, c5, c6⟩ := circ_is (circ_ok k (by omega) j hlt2)
          have e1 : (⟨(circle k j).toArray⟩ : ByteArray) = O ++ ⟨#[42]⟩ ++ ⟨#[lett j]⟩ ++ ⟨#[32]⟩ ++ C := by
            rw [← HO.out, ← HC.out]
            apply WideShapes.bytes_inj
            simp [circle]
          have hb2 := hb1.alloc hb1.size (.cells #[.int .u8 ((lett j).toNat : Int)] 5)
          have hsl : (circle k j).length ≤ 140737488351232 := by unfold circle; rw [List.length_append, List.length_append, opens_len, closes_len]; simp; omega
          have cp := parse_all (circle k j) true (wr.alloc (.cells #[.int .u8 ((lett j).toNat : Int)] 5)) (hT.below hb2) (hM.below hb2) hsl
          obtain ⟨k1, k2, k3, k4⟩ := treeOkC_is c2
          rw [e1] at cp
          clear e1 hsl c2 hb1
          generalize parseR (circle k j) true = V at *
          obtain ⟨m, e⟩ := V
          dsimp only at c1 c3 c4 c5 cp k1 k2 k3 k4
          subst c1
          have cc := fun v W (h : TreeR W v m) => compose_any v m W h k1 k2 k3 k4
          clear k1 k2 k3 k4
          generalize composeM m = G at *
          obtain ⟨gs, ce⟩ := G
          dsimp only at cc c3 c4 c5
          subst c3
          generalize lett j = x at *
          go_wp2_with fail
          refine cp.mono ?_
          rintro _ w2 ⟨vv, rfl, hnl, hb3⟩
          have htr := hnl.tree
          obtain ⟨A, cap, rfl⟩ := htr.shape
          replace hb3 := bthen hb2 hb3
          clear hnl cp hwr hcv
          go_wp2_with fail
          refine (cc _ _ htr).mono ?_
          rintro _ w3 ⟨uu, l, rfl, ho, hl, hb4⟩
          replace hb4 := bthen hb3 hb4
          have hll : l.length = k := by rw [← c4, ← hl, List.length_map]
          obtain ⟨g, cap3, rfl, hcap, hrd⟩ := ho.cells (by omega)
          obtain ⟨p, hp, rfl⟩ : ∃ p, l[k - 1]? = some p ∧ p.1 = t := by
            rw [← hl, List.getElem?_map, Option.map_eq_some_iff] at c5
            exact c5
          have hrow := (ho.kids p (List.mem_of_getElem? hp)).ints
          obtain ⟨A4, cap4, hv4⟩ := hrow.shape
          rw [c6] at hrow hv4
          have hc3 := hrd (k - 1) p hp 3 (by omega)
          rw [hll] at hcap ⊢
          have hkv : k - 1 = v := by have := HK.out; omega
          rw [hkv] at hc3
          replace hc3 : w3.cell? ⟨g, v * 4 + 3, none⟩ = some (.slice A4 1 cap4) := by
            rw [hc3, show (thCells p.1 p.2)[3]? = some p.2 from rfl, hv4]
            rfl
          rw [hv4] at hrow
          rcases hrow with ⟨h0, _⟩ | ⟨g4, o4, c9, hv9, hcl⟩
          · cases h0
          · have hA := (Value.slice.inj hv9).1
            subst hA
            have hc4 : w3.cell? ⟨g4, o4, none⟩ = some (.int .i64 (j : Nat)) := hcl 0 (by simp)
            have hkb : ((k : Int) == 1 + (v : Int)) = true := by rw [beq_iff_eq]; exact HK.out
            have hvk : (v : Int) < k := by have := HK.out; omega
            have hvk2 : v < k := by omega
            clear hcl hv9 hv4 hrd ho hl hp c4 c5 c6 hll htr cc hT hM hb3 hkv
            go_wp2
            go_roundw
            case rel => exact ⟨j + 1, by go_num, by omega, hb4⟩
            case measure => simp [intOf]; omega
        · have hge2 : ¬ (j : Int) < 1 + v := by have := HK.out; omega
          go_wp2_with fail
          refine (wakes14_any wr).mono ?_
          rintro _ w5 ⟨rfl, hb5⟩
          go_wp2
          go_ret
          exact ⟨rfl, bthen hb1 hb5⟩
end Go.Proofs.YtmindclciogneaaDoor
