/- scholiumlaw12.InlineDeep: the walk. -/
import Derived.Test.YtadgjeggmkebaaaDoorI22
import Derived.Test.YtadgjeggmkebaaaDoorS1
namespace Go.Proofs.YtadgjeggmkebaaaDoor
open Go.RowKit

def opn (mp : Bool) (i : Nat) : Bs := (List.replicate i (if mp then [123, 97, 58, 32] else [91])).flatten
def cls (mp : Bool) (i : Nat) : Bs := List.replicate i (if mp then 125 else 93)
theorem opn_snoc (mp : Bool) (i : Nat) : opn mp (i + 1) = opn mp i ++ (if mp then [123, 97, 58, 32] else [91]) := by simp [opn, List.replicate_succ']
theorem cls_cons (mp : Bool) (i : Nat) : cls mp (i + 1) = (if mp then [125] else [93]) ++ cls mp i := by cases mp <;> simp [cls, List.replicate_succ]
theorem opn_len (mp : Bool) (i : Nat) : i ≤ (opn mp i).length ∧ (opn mp i).length ≤ 4 * i := by
  induction i with
  | zero => simp [opn]
  | succ i ih => rw [opn_snoc, List.length_append]; cases mp <;> simp <;> omega
theorem cls_len (mp : Bool) (i : Nat) : (cls mp i).length = i := by simp [cls]
def deepOk (mp : Bool) (n : Nat) : Bool :=
  let r := parseR (opn mp n ++ [120] ++ cls mp n) false
  if 64 < n then r.2 == 3 && r.1.length == 0 else r.2 == 0 && decide (n + 1 ≤ r.1.length) && decide (r.1.length ≤ 1000)
theorem deepOk_is (mp : Bool) (n : Nat) (h : deepOk mp n = true) : (64 < n → (parseR (opn mp n ++ [120] ++ cls mp n) false).2 = 3 ∧ (parseR (opn mp n ++ [120] ++ cls mp n) false).1.length = 0) ∧ (¬ 64 < n → (parseR (opn mp n ++ [120] ++ cls mp n) false).2 = 0 ∧ n + 1 ≤ (parseR (opn mp n ++ [120] ++ cls mp n) false).1.length ∧ (parseR (opn mp n ++ [120] ++ cls mp n) false).1.length ≤ 1000) := by
  unfold deepOk at h
  dsimp only at h
  constructor
  · intro h64
    rw [if_pos h64] at h
    simpa using h
  · intro h64
    rw [if_neg h64] at h
    simp only [Bool.and_eq_true, beq_iff_eq, decide_eq_true_eq] at h
    exact ⟨h.1.1, h.1.2, h.2⟩
theorem deep_ok : ∀ mp : Bool, ∀ n, n < 66 → 63 ≤ n → deepOk mp n = true := by decide +kernel

set_option maxRecDepth 100000 in
set_option maxHeartbeats 1000000 in
theorem InlineDeep_in (n : Int) (mp : Bool) (w : World) (hT : Tabs w) (h1 : -9223372036854775808 ≤ n) (h2 : n ≤ 9223372036854775807) :
    Calls Tryd.prog 9 #[.int .i64 n, .bool mp] w fun e w' => e = .returned (.bool true) ∧ Below w.heap.size w w' := by
  have hw := within_any n 3
  have hv0 := Int.emod_nonneg n (show (3 : Int) ≠ 0 by omega)
  have hv5 := Int.emod_lt_of_pos n (show (0 : Int) < 3 by omega)
  have hw := fun W => hw W h1 h2 (by omega) (by omega)
  generalize n % 3 = v at *
  cases mp
  case false =>
    go_enter Tryd.func9, Tryd.ntmps9
    go_wp2_with (go_at_call 16; refine (hw _).mono ?_; rintro e w' ⟨rfl, rfl⟩)
    clear hw
    go_loop [5, 6, 7] (fun a b c => ∃ i : Nat, (i : Int) ≤ 63 + v ∧ a = .string ⟨(opn false i).toArray⟩ ∧ b = .string ⟨(cls false i).toArray⟩ ∧ c = .int .i64 i) (fun _ _ c => (63 + v - intOf c).toNat)
    case atStart => exact ⟨0, by omega, rfl, rfl, rfl⟩
    case round =>
      obtain ⟨i, hi, rfl, rfl, rfl⟩ := hrel
      by_cases hlt : (i : Int) < 63 + v
      · have ha := bytes_app (opn false i) [91]
        have hb := bytes_app [93] (cls false i)
        rw [show opn false i ++ [91] = opn false (i + 1) from (opn_snoc false i).symm] at ha
        rw [show [93] ++ cls false i = cls false (i + 1) from (cls_cons false i).symm] at hb
        have hal := opn_len false i
        have hbl := cls_len false i
        have HA := Lib.hid ha
        have HB := Lib.hid hb
        have HBL : (cls false i).length ≤ 66 := by omega
        have HAL : (opn false i).length ≤ 300 := by omega
        clear ha hb hal hbl
        generalize opn false i = x at *
        generalize cls false i = y at *
        go_wp2
        go_round
        case rel => exact ⟨i + 1, by omega, by rw [← HA.out], by rw [← HB.out], by go_num⟩
        case measure => simp [intOf]; omega
      · have hik : (i : Int) = 63 + v := by omega
        obtain ⟨hd1, hd2⟩ := deepOk_is false i (deep_ok false i (by omega) (by omega))
        have hal := opn_len false i
        have hbl := cls_len false i
        have HBL : (cls false i).length ≤ 66 := by omega
        have HAL : (opn false i).length ≤ 300 := by omega
        have cp := parse_any (opn false i ++ [120] ++ cls false i) false w hT (by simp only [List.length_append, List.length_singleton]; omega) (fun _ _ => .inl (by simp only [List.length_append, List.length_singleton]; omega))
        have hstr : (⟨(opn false i).toArray⟩ : ByteArray) ++ ⟨#[120]⟩ ++ ⟨(cls false i).toArray⟩ = ⟨(opn false i ++ [120] ++ cls false i).toArray⟩ := by
          rw [show (⟨#[120]⟩ : ByteArray) = ⟨([120] : Bs).toArray⟩ from rfl, bytes_app, bytes_app]
        rw [← hstr] at cp
        have HD1 := Lib.hid hd1
        have HD2 := Lib.hid hd2
        clear hd1 hd2 hstr hal hbl
        generalize parseR (opn false i ++ [120] ++ cls false i) false = V at *
        generalize opn false i = x at *
        generalize cls false i = y at *
        obtain ⟨m, e⟩ := V
        dsimp only at cp
        go_wp2_with fail
        refine cp.mono ?_
        rintro _ w1 ⟨vv, rfl, hnl, hb1⟩
        clear cp
        obtain ⟨A, cap, rfl⟩ := hnl.shape
        have cwk := wakes12_any w1 (hT.below hb1)
        by_cases h64 : 64 < i
        · have hgt : (64 : Int) < 63 + v := by omega
          obtain ⟨he, hm⟩ := HD1.out h64
          subst he
          rw [hm]
          clear HD1 HD2 h64 hik hm
          go_wp2_with fail
          refine cwk.mono ?_
          rintro _ w2 ⟨rfl, hb2⟩
          go_wp2
          go_ret
          exact ⟨rfl, bthen hb1 hb2⟩
        · have hgt : (63 : Int) + v ≤ 64 := by omega
          obtain ⟨he, hm, hm2⟩ := HD2.out h64
          subst he
          have hge : (63 : Int) + v + 1 ≤ (m.length : Int) := by omega
          clear HD1 HD2 h64 hik
          go_wp2_with fail
          refine cwk.mono ?_
          rintro _ w2 ⟨rfl, hb2⟩
          go_wp2
          go_ret
          exact ⟨rfl, bthen hb1 hb2⟩
  case true =>
    go_enter Tryd.func9, Tryd.ntmps9
    go_wp2_with (go_at_call 16; refine (hw _).mono ?_; rintro e w' ⟨rfl, rfl⟩)
    clear hw
    go_loop [5, 6, 7] (fun a b c => ∃ i : Nat, (i : Int) ≤ 63 + v ∧ a = .string ⟨(opn true i).toArray⟩ ∧ b = .string ⟨(cls true i).toArray⟩ ∧ c = .int .i64 i) (fun _ _ c => (63 + v - intOf c).toNat)
    case atStart => exact ⟨0, by omega, rfl, rfl, rfl⟩
    case round =>
      obtain ⟨i, hi, rfl, rfl, rfl⟩ := hrel
      by_cases hlt : (i : Int) < 63 + v
      · have ha := bytes_app (opn true i) [123, 97, 58, 32]
        have hb := bytes_app [125] (cls true i)
        rw [show opn true i ++ [123, 97, 58, 32] = opn true (i + 1) from (opn_snoc true i).symm] at ha
        rw [show [125] ++ cls true i = cls true (i + 1) from (cls_cons true i).symm] at hb
        have hal := opn_len true i
        have hbl := cls_len true i
        have HA := Lib.hid ha
        have HB := Lib.hid hb
        have HBL : (cls true i).length ≤ 66 := by omega
        have HAL : (opn true i).length ≤ 300 := by omega
        clear ha hb hal hbl
        generalize opn true i = x at *
        generalize cls true i = y at *
        go_wp2
        go_round
        case rel => exact ⟨i + 1, by omega, by rw [← HA.out], by rw [← HB.out], by go_num⟩
        case measure => simp [intOf]; omega
      · have hik : (i : Int) = 63 + v := by omega
        obtain ⟨hd1, hd2⟩ := deepOk_is true i (deep_ok true i (by omega) (by omega))
        have hal := opn_len true i
        have hbl := cls_len true i
        have HBL : (cls true i).length ≤ 66 := by omega
        have HAL : (opn true i).length ≤ 300 := by omega
        have cp := parse_any (opn true i ++ [120] ++ cls true i) false w hT (by simp only [List.length_append, List.length_singleton]; omega) (fun _ _ => .inl (by simp only [List.length_append, List.length_singleton]; omega))
        have hstr : (⟨(opn true i).toArray⟩ : ByteArray) ++ ⟨#[120]⟩ ++ ⟨(cls true i).toArray⟩ = ⟨(opn true i ++ [120] ++ cls true i).toArray⟩ := by
          rw [show (⟨#[120]⟩ : ByteArray) = ⟨([120] : Bs).toArray⟩ from rfl, bytes_app, bytes_app]
        rw [← hstr] at cp
        have HD1 := Lib.hid hd1
        have HD2 := Lib.hid hd2
        clear hd1 hd2 hstr hal hbl
        generalize parseR (opn true i ++ [120] ++ cls true i) false = V at *
        generalize opn true i = x at *
        generalize cls true i = y at *
        obtain ⟨m, e⟩ := V
        dsimp only at cp
        go_wp2_with fail
        refine cp.mono ?_
        rintro _ w1 ⟨vv, rfl, hnl, hb1⟩
        clear cp
        obtain ⟨A, cap, rfl⟩ := hnl.shape
        have cwk := wakes12_any w1 (hT.below hb1)
        by_cases h64 : 64 < i
        · have hgt : (64 : Int) < 63 + v := by omega
          obtain ⟨he, hm⟩ := HD1.out h64
          subst he
          rw [hm]
          clear HD1 HD2 h64 hik hm
          go_wp2_with fail
          refine cwk.mono ?_
          rintro _ w2 ⟨rfl, hb2⟩
          go_wp2
          go_ret
          exact ⟨rfl, bthen hb1 hb2⟩
        · have hgt : (63 : Int) + v ≤ 64 := by omega
          obtain ⟨he, hm, hm2⟩ := HD2.out h64
          subst he
          have hge : (63 : Int) + v + 1 ≤ (m.length : Int) := by omega
          clear HD1 HD2 h64 hik
          go_wp2_with fail
          refine cwk.mono ?_
          rintro _ w2 ⟨rfl, hb2⟩
          go_wp2
          go_ret
          exact ⟨rfl, bthen hb1 hb2⟩
end Go.Proofs.YtadgjeggmkebaaaDoor
