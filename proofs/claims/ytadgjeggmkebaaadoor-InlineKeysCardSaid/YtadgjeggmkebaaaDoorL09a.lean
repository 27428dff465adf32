/- scholiumlaw09.StyleKeys: the walk. -/
import Derived.Test.YtadgjeggmkebaaaDoorS1
namespace Go.Proofs.YtadgjeggmkebaaaDoor
open Go.RowKit

theorem wake1 : chooseB [116, 114, 117, 101] false = [34, 116, 114, 117, 101, 34] := by decide +kernel
theorem wake2 : chooseB [97] true = [97] := by decide +kernel
theorem long_key : ∀ n : Nat, n < 131 → 126 ≤ n → ∀ flow, (keyB (List.replicate n 107) flow).2 = decide (n ≤ 128) := by decide +kernel

theorem wakes09_any (w : World) (hT : Tabs w) : Calls Tryd.prog 17 #[] w fun e w' => e = .returned (.bool true) ∧ Below w.heap.size w w' := by
  have c1 := choose_any ⟨#[116, 114, 117, 101]⟩ false w hT (by decide)
  have c2 := fun W (h : Tabs W) => choose_any ⟨#[97]⟩ true W h (by decide)
  rw [show sl ⟨#[116, 114, 117, 101]⟩ = [116, 114, 117, 101] from rfl, wake1] at c1
  rw [show sl ⟨#[97]⟩ = [97] from rfl, wake2] at c2
  go_enter Tryd.func17, Tryd.ntmps17
  go_wp2_with fail
  refine c1.mono ?_
  rintro e w1 ⟨rfl, hb1⟩
  have c2 := c2 w1 (hT.below hb1)
  clear c1
  go_wp2_with fail
  refine c2.mono ?_
  rintro e w2 ⟨rfl, hb2⟩
  go_wp2
  go_ret
  exact ⟨rfl, bthen hb1 hb2⟩
theorem key_facts (l : Bs) (flow : Bool) : (keyB l flow).2 = (!(chooseB l flow).isEmpty && decide ((chooseB l flow).length ≤ 128)) ∧ ((keyB l flow).2 = true → (keyB l flow).1 = chooseB l flow) := by
  unfold keyB
  cases h1 : (chooseB l flow).isEmpty <;> by_cases h2 : 128 < (chooseB l flow).length <;> simp [h2] <;> omega
theorem rep_snoc (k : Nat) : List.replicate (k + 1) (107 : UInt8) = List.replicate k 107 ++ [107] := by
  rw [List.replicate_succ']

set_option maxRecDepth 100000 in
set_option maxHeartbeats 1000000 in
theorem StyleKeys_walk (s : ByteArray) (n : Int) (flow : Bool) (w : World) (hT : Tabs w) (hs : s.size ≤ 140737488351232) (h1 : -9223372036854775808 ≤ n) (h2 : n ≤ 9223372036854775807) :
    Calls Tryd.prog 3 #[.string s, .int .i64 n, .bool flow] w fun e w' => e = .returned (.bool true) ∧ Below w.heap.size w w' := by
  have ct : ∀ W, Calls Tryd.prog 13 #[.string s, .int .i64 60] W fun e w' => e = .returned (.string ⟨((sl s).take 60).toArray⟩) ∧ W = w' := fun W => text_any s 60 W hs (by omega)
  obtain ⟨t, ht⟩ : ∃ t, (sl s).take 60 = t := ⟨_, rfl⟩
  have htl : t.length ≤ 60 := by rw [← ht, List.length_take]; omega
  rw [ht] at ct
  have ck := key_any ⟨t.toArray⟩ flow w hT (by rw [mk_size]; omega)
  have cc := fun W (h : Tabs W) => choose_any ⟨t.toArray⟩ flow W h (by rw [mk_size]; omega)
  rw [sl_mk] at ck cc
  have hkf := key_facts t flow
  clear ht
  go_enter Tryd.func3, Tryd.ntmps3
  go_wp2_with (go_at_call 13; refine (ct _).mono ?_; rintro e w' ⟨rfl, rfl⟩)
  refine ck.mono ?_
  rintro e w1 ⟨rfl, hb1⟩
  have cc := cc w1 (hT.below hb1)
  clear ck ct
  generalize (keyB t flow).1 = K at *
  generalize (keyB t flow).2 = ok at *
  generalize chooseB t flow = C at *
  go_wp2_with fail
  refine cc.mono ?_
  rintro e w2 ⟨rfl, hb2⟩
  have hb := bthen hb1 hb2
  have hT2 := hT.below hb
  clear cc hb1 hb2 hT
  obtain ⟨hk1, hk2⟩ := hkf
  have hem : (⟨C.toArray⟩ : ByteArray).toList.isEmpty = C.isEmpty := by rw [sl_empty, sl_mk]
  have hcase : (ok = true ∧ K = C ∧ C.isEmpty = false ∧ C.length ≤ 128) ∨ (ok = false ∧ C.isEmpty = true) ∨ (ok = false ∧ C.isEmpty = false ∧ ¬ C.length ≤ 128) := by
    cases ok
    · cases hce : C.isEmpty
      · rw [hce] at hk1
        refine .inr (.inr ⟨rfl, rfl, ?_⟩)
        simp at hk1
        omega
      · exact .inr (.inl ⟨rfl, rfl⟩)
    · refine .inl ⟨rfl, hk2 rfl, ?_⟩
      simp at hk1
      refine ⟨by simpa using hk1.1, by omega⟩
  have hw := within_any n 5
  have hv0 := Int.emod_nonneg n (show (5 : Int) ≠ 0 by omega)
  have hv5 := Int.emod_lt_of_pos n (show (0 : Int) < 5 by omega)
  generalize n % 5 = v at *
  clear hk1 hk2
  rcases hcase with ⟨rfl, rfl, h3, h4⟩ | ⟨rfl, h3⟩ | ⟨rfl, h3, h4⟩
  case' inl =>
    have h5 : decide (K.length ≤ 128) = true := decide_eq_true h4
    have h6 : decide ((K.length : Int) ≤ 128) = true := decide_eq_true (by omega)
  case' inr.inr =>
    have h5 : decide (C.length ≤ 128) = false := decide_eq_false h4
    have h6 : decide ((C.length : Int) ≤ 128) = false := decide_eq_false (by omega)
  all_goals
    rw [h3] at hem
    go_wp2_with (go_at_call 16; refine (hw _ h1 h2 (by omega) (by omega)).mono ?_; rintro e w' ⟨rfl, rfl⟩)
    clear hw
    go_loop [10, 11] (fun a b => ∃ i : Nat, (i : Int) ≤ 126 + v ∧ a = .string ⟨(List.replicate i (107 : UInt8)).toArray⟩ ∧ b = .int .i64 i) (fun _ b => (126 + v - intOf b).toNat)
    case atStart => exact ⟨0, by omega, rfl, rfl⟩
    case round =>
      obtain ⟨i, hi, rfl, rfl⟩ := hrel
      by_cases hlt : (i : Int) < 126 + v
      · have hap := bytes_app (List.replicate i 107) [107]
        rw [← rep_snoc] at hap
        have hll : (List.replicate i (107 : UInt8)).length ≤ 131 := by simp; omega
        have HAP := Lib.hid hap
        clear hap
        generalize List.replicate i (107 : UInt8) = x at *
        go_wp2
        go_round
        case rel => exact ⟨i + 1, by omega, by rw [← HAP.out], by go_num⟩
        case measure => simp [intOf]; omega
      · have hik : (i : Int) = 126 + v := by omega
        have hl := long_key i (by omega) (by omega) flow
        have ck := key_any ⟨(List.replicate i (107 : UInt8)).toArray⟩ flow w2 hT2 (by rw [mk_size]; simp; omega)
        rw [sl_mk, hl] at ck
        have hwk := fun W (h : Tabs W) => wakes09_any W h
        have hd : decide ((126 : Int) + v ≤ 128) = decide (i ≤ 128) := by rw [Bool.eq_iff_iff]; simp; omega
        have hik2 : (i : Nat) ≤ 130 := by omega
        clear hl hik
        generalize (keyB (List.replicate i 107) flow).1 = K2 at *
        generalize List.replicate i (107 : UInt8) = x at *
        generalize decide (i ≤ 128) = dd at *
        go_wp2_with fail
        refine ck.mono ?_
        rintro e w3 ⟨rfl, hb3⟩
        have hb := bthen hb hb3
        have hwk := hwk w3 (hT2.below hb3)
        clear ck hb3
        cases dd
        all_goals
          go_wp2_with fail
          refine hwk.mono ?_
          rintro e w4 ⟨rfl, hb4⟩
          go_wp2
          go_ret
          exact ⟨rfl, bthen hb hb4⟩
end Go.Proofs.YtadgjeggmkebaaaDoor
