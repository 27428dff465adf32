/- scholiumlaw12.InlineKeys: the walk. -/
import Derived.Test.YtadgjeggmkebaaaDoorI22
import Derived.Test.YtadgjeggmkebaaaDoorL09a
import Derived.Deep.QuietTactic
import Derived.BigQuiet
import Derived.Deep.RegionWith
import Derived.IntWalk
import Derived.StillTailTactics
namespace Go.Proofs.YtadgjeggmkebaaaDoor
open Go.RowKit

/-- The key of a text in flow. -/
def keyT (q : Bool) (n : Nat) : Bs := if q then [39] ++ List.replicate (n - 2) 107 ++ [39] else List.replicate n 107
def keysOk (q : Bool) (n : Nat) : Bool :=
  let r := parseR ([123] ++ keyT q n ++ [58, 32, 49, 125]) true
  if 128 < n then r.2 == 2 else r.2 == 0 && r.1.length == 3 && (r.1.getD 1 nd0).start + n == (r.1.getD 1 nd0).stop && decide ((r.1.getD 1 nd0).stop ≤ 1000)
theorem keysOk_is (q : Bool) (n : Nat) (h : keysOk q n = true) : (128 < n → (parseR ([123] ++ keyT q n ++ [58, 32, 49, 125]) true).2 = 2) ∧
    (¬ 128 < n → (parseR ([123] ++ keyT q n ++ [58, 32, 49, 125]) true).2 = 0 ∧ (parseR ([123] ++ keyT q n ++ [58, 32, 49, 125]) true).1.length = 3 ∧ ((parseR ([123] ++ keyT q n ++ [58, 32, 49, 125]) true).1.getD 1 nd0).start + n = ((parseR ([123] ++ keyT q n ++ [58, 32, 49, 125]) true).1.getD 1 nd0).stop ∧ ((parseR ([123] ++ keyT q n ++ [58, 32, 49, 125]) true).1.getD 1 nd0).stop ≤ 1000) := by
  unfold keysOk at h
  dsimp only at h
  constructor
  · intro hn
    rw [if_pos hn] at h
    simpa using h
  · intro hn
    rw [if_neg hn] at h
    simp only [Bool.and_eq_true, beq_iff_eq, decide_eq_true_eq] at h
    exact ⟨h.1.1.1, h.1.1.2, h.1.2, h.2⟩
theorem rep_arr (i : Nat) : (⟨Array.replicate i 107⟩ : ByteArray) = ⟨(List.replicate i (107 : UInt8)).toArray⟩ := by simp
theorem keyStr_f (i : Nat) : (⟨#[123]⟩ : ByteArray) ++ ⟨Array.replicate i 107⟩ ++ ⟨#[58, 32, 49, 125]⟩ = ⟨([123] ++ keyT false i ++ [58, 32, 49, 125]).toArray⟩ := by
  rw [rep_arr, show (⟨#[123]⟩ : ByteArray) = ⟨([123] : Bs).toArray⟩ from rfl, show (⟨#[58, 32, 49, 125]⟩ : ByteArray) = ⟨([58, 32, 49, 125] : Bs).toArray⟩ from rfl, bytes_app, bytes_app]
  rfl
theorem keyStr_t (i : Nat) : (⟨#[123]⟩ : ByteArray) ++ ((⟨#[39]⟩ : ByteArray) ++ (⟨Array.replicate i 107⟩ : ByteArray).extract 0 (i - 2) ++ ⟨#[39]⟩) ++ ⟨#[58, 32, 49, 125]⟩ = ⟨([123] ++ keyT true i ++ [58, 32, 49, 125]).toArray⟩ := by
  rw [rep_arr, str_to, sl_mk, List.take_replicate, show (⟨#[123]⟩ : ByteArray) = ⟨([123] : Bs).toArray⟩ from rfl, show (⟨#[39]⟩ : ByteArray) = ⟨([39] : Bs).toArray⟩ from rfl, show (⟨#[58, 32, 49, 125]⟩ : ByteArray) = ⟨([58, 32, 49, 125] : Bs).toArray⟩ from rfl, bytes_app, bytes_app, bytes_app, bytes_app,
    show min (i - 2) i = i - 2 by omega]
  rfl
theorem keys_ok : ∀ q : Bool, ∀ n, n < 131 → 126 ≤ n → keysOk q n = true := by decide +kernel

set_option maxRecDepth 100000 in
set_option maxHeartbeats 1000000 in
theorem InlineKeys_in (n : Int) (quoted : Bool) (w : World) (hT : Tabs w) (h1 : -9223372036854775808 ≤ n) (h2 : n ≤ 9223372036854775807) :
    Calls Tryd.prog 8 #[.int .i64 n, .bool quoted] w fun e w' => e = .returned (.bool true) ∧ Below w.heap.size w w' := by
  have hw := within_any n 5
  have hv0 := Int.emod_nonneg n (show (5 : Int) ≠ 0 by omega)
  have hv5 := Int.emod_lt_of_pos n (show (0 : Int) < 5 by omega)
  have hw := fun W => hw W h1 h2 (by omega) (by omega)
  generalize n % 5 = v at *
  go_enter Tryd.func8, Tryd.ntmps8
  go_wp2_with (go_at_call 16; refine (hw _).mono ?_; rintro e w' ⟨rfl, rfl⟩)
  clear hw
  go_loop [5, 6] (fun a b => ∃ i : Nat, (i : Int) ≤ 126 + v ∧ a = .string ⟨(List.replicate i (107 : UInt8)).toArray⟩ ∧ b = .int .i64 i) (fun _ b => (126 + v - intOf b).toNat)
  case atStart => exact ⟨0, by omega, rfl, rfl⟩
  case round =>
    obtain ⟨i, hi, rfl, rfl⟩ := hrel
    by_cases hlt : (i : Int) < 126 + v
    · have hap := bytes_app (List.replicate i 107) [107]
      rw [← rep_snoc] at hap
      have hll : (List.replicate i (107 : UInt8)).length ≤ 131 := by simp; omega
      have HAP := Lib.hid hap
      clear hap
      generalize List.replicate i (107 : UInt8) = x at *
      go_wp2
      go_round
      case rel => exact ⟨i + 1, by omega, by rw [← HAP.out], by go_num⟩
      case measure => simp [intOf]; omega
    · have hik : (i : Int) = 126 + v := by omega
      obtain ⟨hd1, hd2⟩ := keysOk_is quoted i (keys_ok quoted i (by omega) (by omega))
      have hkl : (keyT quoted i).length = i := by
        cases quoted
        · simp [keyT]
        · simp [keyT]; omega
      have cp := parse_any ([123] ++ keyT quoted i ++ [58, 32, 49, 125]) true w hT (by simp only [List.length_append, hkl]; simp; omega) (fun _ _ => .inl (by simp only [List.length_append, hkl]; simp; omega))
      have hxl : (List.replicate i (107 : UInt8)).length = i := by simp
      have hnat : ((126 : Int) + v - 2) = ((i - 2 : Nat) : Int) := by omega
      cases quoted
      case false =>
        rw [← keyStr_f] at cp
        have HD1 := Lib.hid hd1
        have HD2 := Lib.hid hd2
        clear hd1 hd2 hkl
        generalize parseR ([123] ++ keyT false i ++ [58, 32, 49, 125]) true = V at *
        obtain ⟨m, e⟩ := V
        dsimp only at cp
        go_wp2_with fail
        refine cp.mono ?_
        rintro _ w1 ⟨vv, rfl, hnl, hb1⟩
        clear cp
        have cwk := wakes12_any w1 (hT.below hb1)
        by_cases h128 : 128 < i
        · have hgt : (128 : Int) < 126 + v := by omega
          have he := HD1.out h128
          subst he
          clear HD1 HD2 h128 hik hnat
          go_wp2_with fail
          refine cwk.mono ?_
          rintro _ w2 ⟨rfl, hb2⟩
          go_wp2
          go_ret
          exact ⟨rfl, bthen hb1 hb2⟩
        · have hgt : (126 : Int) + v ≤ 128 := by omega
          obtain ⟨he, hm, hse, hst⟩ := HD2.out h128
          subst he
          obtain ⟨g, cap, rfl, hcap, hrd⟩ := hnl.read (by omega)
          obtain ⟨k1, hk1⟩ := hrd 1 _ (getD_some m 1 (by omega))
          have hc5 : w1.cell? ⟨g, 15, none⟩ = some (.int .i64 ((m.getD 1 nd0).start : Int)) := hk1 5 (by omega)
          have hc6 : w1.cell? ⟨g, 16, none⟩ = some (.int .i64 ((m.getD 1 nd0).stop : Int)) := hk1 6 (by omega)
          have hdiff : (((m.getD 1 nd0).stop : Int) - ((m.getD 1 nd0).start : Int) == 126 + v) = true := by simp only [beq_iff_eq]; omega
          have hstb : ((m.getD 1 nd0).stop : Int) ≤ 1000 ∧ ((m.getD 1 nd0).start : Int) ≤ 1000 := by omega
          rw [hm] at hcap ⊢
          clear HD1 HD2 h128 hik hnat hrd hk1 hnl hm hse hst
          generalize (m.getD 1 nd0).stop = st at *
          generalize (m.getD 1 nd0).start = sa at *
          have hT1 := hT.below hb1
          clear cwk
          go_wp2_with fail
          have hwr : IntKind.i64.wrap ((st : Int) - (sa : Int)) = (st : Int) - (sa : Int) := IntWalk.i64_in _ (by omega)
          go_still_tail 21, (by kernel_rfl)
          clear hwr
          go_wp2_with fail
          refine (wakes12_any _ ?_).mono ?_
          exact hT1.below ((Below.refl _ _).drew)
          rintro _ w2 ⟨rfl, hb2⟩
          go_wp2
          go_ret
          exact ⟨rfl, bthen hb1 (((Below.refl _ _).drew).trans hb2)⟩
      case true =>
        rw [← keyStr_t] at cp
        have HD1 := Lib.hid hd1
        have HD2 := Lib.hid hd2
        clear hd1 hd2 hkl
        generalize parseR ([123] ++ keyT true i ++ [58, 32, 49, 125]) true = V at *
        obtain ⟨m, e⟩ := V
        dsimp only at cp
        go_wp2_with fail
        refine cp.mono ?_
        rintro _ w1 ⟨vv, rfl, hnl, hb1⟩
        clear cp
        have cwk := wakes12_any w1 (hT.below hb1)
        by_cases h128 : 128 < i
        · have hgt : (128 : Int) < 126 + v := by omega
          have he := HD1.out h128
          subst he
          clear HD1 HD2 h128 hik hnat
          go_wp2_with fail
          refine cwk.mono ?_
          rintro _ w2 ⟨rfl, hb2⟩
          go_wp2
          go_ret
          exact ⟨rfl, bthen hb1 hb2⟩
        · have hgt : (126 : Int) + v ≤ 128 := by omega
          obtain ⟨he, hm, hse, hst⟩ := HD2.out h128
          subst he
          obtain ⟨g, cap, rfl, hcap, hrd⟩ := hnl.read (by omega)
          obtain ⟨k1, hk1⟩ := hrd 1 _ (getD_some m 1 (by omega))
          have hc5 : w1.cell? ⟨g, 15, none⟩ = some (.int .i64 ((m.getD 1 nd0).start : Int)) := hk1 5 (by omega)
          have hc6 : w1.cell? ⟨g, 16, none⟩ = some (.int .i64 ((m.getD 1 nd0).stop : Int)) := hk1 6 (by omega)
          have hdiff : (((m.getD 1 nd0).stop : Int) - ((m.getD 1 nd0).start : Int) == 126 + v) = true := by simp only [beq_iff_eq]; omega
          have hstb : ((m.getD 1 nd0).stop : Int) ≤ 1000 ∧ ((m.getD 1 nd0).start : Int) ≤ 1000 := by omega
          rw [hm] at hcap ⊢
          clear HD1 HD2 h128 hik hnat hrd hk1 hnl hm hse hst
          generalize (m.getD 1 nd0).stop = st at *
          generalize (m.getD 1 nd0).start = sa at *
          have hT1 := hT.below hb1
          clear cwk
          go_wp2_with fail
          have hwr : IntKind.i64.wrap ((st : Int) - (sa : Int)) = (st : Int) - (sa : Int) := IntWalk.i64_in _ (by omega)
          go_still_tail 21, (by kernel_rfl)
          clear hwr
          go_wp2_with fail
          refine (wakes12_any _ ?_).mono ?_
          exact hT1.below ((Below.refl _ _).drew)
          rintro _ w2 ⟨rfl, hb2⟩
          go_wp2
          go_ret
          exact ⟨rfl, bthen hb1 (((Below.refl _ _).drew).trans hb2)⟩
end Go.Proofs.YtadgjeggmkebaaaDoor
