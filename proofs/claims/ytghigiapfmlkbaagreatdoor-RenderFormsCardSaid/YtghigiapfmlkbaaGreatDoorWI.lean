/- scholiumkeep.Within. -/
import Derived.Test.YtghigiapfmlkbaaGreatDoorD1
namespace Go.Proofs.YtghigiapfmlkbaaGreatDoor
open Go.RowKit

set_option maxHeartbeats 400000 in
theorem within_any (v n : Int) (w : World) (_h1 : -9223372036854775808 ≤ v) (_h2 : v ≤ 9223372036854775807) (hn : 1 ≤ n) (hn2 : n ≤ 1000000) :
    Calls Tryz.prog 11 #[.int .i64 v, .int .i64 n] w fun e w' => e = .returned (.int .i64 (v % n)) ∧ w = w' := by
  have hlo := Int.lt_tmod_of_pos v (show 0 < n by omega)
  have hhi := Int.tmod_lt_of_pos v (show 0 < n by omega)
  have hmod : v % n = if Int.tmod v n < 0 then Int.tmod v n + n else Int.tmod v n := by
    have e := Int.mul_tdiv_add_tmod v n
    conv => lhs; rw [← e]
    rw [Int.add_comm, Int.add_mul_emod_self_left]
    split
    · rw [← Int.add_emod_right, Int.emod_eq_of_lt (by omega) (by omega)]
    · rw [Int.emod_eq_of_lt (by omega) (by omega)]
  have hn0 : ¬ n < 1 := by omega
  have hnz : (n == 0) = false := by simp; omega
  obtain ⟨V, hV⟩ : ∃ V, v % n = V := ⟨_, rfl⟩
  rw [hV] at hmod ⊢
  have HM := Lib.hid hmod
  clear hmod hV
  by_cases h0 : Int.tmod v n < 0
  · have HF : Hid (V = Int.tmod v n + n) := Lib.hid (by rw [HM.out, if_pos h0])
    clear HM
    go_enter Tryz.func11, Tryz.ntmps11
    go_wp2
    go_ret
    exact ⟨by rw [HF.out]; rfl, rfl⟩
  · have HF : Hid (V = Int.tmod v n) := Lib.hid (by rw [HM.out, if_neg h0])
    clear HM
    go_enter Tryz.func11, Tryz.ntmps11
    go_wp2
    go_ret
    exact ⟨by rw [HF.out]; rfl, rfl⟩

end Go.Proofs.YtghigiapfmlkbaaGreatDoor
