/- style.Choose, Key; scholiumkeep.Text, Within. -/
import Derived.Test.YtadgjeggmkebaaaDoorD2
namespace Go.Proofs.YtadgjeggmkebaaaDoor
open Go.RowKit

theorem str_to (s : ByteArray) (i : Nat) : s.extract 0 i = ⟨((sl s).take i).toArray⟩ := by
  apply WideShapes.bytes_inj
  rw [Lib.extract_data]
  simp [sl]
set_option maxHeartbeats 400000 in
theorem text_any (s : ByteArray) (n : Nat) (w : World) (hs : s.size ≤ 140737488351232) (_hn : n ≤ 1000000) :
    Calls Tryd.prog 13 #[.string s, .int .i64 n] w fun e w' => e = .returned (.string ⟨((sl s).take n).toArray⟩) ∧ w = w' := by
  by_cases h : n ≤ s.size
  · have hx := str_to s n
    rw [← hx]
    clear hx
    have hm : min (s.size : Int) (n : Int) = n := by omega
    go_enter Tryd.func13, Tryd.ntmps13
    go_wp2
    go_ret
    exact ⟨rfl, rfl⟩
  · have hx : (⟨((sl s).take n).toArray⟩ : ByteArray) = s := by rw [List.take_of_length_le (by rw [sl_len]; omega), mk_sl]
    have hx2 : s.extract 0 s.size = s := by rw [str_to, List.take_of_length_le (by rw [sl_len]; omega), mk_sl]
    rw [hx]
    clear hx
    go_enter Tryd.func13, Tryd.ntmps13
    go_wp2
    go_ret
    have hmin : (min (s.size : Int) (n : Int)).toNat = s.size := by omega
    exact ⟨by first | rfl | (rw [hmin, hx2]; rfl) | (rw [hx2]; rfl), rfl⟩
set_option maxHeartbeats 400000 in
theorem within_any (v n : Int) (w : World) (_h1 : -9223372036854775808 ≤ v) (_h2 : v ≤ 9223372036854775807) (hn : 1 ≤ n) (hn2 : n ≤ 1000000) :
    Calls Tryd.prog 16 #[.int .i64 v, .int .i64 n] w fun e w' => e = .returned (.int .i64 (v % n)) ∧ w = w' := by
  have hlo := Int.lt_tmod_of_pos v (show 0 < n by omega)
  have hhi := Int.tmod_lt_of_pos v (show 0 < n by omega)
  have hmod : v % n = if Int.tmod v n < 0 then Int.tmod v n + n else Int.tmod v n := by
    have e := Int.mul_tdiv_add_tmod v n
    conv => lhs; rw [← e]
    rw [Int.add_comm, Int.add_mul_emod_self_left]
    split
    · rw [← Int.add_emod_right, Int.emod_eq_of_lt (by omega) (by omega)]
    · rw [Int.emod_eq_of_lt (by omega) (by omega)]
  have hn0 : ¬ n < 1 := by omega
  have hnz : (n == 0) = false := by simp; omega
  obtain ⟨V, hV⟩ : ∃ V, v % n = V := ⟨_, rfl⟩
  rw [hV] at hmod ⊢
  have HM := Lib.hid hmod
  clear hmod hV
  by_cases h0 : Int.tmod v n < 0
  · have HF : Hid (V = Int.tmod v n + n) := Lib.hid (by rw [HM.out, if_pos h0])
    clear HM
    go_enter Tryd.func16, Tryd.ntmps16
    go_wp2
    go_ret
    exact ⟨by rw [HF.out]; rfl, rfl⟩
  · have HF : Hid (V = Int.tmod v n) := Lib.hid (by rw [HM.out, if_neg h0])
    clear HM
    go_enter Tryd.func16, Tryd.ntmps16
    go_wp2
    go_ret
    exact ⟨by rw [HF.out]; rfl, rfl⟩

set_option maxHeartbeats 400000 in
theorem choose_any (s : ByteArray) (flow : Bool) (w : World) (hT : Tabs w) (hs : s.size ≤ 1000000000) :
    Calls Tryd.prog 15 #[.string s, .bool flow] w fun e w' => e = .returned (.string ⟨(chooseB (sl s) flow).toArray⟩) ∧ Below w.heap.size w w' := by
  have c1 := valid_any s flow w hT (by omega)
  have c2 := fun W => resolve_any s W (by omega)
  have c3 := fun W (h : Tabs W) => put_any s W h hs
  obtain ⟨PB, hPB⟩ : ∃ PB : Bs, (if utfB (sl s) then putB (sl s) else []) = PB := ⟨_, rfl⟩
  rw [hPB] at c3
  obtain ⟨V, hV⟩ : ∃ V, chooseB (sl s) flow = V := ⟨_, rfl⟩
  have HV : Hid ((if validB (sl s) flow && resolveB (sl s) == tagStr then sl s else PB) = V) := Lib.hid (by rw [← hPB]; exact hV)
  rw [hV]
  clear hV hPB
  generalize validB (sl s) flow = p at *
  have hre : ((⟨(resolveB (sl s)).toArray⟩ : ByteArray).toList == [33, 33, 115, 116, 114]) = (resolveB (sl s) == tagStr) := by rw [Lib.toList_data]; rfl
  generalize resolveB (sl s) = R at *
  cases p
  case false =>
    have HF : Hid (PB = V) := Lib.hid (by rw [← HV.out]; simp)
    clear HV hre c2
    go_enter Tryd.func15, Tryd.ntmps15
    go_wp2_with fail
    refine c1.mono ?_
    rintro e w1 ⟨rfl, hb1⟩
    have c3 := c3 w1 (hT.below hb1)
    clear c1
    go_wp2_with fail
    refine c3.mono ?_
    rintro e w2 ⟨rfl, hb2⟩
    clear c3
    go_wp2
    go_ret
    exact ⟨by rw [HF.out]; rfl, bthen hb1 hb2⟩
  case true =>
    go_enter Tryd.func15, Tryd.ntmps15
    go_wp2_with fail
    refine c1.mono ?_
    rintro e w1 ⟨rfl, hb1⟩
    have HRE := Lib.hid hre
    clear c1 hre
    go_wp2_with fail
    refine (c2 _).mono ?_
    rintro e w2 ⟨rfl, hb2⟩
    have hb := bthen hb1 hb2
    clear c2
    cases hq : (R == tagStr)
    case true =>
      have HF : Hid (sl s = V) := Lib.hid (by rw [← HV.out, hq]; simp)
      have hq' : (R == [33, 33, 115, 116, 114]) = true := hq
      clear HV HRE c3 hq
      go_wp2
      go_ret
      exact ⟨by rw [← HF.out, mk_sl]; rfl, hb⟩
    case false =>
      have HF : Hid (PB = V) := Lib.hid (by rw [← HV.out, hq]; simp)
      have hq' : (R == [33, 33, 115, 116, 114]) = false := hq
      have c3 := c3 w2 (hT.below hb)
      clear HV HRE hq
      go_wp2_with fail
      refine c3.mono ?_
      rintro e w3 ⟨rfl, hb3⟩
      clear c3
      go_wp2
      go_ret
      exact ⟨by rw [HF.out]; rfl, bthen hb hb3⟩

/-- Key's answer. -/
theorem key_any (s : ByteArray) (flow : Bool) (w : World) (hT : Tabs w) (hs : s.size ≤ 1000000000) :
    Calls Tryd.prog 14 #[.string s, .bool flow] w fun e w' => e = .returned (.tuple #[.string ⟨(keyB (sl s) flow).1.toArray⟩, .bool (keyB (sl s) flow).2]) ∧ Below w.heap.size w w' := by
  have c1 := choose_any s flow w hT hs
  have HK : Hid (keyB (sl s) flow = if (chooseB (sl s) flow).isEmpty || decide (128 < (chooseB (sl s) flow).length) then ([], false) else (chooseB (sl s) flow, true)) := Lib.hid rfl
  rw [HK.out]
  clear HK
  generalize chooseB (sl s) flow = C at *
  by_cases hc : C.isEmpty = true
  · rw [if_pos (by simp [hc])]
    have hem : (⟨C.toArray⟩ : ByteArray).toList.isEmpty = true := by rw [sl_empty, sl_mk]; exact hc
    go_enter Tryd.func14, Tryd.ntmps14
    go_wp2_with (go_at_call 15; refine c1.mono ?_; rintro e w' ⟨rfl, hb⟩)
    go_ret2
    exact ⟨rfl, hb⟩
  · have hc' : C.isEmpty = false := by simpa using hc
    have hem : (⟨C.toArray⟩ : ByteArray).toList.isEmpty = false := by rw [sl_empty, sl_mk]; exact hc'
    by_cases hl : 128 < C.length
    · rw [if_pos (by simp [hl])]
      have hlb : decide ((128 : Int) < C.length) = true := by simp; omega
      clear hc hl
      go_enter Tryd.func14, Tryd.ntmps14
      go_wp2_with (go_at_call 15; refine c1.mono ?_; rintro e w' ⟨rfl, hb⟩)
      go_ret2
      exact ⟨rfl, hb⟩
    · rw [if_neg (by simp [hc', hl])]
      have hlb : decide ((128 : Int) < C.length) = false := by simp; omega
      clear hc hl
      go_enter Tryd.func14, Tryd.ntmps14
      go_wp2_with (go_at_call 15; refine c1.mono ?_; rintro e w' ⟨rfl, hb⟩)
      go_ret2
      exact ⟨rfl, hb⟩
end Go.Proofs.YtadgjeggmkebaaaDoor
