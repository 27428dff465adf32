/- style.Choose, Key, Best. -/
import Derived.Test.YtghigiapfmlkbaaGreatDoorD2
import Derived.Test.YtghigiapfmlkbaaGreatDoorWI
namespace Go.Proofs.YtghigiapfmlkbaaGreatDoor
open Go.RowKit

set_option maxHeartbeats 400000 in
theorem choose_any (s : ByteArray) (flow : Bool) (w : World) (hT : Tabs w) (hs : s.size ≤ 1000000000) :
    Calls Tryz.prog 89 #[.string s, .bool flow] w fun e w' => e = .returned (.string ⟨(chooseB (sl s) flow).toArray⟩) ∧ Below w.heap.size w w' := by
  have c1 := valid_any s flow w hT (by omega)
  have c2 := fun W => resolve_any s W (by omega)
  have c3 := fun W (h : Tabs W) => put_any s W h hs
  obtain ⟨PB, hPB⟩ : ∃ PB : Bs, (if utfB (sl s) then putB (sl s) else []) = PB := ⟨_, rfl⟩
  rw [hPB] at c3
  obtain ⟨V, hV⟩ : ∃ V, chooseB (sl s) flow = V := ⟨_, rfl⟩
  have HV : Hid ((if validB (sl s) flow && resolveB (sl s) == tagStr then sl s else PB) = V) := Lib.hid (by rw [← hPB]; exact hV)
  rw [hV]
  clear hV hPB
  generalize validB (sl s) flow = p at *
  have hre : ((⟨(resolveB (sl s)).toArray⟩ : ByteArray).toList == [33, 33, 115, 116, 114]) = (resolveB (sl s) == tagStr) := by rw [Lib.toList_data]; rfl
  generalize resolveB (sl s) = R at *
  cases p
  case false =>
    have HF : Hid (PB = V) := Lib.hid (by rw [← HV.out]; simp)
    clear HV hre c2
    go_enter Tryz.func89, Tryz.ntmps89
    go_wp2_with fail
    refine c1.mono ?_
    rintro e w1 ⟨rfl, hb1⟩
    have c3 := c3 w1 (hT.below hb1)
    clear c1
    go_wp2_with fail
    refine c3.mono ?_
    rintro e w2 ⟨rfl, hb2⟩
    clear c3
    go_wp2
    go_ret
    exact ⟨by rw [HF.out]; rfl, bthen hb1 hb2⟩
  case true =>
    go_enter Tryz.func89, Tryz.ntmps89
    go_wp2_with fail
    refine c1.mono ?_
    rintro e w1 ⟨rfl, hb1⟩
    have HRE := Lib.hid hre
    clear c1 hre
    go_wp2_with fail
    refine (c2 _).mono ?_
    rintro e w2 ⟨rfl, hb2⟩
    have hb := bthen hb1 hb2
    clear c2
    cases hq : (R == tagStr)
    case true =>
      have HF : Hid (sl s = V) := Lib.hid (by rw [← HV.out, hq]; simp)
      have hq' : (R == [33, 33, 115, 116, 114]) = true := hq
      clear HV HRE c3 hq
      go_wp2
      go_ret
      exact ⟨by rw [← HF.out, mk_sl]; rfl, hb⟩
    case false =>
      have HF : Hid (PB = V) := Lib.hid (by rw [← HV.out, hq]; simp)
      have hq' : (R == [33, 33, 115, 116, 114]) = false := hq
      have c3 := c3 w2 (hT.below hb)
      clear HV HRE hq
      go_wp2_with fail
      refine c3.mono ?_
      rintro e w3 ⟨rfl, hb3⟩
      clear c3
      go_wp2
      go_ret
      exact ⟨by rw [HF.out]; rfl, bthen hb hb3⟩

/-- Key's answer. -/
theorem key_any (s : ByteArray) (flow : Bool) (w : World) (hT : Tabs w) (hs : s.size ≤ 1000000000) :
    Calls Tryz.prog 94 #[.string s, .bool flow] w fun e w' => e = .returned (.tuple #[.string ⟨(keyB (sl s) flow).1.toArray⟩, .bool (keyB (sl s) flow).2]) ∧ Below w.heap.size w w' := by
  have c1 := choose_any s flow w hT hs
  have HK : Hid (keyB (sl s) flow = if (chooseB (sl s) flow).isEmpty || decide (128 < (chooseB (sl s) flow).length) then ([], false) else (chooseB (sl s) flow, true)) := Lib.hid rfl
  rw [HK.out]
  clear HK
  generalize chooseB (sl s) flow = C at *
  by_cases hc : C.isEmpty = true
  · rw [if_pos (by simp [hc])]
    have hem : (⟨C.toArray⟩ : ByteArray).toList.isEmpty = true := by rw [sl_empty, sl_mk]; exact hc
    go_enter Tryz.func94, Tryz.ntmps94
    go_wp2_with (go_at_call 89; refine c1.mono ?_; rintro e w' ⟨rfl, hb⟩)
    go_ret2
    exact ⟨rfl, hb⟩
  · have hc' : C.isEmpty = false := by simpa using hc
    have hem : (⟨C.toArray⟩ : ByteArray).toList.isEmpty = false := by rw [sl_empty, sl_mk]; exact hc'
    by_cases hl : 128 < C.length
    · rw [if_pos (by simp [hl])]
      have hlb : decide ((128 : Int) < C.length) = true := by simp; omega
      clear hc hl
      go_enter Tryz.func94, Tryz.ntmps94
      go_wp2_with (go_at_call 89; refine c1.mono ?_; rintro e w' ⟨rfl, hb⟩)
      go_ret2
      exact ⟨rfl, hb⟩
    · rw [if_neg (by simp [hc', hl])]
      have hlb : decide ((128 : Int) < C.length) = false := by simp; omega
      clear hc hl
      go_enter Tryz.func94, Tryz.ntmps94
      go_wp2_with (go_at_call 89; refine c1.mono ?_; rintro e w' ⟨rfl, hb⟩)
      go_ret2
      exact ⟨rfl, hb⟩
end Go.Proofs.YtghigiapfmlkbaaGreatDoor

/- style.Best. -/
namespace Go.Proofs.YtghigiapfmlkbaaGreatDoor
open Go.RowKit

theorem ones_le : ∀ (k : Nat) (l : Bs), (onesB k l).length ≤ 10 * k
  | 0, _ => by simp [onesB]
  | k + 1, l => by
    rw [onesB]
    split
    · simp
    · have h1 := oneB_len (dec l).1
      have h2 := ones_le k (l.drop (dec l).2)
      rw [List.length_append]
      omega
theorem put_le (l : Bs) : (putB l).length ≤ 10 * l.length + 2 := by
  have := ones_le l.length l
  simp only [putB, List.length_append, List.length_singleton]
  omega

set_option maxRecDepth 20000 in
set_option maxHeartbeats 400000 in
theorem best_any (T l : Bs) (flow : Bool) (w : World) (hT : Tabs w) (hs : l.length ≤ 1000000) (htl : T.length ≤ 1000000) :
    Calls Tryz.prog 57 #[.string ⟨T.toArray⟩, .string ⟨l.toArray⟩, .bool flow] w fun e w' => e = .returned (.tuple #[.string ⟨(bestB T l flow).1.toArray⟩, .bool (bestB T l flow).2]) ∧ Below w.heap.size w w' := by
  have cc := choose_any ⟨l.toArray⟩ flow w hT (by rw [mk_size]; omega)
  have cr := resolve_any ⟨l.toArray⟩ w (by rw [mk_size]; omega)
  have cv := fun W (h : Tabs W) => valid_any ⟨l.toArray⟩ flow W h (by rw [mk_size]; omega)
  have cp := fun W (h : Tabs W) => put_any ⟨l.toArray⟩ W h (by rw [mk_size]; omega)
  rw [sl_mk] at cc cr cv cp
  obtain ⟨V, hV⟩ : ∃ V, bestB T l flow = V := ⟨_, rfl⟩
  rw [hV]
  unfold bestB at hV
  have hput := put_le l
  have happ : utfB l = true → (⟨T.toArray⟩ : ByteArray) ++ ⟨#[32]⟩ ++ ⟨(putB l).toArray⟩ = ⟨(T ++ [32] ++ putB l).toArray⟩ := fun _ => by
    rw [show (⟨#[32]⟩ : ByteArray) = ⟨([32] : Bs).toArray⟩ from rfl, bytes_app, bytes_app]
  have hre : ((⟨T.toArray⟩ : ByteArray).toList == [33, 33, 115, 116, 114]) = (T == tagStr) := by rw [Lib.toList_data]; simp [tagStr]
  have hre2 : (T == [33, 33, 115, 116, 114]) = (T == tagStr) := rfl
  have HV := Lib.hid hV
  clear hV
  generalize chooseB l flow = C at *
  generalize resolveB l = R at *
  generalize validB l flow = P at *
  have hem : (⟨C.toArray⟩ : ByteArray).toList.isEmpty = C.isEmpty := by rw [sl_empty, sl_mk]
  cases hq : (T == tagStr)
  case true =>
    rw [hq] at hre hre2
    have HF : Hid (V = (C, !C.isEmpty)) := Lib.hid (by rw [← HV.out, hq]; rfl)
    have HEM := Lib.hid hem
    clear HV hq cr cv cp happ hput hem
    cases hce : C.isEmpty
    all_goals
      have hem : (⟨C.toArray⟩ : ByteArray).toList.isEmpty = _ := HEM.out.trans hce
      rw [hce] at HF
      have HCE := Lib.hid hce
      clear hce
      go_enter Tryz.func57, Tryz.ntmps57
      go_wp2_with fail
      refine cc.mono ?_
      rintro e w1 ⟨rfl, hb1⟩
      have hce := HCE.out
      clear cc
      go_wp2
      go_ret2
      exact ⟨by rw [HF.out]; rfl, hb1⟩
  case false =>
    rw [hq] at hre hre2
    have HV2 : Hid ((if R == T && P then (l, true) else if utfB l then (T ++ [32] ++ putB l, true) else ([], false)) = V) := Lib.hid (by rw [← HV.out, hq]; rfl)
    clear HV hq cc hem
    cases hr : (R == T)
    case true =>
      have HR := Lib.hid hr
      clear hr
      cases P
      case true =>
        have HF : Hid (V = (l, true)) := Lib.hid (by rw [← HV2.out, HR.out]; rfl)
        clear HV2 cp happ hput
        go_enter Tryz.func57, Tryz.ntmps57
        go_wp2_with fail
        refine cr.mono ?_
        rintro e w1 ⟨rfl, hb1⟩
        have hr := HR.out
        clear cr
        go_wp2_with fail
        refine (cv _ (hT.below hb1)).mono ?_
        rintro e w2 ⟨rfl, hb2⟩
        go_wp2
        go_ret2
        exact ⟨by rw [HF.out]; rfl, bthen hb1 hb2⟩
      case false =>
        have HV3 : Hid ((if utfB l then (T ++ [32] ++ putB l, true) else ([], false)) = V) := Lib.hid (by rw [← HV2.out, HR.out]; rfl)
        have HA := Lib.hid happ
        clear HV2 happ
        generalize utfB l = u at *
        cases u
        all_goals
          simp only [if_true, if_false, Bool.false_eq_true] at cp
          go_enter Tryz.func57, Tryz.ntmps57
          go_wp2_with fail
          refine cr.mono ?_
          rintro e w1 ⟨rfl, hb1⟩
          have hr := HR.out
          clear cr
          go_wp2_with fail
          refine (cv _ (hT.below hb1)).mono ?_
          rintro e w2 ⟨rfl, hb2⟩
          have hb := bthen hb1 hb2
          clear cv hr
          go_wp2_with fail
          refine (cp _ (hT.below hb)).mono ?_
          rintro e w3 ⟨rfl, hb3⟩
          clear cp
          go_wp2
          go_ret2
          first
            | exact ⟨by rw [← HV3.out]; rfl, bthen hb hb3⟩
            | exact ⟨by rw [← HV3.out, if_pos rfl, ← HA.out rfl]; rfl, bthen hb hb3⟩
    case false =>
      have HR := Lib.hid hr
      have HV3 : Hid ((if utfB l then (T ++ [32] ++ putB l, true) else ([], false)) = V) := Lib.hid (by rw [← HV2.out, HR.out]; rfl)
      have HA := Lib.hid happ
      clear HV2 happ cv hr
      generalize utfB l = u at *
      cases u
      all_goals
        simp only [if_true, if_false, Bool.false_eq_true] at cp
        go_enter Tryz.func57, Tryz.ntmps57
        go_wp2_with fail
        refine cr.mono ?_
        rintro e w1 ⟨rfl, hb1⟩
        have hr := HR.out
        clear cr
        go_wp2_with fail
        refine (cp _ (hT.below hb1)).mono ?_
        rintro e w3 ⟨rfl, hb3⟩
        clear cp hr
        go_wp2
        go_ret2
        first
          | exact ⟨by rw [← HV3.out]; rfl, bthen hb1 hb3⟩
          | exact ⟨by rw [← HV3.out, if_pos rfl, ← HA.out rfl]; rfl, bthen hb1 hb3⟩
end Go.Proofs.YtghigiapfmlkbaaGreatDoor
