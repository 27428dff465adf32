/- scholiumlaw09.StyleBack: the walk. -/
import Derived.Test.YtadgjeggmkebaaaDoorL09a
import Derived.Test.YtadgjeggmkebaaaDoorD4
import Derived.Test.YtadgjeggmkebaaaDoorP1
namespace Go.Proofs.YtadgjeggmkebaaaDoor
open Go.RowKit

theorem ones_len : ∀ (k : Nat) (l : Bs), (onesB k l).length ≤ 10 * k
  | 0, _ => by simp [onesB]
  | k + 1, l => by
    rw [onesB]
    split
    · simp
    · have h1 := oneB_len (dec l).1
      have h2 := ones_len k (l.drop (dec l).2)
      rw [List.length_append]
      omega
theorem put_len (l : Bs) : (putB l).length ≤ 10 * l.length + 2 := by
  have := ones_len l.length l
  simp only [putB, List.length_append, List.length_singleton]
  omega
theorem put_cons (l : Bs) : (putB l).isEmpty = false := by simp [putB]
theorem choose_cases (t : Bs) (flow : Bool) :
    (chooseB t flow = [] ∧ utfB t = false) ∨
    (chooseB t flow = t ∧ t.isEmpty = false ∧ validB t flow = true ∧ resolveB t = tagStr) ∨
    ((chooseB t flow).isEmpty = false ∧ chooseB t flow ≠ t ∧ takeD (chooseB t flow) = (t, (chooseB t flow).length, true) ∧ (validB t flow && resolveB t == tagStr) = false ∧ (chooseB t flow).length ≤ 10 * t.length + 2) := by
  unfold chooseB
  cases h : validB t flow && resolveB t == tagStr
  · cases hu : utfB t
    · exact .inl ⟨by simp, rfl⟩
    · refine .inr (.inr ⟨by simpa using put_cons t, by simpa using put_ne t hu, by simpa using take_back t hu, rfl, ?_⟩)
      simp only [if_true, Bool.false_eq_true, if_false]
      exact put_len t
  · have h1 : validB t flow = true := by simp at h; exact h.1
    have h2 : resolveB t = tagStr := by simp at h; exact h.2
    refine .inr (.inl ⟨by simp, ?_, h1, h2⟩)
    cases t with
    | nil => rw [valid_nil] at h1; cases h1
    | cons => rfl

set_option maxRecDepth 100000 in
set_option maxHeartbeats 1000000 in
theorem StyleBack_walk (s : ByteArray) (flow : Bool) (w : World) (hT : Tabs w) (hs : s.size ≤ 140737488351232) :
    Calls Tryd.prog 5 #[.string s, .bool flow] w fun e w' => e = .returned (.bool true) ∧ Below w.heap.size w w' := by
  have ct : ∀ W, Calls Tryd.prog 13 #[.string s, .int .i64 80] W fun e w' => e = .returned (.string ⟨((sl s).take 80).toArray⟩) ∧ W = w' := fun W => text_any s 80 W hs (by omega)
  obtain ⟨t, ht⟩ : ∃ t, (sl s).take 80 = t := ⟨_, rfl⟩
  have htl : t.length ≤ 80 := by rw [← ht, List.length_take]; omega
  rw [ht] at ct
  clear ht
  have cc := fun W (h : Tabs W) => choose_any ⟨t.toArray⟩ flow W h (by rw [mk_size]; omega)
  have cp := fun W (h : Tabs W) => put_any ⟨t.toArray⟩ W h (by rw [mk_size]; omega)
  have cv := fun W (h : Tabs W) => valid_any ⟨t.toArray⟩ flow W h (by rw [mk_size]; omega)
  have cr := fun W => resolve_any ⟨t.toArray⟩ W (by rw [mk_size]; omega)
  have hcases := choose_cases t flow
  rw [sl_mk] at cc cp cv cr
  generalize chooseB t flow = C at *
  generalize validB t flow = P at *
  generalize resolveB t = R at *
  go_enter Tryd.func5, Tryd.ntmps5
  go_wp2_with (go_at_call 13; refine (ct _).mono ?_; rintro e w' ⟨rfl, rfl⟩)
  refine (cc _ hT).mono ?_
  rintro e w1 ⟨rfl, hb1⟩
  have hT1 := hT.below hb1
  clear cc ct hT
  have hem : (⟨C.toArray⟩ : ByteArray).toList.isEmpty = C.isEmpty := by rw [sl_empty, sl_mk]
  have hwk := fun W (h : Tabs W) => wakes09_any W h
  rcases hcases with ⟨rfl, hu⟩ | ⟨rfl, hte, rfl, rfl⟩ | ⟨hce, hct, htk, hpr, hcl⟩
  · rw [hu] at cp
    clear cv cr
    go_wp2_with fail
    refine (cp _ hT1).mono ?_
    rintro e w2 ⟨rfl, hb2⟩
    have hb := bthen hb1 hb2
    clear cp
    go_wp2_with fail
    refine (hwk _ (hT1.below hb2)).mono ?_
    rintro e w3 ⟨rfl, hb3⟩
    go_wp2
    go_ret
    exact ⟨rfl, bthen hb hb3⟩
  · rw [hte] at hem
    clear cp
    go_wp2_with fail
    refine (cv _ hT1).mono ?_
    rintro e w2 ⟨rfl, hb2⟩
    have hb := bthen hb1 hb2
    have hT2 := hT1.below hb2
    clear cv
    have cr : ∀ W, Calls Tryd.prog 24 #[.string ⟨C.toArray⟩] W fun e w' => e = .returned (.string ⟨#[33, 33, 115, 116, 114]⟩) ∧ Below W.heap.size W w' := cr
    go_wp2_with fail
    refine (cr _).mono ?_
    rintro e w3 ⟨rfl, hb3⟩
    have hb := bthen hb hb3
    clear cr
    go_wp2_with fail
    refine (hwk _ (hT2.below hb3)).mono ?_
    rintro e w4 ⟨rfl, hb4⟩
    go_wp2
    go_ret
    exact ⟨rfl, bthen hb hb4⟩
  · rw [hce] at hem
    have hct1 : (C == t) = false := by simpa using hct
    obtain ⟨A, c, w2, hconv, hc, hba, hb2⟩ := conv_bytes (P := Tryd.prog) w1 9 37 5 Tryd.underlying9 Tryd.underlying37 Tryd.underlying5 ⟨C.toArray⟩
    rw [sl_mk] at hconv hc hba
    have hb := bthen hb1 hb2
    have hT2 := hT1.below hb2
    have ck := take_any A c C w2 hba hc (by omega)
    rw [htk] at ck
    have hre : ((⟨R.toArray⟩ : ByteArray).toList == [33, 33, 115, 116, 114]) = (R == tagStr) := by rw [Lib.toList_data]; rfl
    have hre2 : (R == [33, 33, 115, 116, 114]) = (R == tagStr) := rfl
    have hHC := Lib.hid hcl
    clear cp hct htk hba hc hb1 hcl
    go_wp2_with fail
    refine ck.mono ?_
    rintro e w3 ⟨rfl, hb3⟩
    have hb := bthen hb hb3
    have hT3 := hT2.below hb3
    clear ck hconv
    go_wp2_with fail
    refine (cv _ hT3).mono ?_
    rintro e w4 ⟨rfl, hb4⟩
    have hb := bthen hb hb4
    have hT4 := hT3.below hb4
    clear cv
    cases P
    case false =>
      clear cr hre hre2 hpr
      go_wp2_with fail
      refine (hwk _ hT4).mono ?_
      rintro e w5 ⟨rfl, hb5⟩
      go_wp2
      go_ret
      exact ⟨rfl, bthen hb hb5⟩
    case true =>
      have hq : (R == tagStr) = false := hpr
      rw [hq] at hre hre2
      clear hpr hq
      go_wp2_with fail
      refine (cr _).mono ?_
      rintro e w5 ⟨rfl, hb5⟩
      have hb := bthen hb hb5
      have hT5 := hT4.below hb5
      clear cr
      go_wp2_with fail
      refine (hwk _ hT5).mono ?_
      rintro e w6 ⟨rfl, hb6⟩
      go_wp2
      go_ret
      exact ⟨rfl, bthen hb hb6⟩
end Go.Proofs.YtadgjeggmkebaaaDoor
