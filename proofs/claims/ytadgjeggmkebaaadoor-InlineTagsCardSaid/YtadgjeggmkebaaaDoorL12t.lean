/- scholiumlaw12.InlineTags: the walk. -/
import Derived.Test.YtadgjeggmkebaaaDoorI22
import Derived.Test.YtadgjeggmkebaaaDoorS1
import Derived.Deep.RegionWith
import Derived.Deep.DeepCutAuto
import Derived.Deep.DrawnRows
import Derived.IntWalk
import Derived.WalkLawsBesides
namespace Go.Proofs.YtadgjeggmkebaaaDoor
open Go.RowKit
attribute [local go_sem ↓] Go.wp_at_zero Go.wp_at_succ

theorem int_tag : tagB 1 1 [] [49, 50] = [33, 33, 105, 110, 116] := by decide +kernel
theorem str_tag : tagB 1 3 [] [49, 50] = [33, 33, 115, 116, 114] := by decide +kernel
/-- The kinds, one by one. -/
def kindOf (v : Nat) : Int := if v = 0 then 2 else if v = 1 then 3 else if v = 2 then 4 else if v = 3 then 0 else 1
theorem kinds_at (v : Nat) (h : v < 5) : (#[.int .i64 2, .int .i64 3, .int .i64 4, .int .i64 0, .int .i64 1] : Array Value)[v]? = some (.int .i64 (kindOf v)) := by
  match v, h with
  | 0, _ => rfl
  | 1, _ => rfl
  | 2, _ => rfl
  | 3, _ => rfl
  | 4, _ => rfl

set_option maxRecDepth 100000 in
set_option maxHeartbeats 4000000 in
theorem InlineTags_in (n : Int) (s : ByteArray) (w : World) (hT : Tabs w) (h1 : -9223372036854775808 ≤ n) (h2 : n ≤ 9223372036854775807) (hs : s.size ≤ 140737488351232) :
    Calls Tryd.prog 7 #[.int .i64 n, .string s] w fun e w' => e = .returned (.bool true) ∧ Below w.heap.size w w' := by
  have ct : ∀ W, Calls Tryd.prog 13 #[.string s, .int .i64 20] W fun e w' => e = .returned (.string ⟨((sl s).take 20).toArray⟩) ∧ W = w' := fun W => text_any s 20 W hs (by omega)
  obtain ⟨t, ht⟩ : ∃ t, (sl s).take 20 = t := ⟨_, rfl⟩
  have htl : t.length ≤ 20 := by rw [← ht, List.length_take]; omega
  rw [ht] at ct
  clear ht
  have hw1 := fun W => within_any n 5 W h1 h2 (by omega) (by omega)
  have e5 := Int.mul_tdiv_add_tmod n 5
  have a5 := Int.lt_tmod_of_pos n (show (0 : Int) < 5 by omega)
  have b5 := Int.tmod_lt_of_pos n (show (0 : Int) < 5 by omega)
  have hw2 := fun W => within_any (n.tdiv 5) 6 W (by omega) (by omega) (by omega) (by omega)
  have hwr := IntWalk.i64_in (n.tdiv 5) (by omega)
  have hw2 : ∀ W, Calls Tryd.prog 16 #[.int .i64 (IntKind.i64.wrap (n.tdiv 5)), .int .i64 6] W fun e w' => e = .returned (.int .i64 (n.tdiv 5 % 6)) ∧ W = w' := fun W => by rw [hwr]; exact hw2 W
  clear e5 a5 b5 hwr
  have hs0 := Int.emod_nonneg (n.tdiv 5) (show (6 : Int) ≠ 0 by omega)
  have hs6 := Int.emod_lt_of_pos (n.tdiv 5) (show (0 : Int) < 6 by omega)
  obtain ⟨v, hv⟩ : ∃ v : Nat, n % 5 = v := ⟨(n % 5).toNat, by omega⟩
  have hv5 : v < 5 := by omega
  rw [hv] at hw1
  clear hv
  generalize n.tdiv 5 % 6 = st at *
  have hvi : (v : Int) < 5 := by omega
  have hv0 : (0 : Int) ≤ v := by omega
  have hk := kinds_at v hv5
  have hcell : (w.alloc (.cells #[.int .i64 2, .int .i64 3, .int .i64 4, .int .i64 0, .int .i64 1] 3)).cell? ⟨w.heap.size, v, none⟩ = some (.int .i64 (kindOf v)) := by
    rw [World.cell?_alloc_at _ _ _ _ rfl]
    exact hk
  go_enter Tryd.func7, Tryd.ntmps7
  go_wp2_with (go_at_call 13; refine (ct _).mono ?_; rintro e w' ⟨rfl, rfl⟩)
  clear ct
  go_upto_region 2 with fail
  go_cut [5, 6] (fun k s wx => k = .int .i64 (kindOf v) ∧ s = .int .i64 st ∧ Below w.heap.size w wx)
  case first =>
    go_region_with
      ((first
        | (go_at_call 16; (with_reducible refine (hw1 _).mono ?_); rintro _ w' ⟨rfl, rfl⟩; dsimp only)
        | (go_at_call 16; (with_reducible refine (hw2 _).mono ?_); rintro _ w' ⟨rfl, rfl⟩; dsimp only)))
    all_goals
      go_wp2_with fail
      go_meet
      exact ⟨rfl, rfl, ((Below.refl _ _).drew).alloc (by simp) _⟩
  case rest =>
    obtain ⟨rfl, rfl, hb0⟩ := hcut
    clear hw1 hw2 hk hcell hvi hv0
    have hT0 := hT.below hb0
    rcases (by omega : v = 0 ∨ v = 1 ∨ v = 2 ∨ v = 3 ∨ v = 4) with rfl | rfl | rfl | rfl | rfl
    · have hkv : kindOf 0 = 2 := rfl
      rw [hkv]
      clear hkv hv5
      have c_own : ∀ W, Calls Tryd.prog 28 #[.int .i64 2, .int .i64 st, .string ⟨#[33, 111, 119, 110]⟩, .string ⟨t.toArray⟩] W fun e w' => e = .returned (.string ⟨#[33, 111, 119, 110]⟩) ∧ Below W.heap.size W w' := fun W => tag_any 2 st [33, 111, 119, 110] t W (fun _ _ => by omega)
      have c_none : ∀ W, Calls Tryd.prog 28 #[.int .i64 2, .int .i64 st, .string ⟨#[]⟩, .string ⟨t.toArray⟩] W fun e w' => e = .returned (.string ⟨#[33, 33, 115, 101, 113]⟩) ∧ Below W.heap.size W w' := fun W => tag_any 2 st [] t W (fun _ _ => by omega)
      have c_sign : ∀ W, Calls Tryd.prog 28 #[.int .i64 2, .int .i64 st, .string ⟨#[33]⟩, .string ⟨t.toArray⟩] W fun e w' => e = .returned (.string ⟨#[33, 33, 115, 101, 113]⟩) ∧ Below W.heap.size W w' := fun W => tag_any 2 st [33] t W (fun _ _ => by omega)
      go_wp2_with fail
      refine (c_own _).mono ?_
      rintro _ wa ⟨rfl, hba⟩
      go_wp2_with fail
      refine (c_none _).mono ?_
      rintro _ wb ⟨rfl, hbb⟩
      go_wp2_with fail
      refine (c_sign _).mono ?_
      rintro _ wd ⟨rfl, hbd⟩
      have hb := bthen (bthen (bthen hb0 hba) hbb) hbd
      clear c_own c_none c_sign
      go_wp2_with fail
      refine (wakes12_any _ (hT.below hb)).mono ?_
      rintro _ we ⟨rfl, hbe⟩
      go_wp2
      go_ret
      exact ⟨rfl, bthen hb hbe⟩
    · have hkv : kindOf 1 = 3 := rfl
      rw [hkv]
      clear hkv hv5
      have c_own : ∀ W, Calls Tryd.prog 28 #[.int .i64 3, .int .i64 st, .string ⟨#[33, 111, 119, 110]⟩, .string ⟨t.toArray⟩] W fun e w' => e = .returned (.string ⟨#[33, 111, 119, 110]⟩) ∧ Below W.heap.size W w' := fun W => tag_any 3 st [33, 111, 119, 110] t W (fun _ _ => by omega)
      have c_none : ∀ W, Calls Tryd.prog 28 #[.int .i64 3, .int .i64 st, .string ⟨#[]⟩, .string ⟨t.toArray⟩] W fun e w' => e = .returned (.string ⟨#[33, 33, 109, 97, 112]⟩) ∧ Below W.heap.size W w' := fun W => tag_any 3 st [] t W (fun _ _ => by omega)
      have c_sign : ∀ W, Calls Tryd.prog 28 #[.int .i64 3, .int .i64 st, .string ⟨#[33]⟩, .string ⟨t.toArray⟩] W fun e w' => e = .returned (.string ⟨#[33, 33, 109, 97, 112]⟩) ∧ Below W.heap.size W w' := fun W => tag_any 3 st [33] t W (fun _ _ => by omega)
      go_wp2_with fail
      refine (c_own _).mono ?_
      rintro _ wa ⟨rfl, hba⟩
      go_wp2_with fail
      refine (c_none _).mono ?_
      rintro _ wb ⟨rfl, hbb⟩
      go_wp2_with fail
      refine (c_sign _).mono ?_
      rintro _ wd ⟨rfl, hbd⟩
      have hb := bthen (bthen (bthen hb0 hba) hbb) hbd
      clear c_own c_none c_sign
      go_wp2_with fail
      refine (wakes12_any _ (hT.below hb)).mono ?_
      rintro _ we ⟨rfl, hbe⟩
      go_wp2
      go_ret
      exact ⟨rfl, bthen hb hbe⟩
    · have hkv : kindOf 2 = 4 := rfl
      rw [hkv]
      clear hkv hv5
      have c_own : ∀ W, Calls Tryd.prog 28 #[.int .i64 4, .int .i64 st, .string ⟨#[33, 111, 119, 110]⟩, .string ⟨t.toArray⟩] W fun e w' => e = .returned (.string ⟨#[33, 111, 119, 110]⟩) ∧ Below W.heap.size W w' := fun W => tag_any 4 st [33, 111, 119, 110] t W (fun _ _ => by omega)
      have c_none : ∀ W, Calls Tryd.prog 28 #[.int .i64 4, .int .i64 st, .string ⟨#[]⟩, .string ⟨t.toArray⟩] W fun e w' => e = .returned (.string ⟨#[]⟩) ∧ Below W.heap.size W w' := fun W => tag_any 4 st [] t W (fun _ _ => by omega)
      have c_sign : ∀ W, Calls Tryd.prog 28 #[.int .i64 4, .int .i64 st, .string ⟨#[33]⟩, .string ⟨t.toArray⟩] W fun e w' => e = .returned (.string ⟨#[]⟩) ∧ Below W.heap.size W w' := fun W => tag_any 4 st [33] t W (fun _ _ => by omega)
      go_wp2_with fail
      refine (c_own _).mono ?_
      rintro _ wa ⟨rfl, hba⟩
      go_wp2_with fail
      refine (c_none _).mono ?_
      rintro _ wb ⟨rfl, hbb⟩
      go_wp2_with fail
      refine (c_sign _).mono ?_
      rintro _ wd ⟨rfl, hbd⟩
      have hb := bthen (bthen (bthen hb0 hba) hbb) hbd
      clear c_own c_none c_sign
      go_wp2_with fail
      refine (wakes12_any _ (hT.below hb)).mono ?_
      rintro _ we ⟨rfl, hbe⟩
      go_wp2
      go_ret
      exact ⟨rfl, bthen hb hbe⟩
    · have hkv : kindOf 3 = 0 := rfl
      rw [hkv]
      clear hkv hv5
      have c_own : ∀ W, Calls Tryd.prog 28 #[.int .i64 0, .int .i64 st, .string ⟨#[33, 111, 119, 110]⟩, .string ⟨t.toArray⟩] W fun e w' => e = .returned (.string ⟨#[33, 111, 119, 110]⟩) ∧ Below W.heap.size W w' := fun W => tag_any 0 st [33, 111, 119, 110] t W (fun _ _ => by omega)
      have c_none : ∀ W, Calls Tryd.prog 28 #[.int .i64 0, .int .i64 st, .string ⟨#[]⟩, .string ⟨t.toArray⟩] W fun e w' => e = .returned (.string ⟨#[33, 33, 110, 117, 108, 108]⟩) ∧ Below W.heap.size W w' := fun W => tag_any 0 st [] t W (fun _ _ => by omega)
      have c_sign : ∀ W, Calls Tryd.prog 28 #[.int .i64 0, .int .i64 st, .string ⟨#[33]⟩, .string ⟨t.toArray⟩] W fun e w' => e = .returned (.string ⟨#[33, 33, 115, 116, 114]⟩) ∧ Below W.heap.size W w' := fun W => tag_any 0 st [33] t W (fun _ _ => by omega)
      go_wp2_with fail
      refine (c_own _).mono ?_
      rintro _ wa ⟨rfl, hba⟩
      go_wp2_with fail
      refine (c_none _).mono ?_
      rintro _ wb ⟨rfl, hbb⟩
      go_wp2_with fail
      refine (c_sign _).mono ?_
      rintro _ wd ⟨rfl, hbd⟩
      have hb := bthen (bthen (bthen hb0 hba) hbb) hbd
      clear c_own c_none c_sign
      go_wp2_with fail
      refine (wakes12_any _ (hT.below hb)).mono ?_
      rintro _ we ⟨rfl, hbe⟩
      go_wp2
      go_ret
      exact ⟨rfl, bthen hb hbe⟩
    · have hkv : kindOf 4 = 1 := rfl
      rw [hkv]
      clear hkv hv5
      have c_own : ∀ W, Calls Tryd.prog 28 #[.int .i64 1, .int .i64 st, .string ⟨#[33, 111, 119, 110]⟩, .string ⟨t.toArray⟩] W fun e w' => e = .returned (.string ⟨#[33, 111, 119, 110]⟩) ∧ Below W.heap.size W w' := fun W => tag_any 1 st [33, 111, 119, 110] t W (fun _ _ => by omega)
      have c_none : ∀ W, Calls Tryd.prog 28 #[.int .i64 1, .int .i64 st, .string ⟨#[]⟩, .string ⟨t.toArray⟩] W fun e w' => e = .returned (.string ⟨(tagB 1 st [] t).toArray⟩) ∧ Below W.heap.size W w' := fun W => tag_any 1 st [] t W (fun _ _ => by omega)
      have e_sign : tagB 1 st [33] t = [33, 33, 115, 116, 114] := by simp [tagB, tagStr]
      have c_sign : ∀ W, Calls Tryd.prog 28 #[.int .i64 1, .int .i64 st, .string ⟨#[33]⟩, .string ⟨t.toArray⟩] W fun e w' => e = .returned (.string ⟨#[33, 33, 115, 116, 114]⟩) ∧ Below W.heap.size W w' := fun W => by have h := tag_any 1 st [33] t W (fun _ _ => by omega); rw [e_sign] at h; exact h
      clear e_sign
      have h_none : ¬ st = 1 → tagB 1 st [] t = [33, 33, 115, 116, 114] := fun h => by simp [tagB, h, tagStr]
      have c_i : ∀ W, Calls Tryd.prog 28 #[.int .i64 1, .int .i64 1, .string ⟨#[]⟩, .string ⟨#[49, 50]⟩] W fun e w' => e = .returned (.string ⟨#[33, 33, 105, 110, 116]⟩) ∧ Below W.heap.size W w' := fun W => by have h := tag_any 1 1 [] [49, 50] W (fun _ _ => by decide); rw [int_tag] at h; exact h
      have c_s : ∀ W, Calls Tryd.prog 28 #[.int .i64 1, .int .i64 3, .string ⟨#[]⟩, .string ⟨#[49, 50]⟩] W fun e w' => e = .returned (.string ⟨#[33, 33, 115, 116, 114]⟩) ∧ Below W.heap.size W w' := fun W => by have h := tag_any 1 3 [] [49, 50] W (fun _ _ => by decide); rw [str_tag] at h; exact h
      by_cases hst : st = 1
      case' pos =>
        subst hst
        clear h_none
        generalize tagB 1 1 [] t = R at *
      case' neg =>
        have hsb : (st != 1) = true := by simpa using hst
        rw [h_none hst] at c_none
        clear h_none hst
      all_goals
        go_wp2_with fail
        refine (c_own _).mono ?_
        rintro _ wa ⟨rfl, hba⟩
        go_wp2_with fail
        refine (c_none _).mono ?_
        rintro _ wb ⟨rfl, hbb⟩
        go_wp2_with fail
        refine (c_sign _).mono ?_
        rintro _ wd ⟨rfl, hbd⟩
        have hb := bthen (bthen (bthen hb0 hba) hbb) hbd
        clear c_own c_none c_sign
        go_wp2_with fail
        refine (c_i _).mono ?_
        rintro _ wf ⟨rfl, hbf⟩
        go_wp2_with fail
        refine (c_s _).mono ?_
        rintro _ wg ⟨rfl, hbg⟩
        have hb := bthen (bthen hb hbf) hbg
        clear c_i c_s
        go_wp2_with fail
        refine (wakes12_any _ (hT.below hb)).mono ?_
        rintro _ we ⟨rfl, hbe⟩
        go_wp2
        go_ret
        exact ⟨rfl, bthen hb hbe⟩
end Go.Proofs.YtadgjeggmkebaaaDoor
