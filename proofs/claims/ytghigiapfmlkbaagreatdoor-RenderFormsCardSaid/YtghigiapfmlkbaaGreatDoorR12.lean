/- render.small. -/
import Derived.Test.YtghigiapfmlkbaaGreatDoorR11
namespace Go.Proofs.YtghigiapfmlkbaaGreatDoor
open Go.RowKit
attribute [local go_sem ↓] Go.wp_at_zero Go.wp_at_succ

theorem choose_len (l : Bs) (flow : Bool) : (chooseB l flow).length ≤ 10 * l.length + 2 := by
  unfold chooseB
  have := put_le l
  split
  · omega
  · split
    · exact this
    · simp
theorem best_len (T l : Bs) (flow : Bool) : (bestB T l flow).1.length ≤ T.length + 10 * l.length + 3 := by
  have h1 := choose_len l flow
  have h2 := put_le l
  unfold bestB
  split
  · dsimp only; omega
  · split
    · dsimp only; omega
    · split
      · simp; omega
      · simp
theorem putP_len (a t : Bs) : (putP a t).length ≤ a.length + t.length + 2 := by
  unfold putP
  split <;> split <;> simp <;> omega
theorem propsM_len (c : List Th) (an : Nat → Option Bs) (i : Nat) (h1 : ((an i).getD []).length ≤ 1000000) (h2 : (c.getD i th0).tag.length ≤ 1000000) : (propsM c an i).length ≤ 2000002 := by
  unfold propsM
  dsimp only
  refine Nat.le_trans (putP_len _ _) ?_
  split
  · simp; omega
  · omega

set_option maxRecDepth 100000 in
set_option maxHeartbeats 8000000 in
theorem small_any (w0 w : World) (b bA bM : Nat) (vc : Value) (c : List Th) (flow : Bool) (an : Nat → Option Bs) (met : List Nat) (hT0 : Tabs w0) (hW : WrAt w0 w b bA bM vc c flow) (hA : AnAt w bA an) (hM : MetAt w bM c.length met) (hMb : bM ≠ b) (hMA : bA ≠ bM) (hM0 : w0.heap.size ≤ bM)
    (i : Nat) (hi : i < c.length) (hcl : c.length ≤ 100000000) (hst : ∀ t ∈ c, t.tag.length ≤ 1000000 ∧ t.value.length ≤ 1000000)
    (han : ∀ i l, an i = some l → l.length ≤ 1000000) (hkb : ∀ t ∈ c, t.kind ≤ 1000000) :
    Calls Tryz.prog 30 #[.pointer (some ⟨b, 0, none⟩), .int .i64 (i : Nat)] w fun e w' => e = .returned (.tuple #[.string ⟨(smallM c an flow met i).1.1.toArray⟩, .bool (smallM c an flow met i).1.2.1, .int .i64 (smallM c an flow met i).1.2.2]) ∧ MetAt w' bM c.length (smallM c an flow met i).2 ∧ w.grownBy w' (some bM) := by
  obtain ⟨t, ht⟩ : ∃ t, c[i]? = some t := ⟨_, List.getElem?_eq_getElem hi⟩
  have htd : c.getD i th0 = t := by rw [List.getD_eq_getElem?_getD, ht]; rfl
  have hs := hst t (List.mem_of_getElem? ht)
  have hal : ((an i).getD []).length ≤ 1000000 := by
    cases h : an i with
    | none => simp
    | some l => exact han i l h
  have hpl := propsM_len c an i hal (by rw [htd]; exact hs.1)
  have hi2 : (i : Int) < c.length := by omega
  obtain ⟨V, hV⟩ : ∃ V, smallM c an flow met i = V := ⟨_, rfl⟩
  rw [hV]
  unfold smallM at hV
  rw [htd] at hV
  dsimp only at hV
  obtain ⟨al, hal0⟩ : ∃ al, (an i).getD [] = al := ⟨_, rfl⟩
  rw [hal0] at hV hal
  have HAL := Lib.hid hal0
  obtain ⟨PV, hPV⟩ : ∃ PV, propsM c an i = PV := ⟨_, rfl⟩
  rw [hPV] at hV hpl
  have HPV := Lib.hid hPV
  clear hal0 hPV
  obtain ⟨v0, v1, v2, v3⟩ := hW.cells
  obtain ⟨g, cap, A2, c2, rfl, q0, q1, q2, q3, hkr⟩ := hW.thing ht
  have hb1 : Below w.heap.size w (w.alloc (.cells #[.int .i64 t.kind, .string ⟨t.tag.toArray⟩, .string ⟨t.value.toArray⟩, .slice A2 t.kids.length c2] 25)) := (Below.refl _ _).alloc (Nat.le_refl _) _
  have hS1 : (w.alloc (.cells #[.int .i64 t.kind, .string ⟨t.tag.toArray⟩, .string ⟨t.value.toArray⟩, .slice A2 t.kids.length c2] 25)).heap[w.heap.size]? = some (.cells #[.int .i64 t.kind, .string ⟨t.tag.toArray⟩, .string ⟨t.value.toArray⟩, .slice A2 t.kids.length c2] 25 (0, 0)) := heap_alloc_new _ _
  have hW1 := hW.below hb1
  have hA1 := hA.below hb1
  have hM1 := hM.below hb1
  have hg01 : w.grownBy (w.alloc (.cells #[.int .i64 t.kind, .string ⟨t.tag.toArray⟩, .string ⟨t.value.toArray⟩, .slice A2 t.kids.length c2] 25)) (some bM) := World.grownBy_alloc _ _ _
  have hmet1 := hM.block
  clear hW hA hM
  go_enter Tryz.func30, Tryz.ntmps30
  go_upto_region 2 with fail
  generalize w.alloc _ = w1 at hb1 hS1 hW1 hA1 hM1 hg01 ⊢
  obtain ⟨x0, x1, x2, x3⟩ := hW1.cells
  have lka := hA1.look_ok i (by omega)
  rw [HAL.out] at lka
  have lkm := hM1.look i (by omega)
  clear v0 v1 v2 v3 q0 q1 q2 q3 hkr htd
  by_cases hsm : (an i).isSome ∧ i ∈ met
  · rw [if_pos hsm] at hV
    rw [hsm.1] at lka
    rw [decide_eq_true hsm.2] at lkm
    subst hV
    have happ : (⟨#[42]⟩ : ByteArray) ++ ⟨al.toArray⟩ = ⟨(42 :: al).toArray⟩ := by
      have := app_l [42] al
      simpa using this
    go_wp2
    go_ret3
    exact ⟨by first | rfl | simp, hM1, hg01⟩
  · rw [if_neg hsm] at hV
    obtain ⟨w2, hrun, hM2, ht2⟩ := hM1.store i hi hcl
    have hg2 := turned_grown ht2
    have hW2 := hW1.grown hg2 (by simp; exact hMb) (fun k hk => by cases hk; exact hM0)
    have hA2 := hA1.kept hg2 (by simp; exact hMA)
    have hg02 := grown_trans hg01 hg2
    have hne : w.heap.size ≠ bM := by omega
    have hS2 := (hg2.block w.heap.size (lt_of_block hS1) (by simp; exact hne)).trans hS1
    have s0 : w2.cell? ⟨w.heap.size, 0, none⟩ = some (.int .i64 t.kind) := by rw [cell_of_row _ _ _ _ _ (0, 0) hS2]; rfl
    have s1 : w2.cell? ⟨w.heap.size, 1, none⟩ = some (.string ⟨t.tag.toArray⟩) := by rw [cell_of_row _ _ _ _ _ (0, 0) hS2]; rfl
    have s2 : w2.cell? ⟨w.heap.size, 2, none⟩ = some (.string ⟨t.value.toArray⟩) := by rw [cell_of_row _ _ _ _ _ (0, 0) hS2]; rfl
    have s3 : w2.cell? ⟨w.heap.size, 3, none⟩ = some (.slice A2 t.kids.length c2) := by rw [cell_of_row _ _ _ _ _ (0, 0) hS2]; rfl
    have hins : (if i ∈ met then met else i :: met) = insN i met := rfl
    rw [hins] at hV
    obtain ⟨y0, y1, y2, y3⟩ := hW2.cells
    have hT2 := hT0.below hW2.frame
    have hno : (an i).isSome = true → ¬ i ∈ met := fun h1 h2 => hsm ⟨h1, h2⟩
    clear hsm
    generalize (an i).isSome = so at *
    go_upto_region 3 with fail
    go_cut [36] (fun v wx => v = .bool false ∧ wx = w1)
    case first =>
      cases so with
      | false =>
        go_wp2
        go_meet
        exact ⟨rfl, rfl⟩
      | true =>
        rw [decide_eq_false (hno rfl)] at lkm
        go_wp2
        go_meet
        exact ⟨rfl, rfl⟩
    case rest =>
      obtain ⟨rfl, rfl⟩ := hcut
      clear lka lkm hno hM1 hA1 hW1 hS1 hS2
      generalize t.kids.length = kn at *
      by_cases k1 : t.kind = 1
      · have kb1 : ((t.kind : Int) == 1) = true := by rw [k1]; rfl
        rw [if_pos k1] at hV
        have hbl := best_len t.tag t.value flow
        have cb := best_any t.tag t.value flow w2.drew (hT2.below (Below.refl _ _).drew) hs.2 hs.1
        generalize bestB t.tag t.value flow = K at *
        have d1 : w2.drew.cell? ⟨w.heap.size, 1, none⟩ = some (.string ⟨t.tag.toArray⟩) := s1
        have d2 : w2.drew.cell? ⟨w.heap.size, 2, none⟩ = some (.string ⟨t.value.toArray⟩) := s2
        have d3 : w2.drew.cell? ⟨b, 3, none⟩ = some (.bool flow) := y3
        clear k1
        go_upto_region 7 with fail
        go_cut [10, 11] (fun x y wx => x = .string ⟨K.1.toArray⟩ ∧ y = .bool K.2 ∧ Below w2.heap.size w2 wx)
        case first =>
          go_region_with (go_at_call 57; (with_reducible refine cb.mono ?_); rintro _ w3 ⟨rfl, hb3⟩; dsimp only)
          all_goals
            go_wp2_with fail
            go_meet
            exact ⟨rfl, rfl, (Below.refl _ _).drew.trans hb3⟩
        case rest =>
          obtain ⟨rfl, rfl, hb3⟩ := hcut
          have hM3 := hM2.below hb3
          have hg03 := grown_trans hg02 (grown_row (row := some bM) (below_grown hb3))
          clear cb d1 d2 d3
          cases hK : K.2 with
          | false =>
            rw [if_neg (by rw [hK]; simp)] at hV
            subst hV
            go_wp2
            go_ret3
            exact ⟨rfl, hM3, hg03⟩
          | true =>
            rw [if_pos hK] at hV
            subst hV
            have cp := put_props [] al wc (by simp) hal
            have ca := fun W => ahead_any (putP al []) K.1 W (by have := putP_len al []; simp at this; omega) (by omega)
            go_wp2_with fail
            refine cp.mono ?_
            rintro e w4 ⟨rfl, hb4⟩
            go_wp2_with fail
            refine (ca w4).mono ?_
            rintro e w5 ⟨rfl, rfl⟩
            clear cp ca
            go_wp2
            go_ret3
            exact ⟨rfl, hM3.below hb4, grown_trans hg03 (grown_row (below_grown hb4))⟩
      · have kb1 : ((t.kind : Int) == 1) = false := by simp; omega
        rw [if_neg k1] at hV
        by_cases hkl : 0 < kn
        · have hklb : (0 : Int) < kn := by omega
          rw [if_pos hkl] at hV
          subst hV
          go_wp2
          go_ret3
          exact ⟨rfl, hM2, hg02⟩
        · rw [if_neg hkl] at hV
          have hk0 : kn = 0 := by omega
          subst hk0
          by_cases k2 : t.kind = 2
          · have kb2 : ((t.kind : Int) == 2) = true := by rw [k2]; rfl
            rw [if_pos k2] at hV
            subst hV
            have cp := wprops_any w0 w2 b bA bM _ c flow an hW2 hA2 i hi hcl hst han hkb
            rw [HPV.out] at cp
            have ca := fun W => ahead_any PV [91, 93] W (by omega) (by simp)
            clear k1 k2 hkl
            go_wp2_with fail
            refine cp.mono ?_
            rintro e w3 ⟨rfl, hb3⟩
            go_wp2_with fail
            refine (ca w3).mono ?_
            rintro e w4 ⟨rfl, rfl⟩
            clear cp ca
            go_wp2
            go_ret3
            exact ⟨rfl, hM2.below hb3, grown_trans hg02 (grown_row (below_grown hb3))⟩
          · have kb2 : ((t.kind : Int) == 2) = false := by simp; omega
            rw [if_neg k2] at hV
            subst hV
            have cp := wprops_any w0 w2 b bA bM _ c flow an hW2 hA2 i hi hcl hst han hkb
            rw [HPV.out] at cp
            have ca := fun W => ahead_any PV [123, 125] W (by omega) (by simp)
            clear k1 k2 hkl
            go_wp2_with fail
            refine cp.mono ?_
            rintro e w3 ⟨rfl, hb3⟩
            go_wp2_with fail
            refine (ca w3).mono ?_
            rintro e w4 ⟨rfl, rfl⟩
            clear cp ca
            go_wp2
            go_ret3
            exact ⟨rfl, hM2.below hb3, grown_trans hg02 (grown_row (below_grown hb3))⟩
end Go.Proofs.YtghigiapfmlkbaaGreatDoor
