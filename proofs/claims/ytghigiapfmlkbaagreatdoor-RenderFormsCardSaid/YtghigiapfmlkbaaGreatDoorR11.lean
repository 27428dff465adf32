/- render.props. -/
import Derived.Test.YtghigiapfmlkbaaGreatDoorR10
namespace Go.Proofs.YtghigiapfmlkbaaGreatDoor
open Go.RowKit
attribute [local go_sem ↓] Go.wp_at_zero Go.wp_at_succ

/-- Names of things, as a map. -/
def anF (an : Nat → Option Bs) : Value → Option Value
  | .int .i64 z => if 0 ≤ z then (an z.toNat).map fun l => .string ⟨l.toArray⟩ else none
  | _ => none
theorem anF_at (an : Nat → Option Bs) (k : Nat) : anF an (.int .i64 (k : Nat)) = (an k).map fun l => Value.string ⟨l.toArray⟩ := by simp [anF]
theorem strZero (w : World) : (zeroValue 9).run Tryz.prog w = .ok (.string ⟨#[]⟩) w := by kernel_rfl
theorem strElem (l : Bs) (h : l.length ≤ 100000000) : plainElem (H := Unit) Tryz.prog 9 (.string ⟨l.toArray⟩) = some (.lit (.string l), []) := by
  unfold plainElem
  rw [Tryz.underlying9]
  have h1 : (⟨l.toArray⟩ : ByteArray).size ≤ maxLen := by rw [mk_size]; unfold maxLen; omega
  simp [h1]
structure AnAt (w : World) (b : Nat) (an : Nat → Option Bs) : Prop where
  map : ∃ n, n ≤ 100000000 ∧ MapF Tryz.prog 3 9 w b n (anF an)
theorem AnAt.below {w w' : World} {b : Nat} {an : Nat → Option Bs} (h : AnAt w b an) (hb : Below w.heap.size w w') : AnAt w' b an := by
  obtain ⟨n, hn, hm⟩ := h.map
  exact ⟨n, hn, hm.below hb⟩
theorem AnAt.kept {w w' : World} {b : Nat} {an : Nat → Option Bs} {row : Option Nat} (h : AnAt w b an) (hg : w.grownBy w' row) (hne : some b ≠ row) : AnAt w' b an := by
  obtain ⟨n, hn, hm⟩ := h.map
  exact ⟨n, hn, hm.kept hg hne⟩
theorem AnAt.look {w : World} {b : Nat} {an : Nat → Option Bs} (h : AnAt w b an) (i : Nat) (hi : i ≤ 1000000000) :
    (Instr.lookup 72 (.map (some b)) (.int .i64 (i : Nat)) false).run Tryz.prog w = .ok (.string ⟨((an i).getD []).toArray⟩) w := by
  obtain ⟨n, hn, hm⟩ := h.map
  have := hm.look_at (T := 72) intLaw Tryz.underlying72 (strZero w) (intKey i hi) _ (anF_at an i)
  rw [this]
  cases an i <;> rfl
theorem AnAt.look_ok {w : World} {b : Nat} {an : Nat → Option Bs} (h : AnAt w b an) (i : Nat) (hi : i ≤ 1000000000) :
    (Instr.lookup 72 (.map (some b)) (.int .i64 (i : Nat)) true).run Tryz.prog w = .ok (.tuple #[.string ⟨((an i).getD []).toArray⟩, .bool (an i).isSome]) w := by
  obtain ⟨n, hn, hm⟩ := h.map
  have := hm.look_ok (T := 72) intLaw Tryz.underlying72 (strZero w) (intKey i hi) _ (anF_at an i)
  rw [this]
  cases an i <;> rfl

/-- What the tag of a kind is. -/
def kindTag (k : Nat) : Bs := if k = 2 then [33, 33, 115, 101, 113] else if k = 3 then [33, 33, 109, 97, 112] else []
theorem plain_at (k : Nat) : (setG (setG (fun _ => none) (.int .i64 ((2 : Nat) : Int)) (.string ⟨#[33, 33, 115, 101, 113]⟩)) (.int .i64 ((3 : Nat) : Int)) (.string ⟨#[33, 33, 109, 97, 112]⟩) (.int .i64 (k : Nat))).getD (.string ⟨#[]⟩) = .string ⟨(kindTag k).toArray⟩ := by
  unfold kindTag
  by_cases h3 : k = 3
  · subst h3
    rw [setG_same]
    rfl
  · have n3 : ¬ (Value.int IntKind.i64 (k : Int) = Value.int .i64 ((3 : Nat) : Int)) := fun e => by
      simp only [Value.int.injEq, true_and] at e
      omega
    rw [setG_other _ _ _ _ n3]
    by_cases h2 : k = 2
    · subst h2
      rw [setG_same]
      rfl
    · have n2 : ¬ (Value.int IntKind.i64 (k : Int) = Value.int .i64 ((2 : Nat) : Int)) := fun e => by
        simp only [Value.int.injEq, true_and] at e
        omega
      rw [setG_other _ _ _ _ n2, if_neg h2, if_neg h3]
      rfl
/-- The map of render.props. -/
theorem plain_map (w : World) : ∃ w1 w2, (Instr.mapUpdate 72 (.map (some w.heap.size)) (.int .i64 2) (.string ⟨#[33, 33, 115, 101, 113]⟩)).run Tryz.prog (w.alloc (.map #[] 0)) = .ok () w1 ∧
    (Instr.mapUpdate 72 (.map (some w.heap.size)) (.int .i64 3) (.string ⟨#[33, 33, 109, 97, 112]⟩)).run Tryz.prog w1 = .ok () w2 ∧ Below w.heap.size w w2 ∧
    ∀ W, Below w2.heap.size w2 W → ∀ k : Nat, k ≤ 1000000000 → (Instr.lookup 72 (.map (some w.heap.size)) (.int .i64 (k : Nat)) false).run Tryz.prog W = .ok (.string ⟨(kindTag k).toArray⟩) W := by
  have h0 := MapF.made w Tryz.prog 3 9
  obtain ⟨w1, hr1, hs1, ht1⟩ := h0.store (T := 72) intLaw Tryz.underlying72 (by unfold maxLen; omega) (intKey 2 (by omega)) (strElem [33, 33, 115, 101, 113] (by simp))
  have h1 := hs1 (setG (fun _ => none) (.int .i64 ((2 : Nat) : Int)) (.string ⟨#[33, 33, 115, 101, 113]⟩)) (setG_same _ _ _) (fun k hk => setG_other _ _ _ k hk)
  obtain ⟨w2, hr2, hs2, ht2⟩ := h1.store (T := 72) intLaw Tryz.underlying72 (by unfold maxLen; omega) (intKey 3 (by omega)) (strElem [33, 33, 109, 97, 112] (by simp))
  have h2 := hs2 (setG (setG (fun _ => none) (.int .i64 ((2 : Nat) : Int)) (.string ⟨#[33, 33, 115, 101, 113]⟩)) (.int .i64 ((3 : Nat) : Int)) (.string ⟨#[33, 33, 109, 97, 112]⟩)) (setG_same _ _ _) (fun k hk => setG_other _ _ _ k hk)
  rw [show ((2 : Nat) : Int) = 2 from rfl, show (⟨List.toArray [33, 33, 115, 101, 113]⟩ : ByteArray) = ⟨#[33, 33, 115, 101, 113]⟩ from rfl] at hr1
  rw [show ((3 : Nat) : Int) = 3 from rfl, show (⟨List.toArray [33, 33, 109, 97, 112]⟩ : ByteArray) = ⟨#[33, 33, 109, 97, 112]⟩ from rfl] at hr2
  have hb0 : Below w.heap.size w (w.alloc (.map #[] 0)) := (Below.refl _ _).alloc (Nat.le_refl _) _
  have hb1 := turned_below hb0 ht1 hb0.size (Nat.le_refl _)
  have hb2 := turned_below hb1 ht2 hb1.size (Nat.le_refl _)
  refine ⟨w1, w2, hr1, hr2, hb2, fun W hW k hk => ?_⟩
  have hm := h2.below hW
  have := hm.look_at (T := 72) intLaw Tryz.underlying72 (strZero W) (intKey k hk) _ rfl
  rw [this, plain_at]

set_option maxRecDepth 100000 in
set_option maxHeartbeats 4000000 in
theorem wprops_any (w0 w : World) (b bA bM : Nat) (vc : Value) (c : List Th) (flow : Bool) (an : Nat → Option Bs) (hW : WrAt w0 w b bA bM vc c flow) (hA : AnAt w bA an) (i : Nat) (hi : i < c.length) (hcl : c.length ≤ 100000000) (hst : ∀ t ∈ c, t.tag.length ≤ 1000000 ∧ t.value.length ≤ 1000000)
    (han : ∀ i l, an i = some l → l.length ≤ 1000000) (hkb : ∀ t ∈ c, t.kind ≤ 1000000) :
    Calls Tryz.prog 32 #[.pointer (some ⟨b, 0, none⟩), .int .i64 (i : Nat)] w fun e w' => e = .returned (.string ⟨(propsM c an i).toArray⟩) ∧ Below w.heap.size w w' := by
  obtain ⟨t, ht⟩ : ∃ t, c[i]? = some t := ⟨_, List.getElem?_eq_getElem hi⟩
  have htd : c.getD i th0 = t := by rw [List.getD_eq_getElem?_getD, ht]; rfl
  have hs := hst t (List.mem_of_getElem? ht)
  have hkt := hkb t (List.mem_of_getElem? ht)
  have hal : ((an i).getD []).length ≤ 1000000 := by
    cases h : an i with
    | none => simp
    | some l => exact han i l h
  obtain ⟨V, hV⟩ : ∃ V, propsM c an i = V := ⟨_, rfl⟩
  rw [hV]
  have HV : Hid (V = putP ((an i).getD []) (if kindTag t.kind = t.tag then [] else t.tag)) := Lib.hid (by
    rw [← hV]
    unfold propsM
    rw [htd]
    dsimp only
    congr 1
    unfold kindTag
    by_cases h2 : t.kind = 2
    · simp [h2, eq_comm]
    · by_cases h3 : t.kind = 3
      · simp [h3, eq_comm]
      · simp [h2, h3, eq_comm])
  have hi2 : (i : Int) < c.length := by omega
  -- ahead of the alloc and behind it
  have hWd := hW.below (w' := w.drew) (Below.refl _ _).drew
  have hAd := hA.below (w' := w.drew) (Below.refl _ _).drew
  have hbz : Below w.heap.size w (w.alloc (.cells #[.string ⟨#[]⟩, .string ⟨#[]⟩] 124)) := (Below.refl _ _).alloc (Nat.le_refl _) _
  have hWa := hW.below hbz
  have hAa := (hA.below hbz).below (w' := (w.alloc (.cells #[.string ⟨#[]⟩, .string ⟨#[]⟩] 124)).drew) (Below.refl _ _).drew
  obtain ⟨v0, v1, v2, v3⟩ := hWd.cells
  obtain ⟨g, cap, A2, c2, rfl, q0, q1, q2, q3, hkr⟩ := hWd.thing ht
  obtain ⟨x0, x1, x2, x3⟩ := hWa.cells
  obtain ⟨g', cap', A2', c2', hve, y0, y1, y2, y3, hkr'⟩ := hWa.thing ht
  cases hve
  have lk := hAd.look i (by omega)
  have lk' := hAa.look i (by omega)
  generalize (an i).getD [] = al at *
  have HW := Lib.hid hW
  have hcx : (w.alloc (.cells #[.string ⟨#[]⟩, .string ⟨#[]⟩] 124)).cell? ⟨w.heap.size, 0, none⟩ = some (.string ⟨#[]⟩) := by rw [World.cell?_alloc_at _ _ _ _ rfl]; rfl
  clear hW hA hWd hAd hWa hAa htd hV hkr hkr' q2 q3 y2 y3 v2 v3 x2 x3
  go_enter Tryz.func32, Tryz.ntmps32
  go_upto_region 1 with fail
  go_cut [5] (fun k wx => k = .pointer (some ⟨w.heap.size, 0, none⟩) ∧ wx.heap[w.heap.size]? = some (.cells #[.string ⟨t.tag.toArray⟩, .string ⟨al.toArray⟩] 124 (0, 0)) ∧ Below w.heap.size w wx)
  case first =>
    go_region
    all_goals
      go_wp2_with fail
      go_meet
      exact ⟨rfl, heap_alloc_new _ _, ((Below.refl _ _).alloc (Nat.le_refl _) _).drew⟩
  case rest =>
    obtain ⟨rfl, hP, hb1⟩ := hcut
    clear v0 v1 q0 q1 x0 x1 y0 y1 lk lk' hcx hbz
    have hmm := @run_makeMap Tryz.prog
    obtain ⟨w2, w3, hr2, hr3, hb3, hlk⟩ := plain_map wc
    have hb13 := hb1.trans (hb3.mono hb1.size)
    have hP3 := (hb3.block w.heap.size (lt_of_block hP)).trans hP
    have hW3 := HW.out.below hb13
    obtain ⟨v0, v1, v2, v3⟩ := hW3.cells
    obtain ⟨g', cap', A2', c2', hve, q0, q1, q2, q3, hkr⟩ := hW3.thing ht
    cases hve
    have lk3 := hlk w3.drew (Below.refl _ _).drew t.kind (by omega)
    have p0 : w3.cell? ⟨w.heap.size, 0, none⟩ = some (.string ⟨t.tag.toArray⟩) := by rw [cell_of_row _ _ _ _ _ (0, 0) hP3]; rfl
    have p1 : w3.cell? ⟨w.heap.size, 1, none⟩ = some (.string ⟨al.toArray⟩) := by rw [cell_of_row _ _ _ _ _ (0, 0) hP3]; rfl
    have pf : w3.frozen? ⟨w.heap.size, 0, none⟩ = false := by simp [World.frozen?, hP3]
    have d0 : w3.drew.cell? ⟨b, 0, none⟩ = some (.slice (some ⟨g, 0, none⟩) c.length cap) := v0
    have d1 : w3.drew.cell? ⟨g, i * 4, none⟩ = some (.int .i64 t.kind) := q0
    have d2 : w3.drew.cell? ⟨w.heap.size, 0, none⟩ = some (.string ⟨t.tag.toArray⟩) := p0
    have d3 : w3.drew.cell? ⟨w.heap.size, 1, none⟩ = some (.string ⟨al.toArray⟩) := p1
    have hs13 := hb13.size
    clear hW3 hkr q1 q2 q3 v1 v2 v3 hlk hP hb1 hb3 HW
    generalize kindTag t.kind = X at *
    by_cases hX : X = t.tag
    · subst hX
      rw [if_pos rfl] at HV
      have cp := fun W => put_props [] al W (by simp) hal
      have hP4 : (w3.drew.setCell ⟨w.heap.size, 0, none⟩ (.string ⟨#[]⟩)).heap[w.heap.size]? = some (.cells #[.string ⟨#[]⟩, .string ⟨al.toArray⟩] 124 (0, 0)) := by
        rw [heap_setCell_same w3.drew _ _ _ _ _ hP3]; rfl
      have e0 : (w3.drew.setCell ⟨w.heap.size, 0, none⟩ (.string ⟨#[]⟩)).cell? ⟨w.heap.size, 0, none⟩ = some (.string ⟨#[]⟩) := by rw [cell_of_row _ _ _ _ _ (0, 0) hP4]; rfl
      have e1 : (w3.drew.setCell ⟨w.heap.size, 0, none⟩ (.string ⟨#[]⟩)).cell? ⟨w.heap.size, 1, none⟩ = some (.string ⟨al.toArray⟩) := by rw [cell_of_row _ _ _ _ _ (0, 0) hP4]; rfl
      have hb4 : Below w.heap.size w (w3.drew.setCell ⟨w.heap.size, 0, none⟩ (.string ⟨#[]⟩)) := (bdrew hb13).setCell (Nat.le_refl _) _
      have hVV := HV.out
      clear HV hP3 hP4
      go_wp2
      go_region
      all_goals
        go_wp2_with fail
        refine (cp _).mono ?_
        rintro e w5 ⟨rfl, hb5⟩
        have hb6 := hb4.trans (hb5.mono (by have := hb4.size; simpa using this))
        clear cp hb5
        go_wp2
        go_ret
        exact ⟨by rw [hVV]; rfl, hb6⟩
    · rw [if_neg hX] at HV
      have hX1 : (X == t.tag) = false := by simpa using hX
      have cp := fun W => put_props t.tag al W (by omega) hal
      have hb4 := bdrew hb13
      have hVV := HV.out
      clear HV hP3 hX
      go_wp2
      go_region
      all_goals
        go_wp2_with fail
        refine (cp _).mono ?_
        rintro e w5 ⟨rfl, hb5⟩
        have hb6 := hb4.trans (hb5.mono hb4.size)
        clear cp hb5
        go_wp2
        go_ret
        exact ⟨by rw [hVV]; rfl, hb6⟩
end Go.Proofs.YtghigiapfmlkbaaGreatDoor
