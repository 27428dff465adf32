/- iso.order. -/
import Derived.Test.YtghigiapfmlkbaaGreatDoorR3
namespace Go.Proofs.YtghigiapfmlkbaaGreatDoor
open Go.RowKit

def kidsSum (g : List Th) : Nat := (g.map fun t => t.kids.length).sum
theorem kids_le {g : List Th} {i : Nat} {t : Th} (h : g[i]? = some t) : t.kids.length ≤ kidsSum g := by
  unfold kidsSum
  induction g generalizing i with
  | nil => simp at h
  | cons a g ih =>
    cases i with
    | zero =>
      simp only [List.getElem?_cons_zero, Option.some.injEq] at h
      subst h
      simp
    | succ i =>
      have := ih (by simpa using h)
      simp only [List.map_cons, List.sum_cons]
      omega
/-- The kids that are still to come. -/
def remL (k : Nat → Nat) (out : List Nat) (l : List Nat) : Nat := (l.map fun i => if i ∈ out then 0 else k i).sum
theorem remL_mono (k : Nat → Nat) (out : List Nat) (i : Nat) : ∀ l : List Nat, remL k (out ++ [i]) l ≤ remL k out l
  | [] => Nat.le_refl _
  | a :: l => by
    have := remL_mono k out i l
    unfold remL at this ⊢
    simp only [List.map_cons, List.sum_cons]
    by_cases h : a ∈ out
    · rw [if_pos (by simp [h]), if_pos h]; omega
    · by_cases h2 : a = i
      · rw [if_pos (by simp [h2]), if_neg h]; omega
      · rw [if_neg (by simp [h, h2]), if_neg h]; omega
theorem remL_step (k : Nat → Nat) (out : List Nat) (i : Nat) (hi : i ∉ out) : ∀ l : List Nat, i ∈ l → remL k (out ++ [i]) l + k i ≤ remL k out l
  | [], h => by cases h
  | a :: l, h => by
    have hm := remL_mono k out i l
    by_cases h2 : a = i
    · subst h2
      unfold remL at hm ⊢
      simp only [List.map_cons, List.sum_cons]
      rw [if_pos (by simp), if_neg hi]
      omega
    · have := remL_step k out i hi l (by rcases List.mem_cons.1 h with h | h; exact absurd h.symm h2; exact h)
      unfold remL at this ⊢
      simp only [List.map_cons, List.sum_cons]
      by_cases h3 : a ∈ out
      · rw [if_pos (by simp [h3]), if_pos h3]; omega
      · rw [if_neg (by simp [h3, h2]), if_neg h3]; omega
def kidN (g : List Th) (i : Nat) : Nat := (g.getD i ⟨0, [], [], []⟩).kids.length
theorem range_map {α : Type} (f : Th → α) : ∀ g : List Th, (List.range g.length).map (fun i => f (g.getD i ⟨0, [], [], []⟩)) = g.map f := by
  intro g
  apply List.ext_getElem
  · simp
  · intro i h1 h2
    simp at h1
    simp [List.getD_eq_getElem?_getD, List.getElem?_eq_getElem h1]
theorem remL_all (g : List Th) : remL (kidN g) [] (List.range g.length) = kidsSum g := by
  unfold remL kidN kidsSum
  simp only [List.not_mem_nil, if_false]
  rw [range_map fun t => t.kids.length]
def slLen : Value → Nat
  | .slice _ n _ => n
  | _ => 0
/-- Which things were met. -/
def metL (n : Nat) (out : List Nat) : List Bool := (List.range n).map fun i => decide (i ∈ out)
theorem metL_get (n : Nat) (out : List Nat) (i : Nat) (hi : i < n) : (metL n out).getD i false = decide (i ∈ out) := by
  unfold metL
  simp [List.getD_eq_getElem?_getD, hi]
theorem metL_set (n : Nat) (out : List Nat) (i : Nat) : (metL n out).set i true = metL n (out ++ [i]) := by
  unfold metL
  apply List.ext_getElem
  · simp
  · intro j h1 h2
    simp only [List.getElem_set, List.getElem_map, List.getElem_range]
    by_cases h : i = j
    · subst h; simp
    · have : j ≠ i := fun e => h e.symm
      simp [h, this]
theorem metL_len (n : Nat) (out : List Nat) : (metL n out).length = n := by simp [metL]
/-- Where order is. -/
def OrdAt (w : World) (g : List Th) (N : Nat) (V : List Nat) (o l : Value) (wr : World) : Prop :=
  ∃ st out f, KRow wr w.heap.size l st.reverse ∧ KRow wr w.heap.size o out ∧ (∀ k, l.ownBlock = some k → o.ownBlock ≠ some k) ∧ BolAt wr N (metL g.length out) ∧
    orderGo g f st out = V ∧ st.length + remL (kidN g) out (List.range g.length) < f ∧ out.length + f ≤ kidsSum g + g.length + 1 ∧ (∀ k ∈ st, k < g.length) ∧ Below w.heap.size w wr

set_option maxRecDepth 100000 in
set_option maxHeartbeats 4000000 in
theorem order_any (vg : Value) (g : List Th) (w : World) (hg : GR w vg g) (h0 : 0 < g.length) (hk : ∀ t ∈ g, ∀ k ∈ t.kids, k < g.length) (hl : g.length ≤ 1000000) (hsum : kidsSum g ≤ 1000000) :
    Calls Tryz.prog 86 #[vg] w fun e w' => ∃ v, e = .returned v ∧ KRow w' w.heap.size v (orderM g) ∧ Below w.heap.size w w' := by
  obtain ⟨A, c, rfl⟩ := hg.shape
  obtain ⟨V, hV⟩ : ∃ V, orderM g = V := ⟨_, rfl⟩
  have HV : Hid (orderGo g (kidsSum g + g.length + 1) [0] [] = V) := Lib.hid hV
  rw [hV]
  have HG := Lib.hid hg
  have HK := Lib.hid hk
  obtain ⟨i0, hz, hz0, hz1, hz2⟩ := info_parts (show (Tryz.prog.info? 4).map (fun i => (i.zero, i.size, i.bytes)) = some (some (.bool false), 1, 1) from by kernel_rfl)
  have hmk : ∀ W : World, (Instr.makeSlice 208 (.int .i64 (g.length : Int)) (.int .i64 (g.length : Int))).run Tryz.prog W = .ok (.slice (some ⟨W.heap.size, 0, none⟩) g.length g.length) (W.alloc (.cells (madeCells #[.bool false] g.length) 4)) := fun W => by
    have := run_make (P := Tryz.prog) W 208 4 i0 (.bool false) Tryz.underlying208 hz hz0 .i64 .i64 (g.length : Int) (g.length : Int) (by omega) (Int.le_refl _) (by rw [hz2]; omega) (by omega)
    rw [hz1] at this
    simp only [Int.toNat_natCast, Nat.mul_one] at this
    exact this
  clear hV hg hk hz hz0 hz1 hz2
  go_enter Tryz.func86, Tryz.ntmps86
  go_wp2_with fail
  have hB0 := BolAt.made w g.length
  have hM0 : BolAt (w.alloc (.cells (madeCells #[.bool false] g.length) 4)) w.heap.size (metL g.length []) := by
    have e : List.replicate g.length false = metL g.length [] := by
      unfold metL
      apply List.ext_getElem <;> simp
    rw [← e]; exact hB0
  have hL0 := KRow.lit (w.alloc (.cells (madeCells #[.bool false] g.length) 4)) w.heap.size 0 (by simp)
  have hM1 := hM0.alloc (.cells #[.int .i64 ((0 : Nat) : Int)] 3)
  have hb1 : Below w.heap.size w ((w.alloc (.cells (madeCells #[.bool false] g.length) 4)).alloc (.cells #[.int .i64 ((0 : Nat) : Int)] 3)) := ((Below.refl _ _).alloc (Nat.le_refl _) _).alloc (by simp) _
  clear hB0 hM0 hmk
  rw [show (w.alloc (.cells (madeCells #[.bool false] g.length) 4)).heap.size = w.heap.size + 1 from by simp] at hL0
  rw [show ((0 : Nat) : Int) = 0 from rfl] at hL0 hM1 hb1
  generalize (w.alloc _).alloc _ = w1 at hL0 hM1 hb1 ⊢
  have hNB : ∀ k, (Value.slice (some ⟨w.heap.size + 1, 0, none⟩) 1 1).ownBlock = some k → (Value.slice none 0 0).ownBlock ≠ some k := fun k _ h => by cases h
  have hst := Lib.hid (show OrdAt w g w.heap.size V (.slice none 0 0) (.slice (some ⟨w.heap.size + 1, 0, none⟩) 1 1) w1 from
    ⟨[0], [], kidsSum g + g.length + 1, hL0, World.ownsRow_nil _ _ _ _, hNB, hM1, HV.out, by rw [remL_all]; simp; omega, by simp, fun k hk => by simp at hk; omega, hb1⟩)
  clear hL0 hM1 hb1 hNB HV
  go_loopw [4, 5] (fun o l wr => OrdAt w g w.heap.size V o l wr) (fun o l _ => (kidsSum g + g.length + 1 - slLen o) * (kidsSum g + 2) + slLen l)
  case atStart => exact hst.out
  case round =>
    clear hst
    obtain ⟨st, out, f, hL, hO, hap, hM, hgo, hf, hF, hS, hbw⟩ := hrel
    obtain ⟨A5, c5, rfl⟩ := hL.shape
    obtain ⟨A4, c4, rfl⟩ := hO.shape
    have hBw := hbw.size
    cases f with
    | zero => omega
    | succ f =>
    cases st with
    | nil =>
      have hVo : V = out := hgo.symm
      subst hVo
      go_wp2_with fail
      go_ret
      exact ⟨_, rfl, hO, hbw⟩
    | cons i rest =>
      have hi : i < g.length := hS i (by simp)
      obtain ⟨t, ht⟩ : ∃ t, g[i]? = some t := ⟨_, List.getElem?_eq_getElem hi⟩
      have htg : g.getD i ⟨0, [], [], []⟩ = t := by rw [List.getD_eq_getElem?_getD, ht]; rfl
      have hkt := HK.out t (List.mem_of_getElem? ht)
      have hks := kids_le ht
      have hln0 : (i :: rest).reverse.length = rest.length + 1 := by simp
      rw [hln0] at hap ⊢
      rw [List.reverse_cons] at hL
      have hcut := KRow.cut hL rest.length (by simp)
      rw [show (rest.reverse ++ [i]).take rest.length = rest.reverse from by rw [List.take_append_of_le_length (by simp), List.take_of_length_le (by simp)]] at hcut
      obtain ⟨g5, cap5, hA5, hc5, hcl5⟩ := own_cells hL (by simp)
      cases hA5
      have hcell5 : wr.cell? ⟨g5, rest.length, none⟩ = some (.int .i64 i) := by
        rw [hcl5 rest.length (by simp)]
        simp
      have hc5 : rest.length + 1 ≤ c5 := by simpa using hc5
      have hc5i : (rest.length : Int) ≤ c5 := by omega
      have hcm := hM.cell i (by rw [metL_len]; exact hi)
      rw [metL_get _ _ _ hi] at hcm
      have hsl : ∀ W, (Instr.slice 23 (.slice (some ⟨g5, 0, none⟩) (rest.length + 1) c5) none (some (.int .i64 (rest.length : Int))) none).run Tryz.prog W = .ok (.slice (some ⟨g5, 0, none⟩) rest.length c5) W := fun W =>
        cut_to 23 3 .i64 Tryz.underlying23 (fun w => by kernel_rfl) _ _ _ _ (by omega) W
      have hi2 : (i : Int) < g.length := by omega
      have hrl : rest.length ≤ 3000000 := by simp only [List.length_cons] at hf; omega
      have hol : out.length ≤ 3000000 := by omega
      have hrl2 : (rest.length : Int) ≤ 3000000 := by omega
      have HO := Lib.hid hO
      have HC := Lib.hid hcut
      have HM := Lib.hid hM
      have HF := Lib.hid (And.intro hf (And.intro hF (And.intro hS hap)))
      have HGO := Lib.hid hgo
      clear hcl5 hL hO hcut hM hf hF hS hap hgo hln0
      by_cases hin : i ∈ out
      · rw [decide_eq_true hin] at hcm
        have hgo2 : orderGo g f rest out = V := by
          have := HGO.out
          rwa [orderGo, if_pos hin] at this
        have hsl5 : slLen (.slice (some ⟨g5, 0, none⟩) (rest.length + 1) c5) = rest.length + 1 := rfl
        go_wp2
        go_roundw
        case rel =>
          obtain ⟨hf, hF, hS, hap⟩ := HF.out
          exact ⟨rest, out, f, by have := HC.out; rwa [← List.length_reverse] at this, HO.out, hap, HM.out, hgo2, by simp only [List.length_cons] at hf; omega, by omega, fun k hk => hS k (by simp [hk]), hbw⟩
        case measure => simp only [slLen]; omega
      · rw [decide_eq_false hin] at hcm
        have hgo2 : orderGo g f (t.kids ++ rest) (out ++ [i]) = V := by
          have := HGO.out
          rwa [orderGo, if_neg hin, htg] at this
        have hN5 : (Value.slice (some ⟨g5, 0, none⟩) rest.length c5).ownBlock ≠ some w.heap.size := by
          have := KRow.neBol HC.out HM.out
          exact this
        have hN4 := KRow.neBol HO.out HM.out
        have hM2 : BolAt (wr.setCell ⟨w.heap.size, i, none⟩ (.bool true)) w.heap.size (metL g.length (out ++ [i])) := by
          have := HM.out.set i true
          rwa [metL_set] at this
        have hO2 := KRow.other HO.out (a := ⟨w.heap.size, i, none⟩) hN4 (.bool true)
        have hC2 := KRow.other HC.out (a := ⟨w.heap.size, i, none⟩) hN5 (.bool true)
        have hfr := HM.out.free i
        have hb2 : Below w.heap.size w (wr.setCell ⟨w.heap.size, i, none⟩ (.bool true)) := hbw.setCell (Nat.le_refl _) _
        have hsz2 : (wr.setCell ⟨w.heap.size, i, none⟩ (.bool true)).heap.size = wr.heap.size := by simp
        have hO3 := hO2.below ((Below.refl _ _).alloc (Nat.le_refl _) (.cells #[.int .i64 (i : Nat)] 3))
        have hC3 := hC2.below ((Below.refl _ _).alloc (Nat.le_refl _) (.cells #[.int .i64 (i : Nat)] 3))
        have hM3 := hM2.alloc (.cells #[.int .i64 (i : Nat)] 3)
        have hb3 := hb2.alloc (by rw [hsz2]; exact hBw) (.cells #[.int .i64 (i : Nat)] 3)
        have hI3 := KRow.lit (wr.setCell ⟨w.heap.size, i, none⟩ (.bool true)) w.heap.size i (by rw [hsz2]; exact hBw)
        rw [hsz2] at hI3
        have hsz3 : ((wr.setCell ⟨w.heap.size, i, none⟩ (.bool true)).alloc (.cells #[.int .i64 (i : Nat)] 3)).heap.size = wr.heap.size + 1 := by simp
        obtain ⟨v4, w4, happ, hO4, hg4, hor4⟩ := KRow.append hO3 hI3 (by simp; omega) (by rw [hsz3]; omega)
        have hm4 : ∀ k, (Value.slice A4 out.length c4).ownBlock = some k → w.heap.size ≤ k := fun k hk => (hO3.at k hk).1
        have hb4 := hb3.grown hg4 (by rw [hsz3]; omega) hm4
        have hM4 := hM3.kept hg4 (fun e => hN4 e.symm)
        have hC4 := hC3.grown hg4 (fun k hk e => HF.out.2.2.2 k hk e)
        have hsz4 : wr.heap.size + 1 ≤ w4.heap.size := by have := hg4.size; rwa [hsz3] at this
        have hvs : ∃ A c, v4 = .slice A (out ++ [i]).length c := hO4.shape
        have hbC : ∀ k, (Value.slice (some ⟨g5, 0, none⟩) rest.length c5).ownBlock = some k → k < wr.heap.size := fun k hk => (HC.out.at k hk).2
        have hap4 : ∀ k, (Value.slice (some ⟨g5, 0, none⟩) rest.length c5).ownBlock = some k → v4.ownBlock ≠ some k := fun k hk e => by
          rcases hor4 with h | h
          · rw [h] at e
            exact HF.out.2.2.2 k hk e
          · rw [h, hsz3] at e
            have := hbC k hk
            simp only [Option.some.injEq] at e
            omega
        clear hO2 hC2 hM2 hb2 hO3 hC3 hM3 hI3 hb3 hg4 hor4 hm4
        rcases HG.out.below hb4 with ⟨h00, _⟩ | ⟨b, cb, hv, hcb, htr⟩
        · rw [h00] at hi; simp at hi
        · cases hv
          obtain ⟨kv, hcl, hkr⟩ := htr i t ht
          have q3 : w4.cell? ⟨b, i * 4 + 3, none⟩ = some kv := hcl 3 (by omega)
          clear htr hcl
          go_wp2_with (at_builtin; refine wpList_append_run rfl _ _ 23 rfl _ _ rfl rfl _ _ happ ?_)
          clear happ hfr hcm hcell5 hN5 hN4
          refine (clone_any kv t.kids w4 hkr (by omega)).mono ?_
          rintro e w5 ⟨u, rfl, hu, hb5⟩
          have hO5 := hO4.below hb5
          have hC5 := hC4.below hb5
          have hM5 := hM4.below hb5
          have hbw5 := hb4.trans (hb5.mono hb4.size)
          have hs5 := hb5.size
          go_wp2_with fail
          refine (reverse_any u _ t.kids w5 hu (by omega)).mono ?_
          rintro e w6 ⟨rfl, hu6, hg6⟩
          have hul : ∀ k, u.ownBlock = some k → w4.heap.size ≤ k := fun k hk => (hu.at k hk).1
          have hO6 := hO5.grown hg6 (fun k hk e => by have h1 := (hO4.at k hk).2; have h2 := hul k e; omega)
          have hC6 := hC5.grown hg6 (fun k hk e => by have h1 := (hC4.at k hk).2; have h2 := hul k e; omega)
          have hM6 := hM5.kept hg6 (fun e => by have h1 := hM4.lt; have h2 := hul _ e.symm; omega)
          have hbw6 := below_row hbw5 hbw5.size hg6 (fun k hk => by have := hul k hk; omega)
          have hs6 := hg6.size
          obtain ⟨v7, w7, happ7, hL7, hg7, hor7⟩ := KRow.append hC6 (hu6.less (by omega)) (by simp; omega) (by omega)
          have hO7 := hO6.grown hg7 (fun k hk e => hap4 k e hk)
          have hM7 := hM6.kept hg7 (fun e => KRow.neBol hC6 hM6 e.symm)
          have hbw7 := below_row hbw6 (by omega) hg7 (fun k hk => (hC6.at k hk).1)
          have hap7 : ∀ k, v7.ownBlock = some k → v4.ownBlock ≠ some k := fun k hk e => by
            rcases hor7 with h | h
            · rw [h] at hk
              exact hap4 k hk e
            · rw [h] at hk
              have := (hO4.at k e).2
              simp only [Option.some.injEq] at hk
              omega
          obtain ⟨A7, c7, rfl⟩ := hL7.shape
          obtain ⟨A8, c8, rfl⟩ := hvs
          have HL7 := Lib.hid hL7
          have HO7 := Lib.hid hO7
          have HM7 := Lib.hid hM7
          have HP7 := Lib.hid hap7
          clear hO5 hC5 hM5 hbw5 hO6 hC6 hM6 hbw6 hO4 hC4 hM4 hb4 hu hu6 hg6 hg7 hor7 hap7 hap4 hL7 hO7 hM7 hul hb5 hkr q3 hbC
          go_wp2_with (at_builtin; refine wpList_append_run rfl _ _ 23 rfl _ _ rfl rfl _ _ happ7 ?_)
          go_roundw
          case rel =>
            obtain ⟨hf, hF, hS, hap⟩ := HF.out
            have hrs := remL_step (kidN g) out i hin (List.range g.length) (by simpa using hi)
            have hkn : kidN g i = t.kids.length := by unfold kidN; rw [htg]
            have e7 : (rest.reverse ++ t.kids.reverse).length = rest.length + t.kids.length := by simp
            have e8 : (out ++ [i]).length = out.length + 1 := by simp
            have hL8 := HL7.out
            have hO8 := HO7.out
            have hP8 := HP7.out
            rw [e7] at hL8 hP8
            rw [e8] at hO8 hP8
            refine ⟨t.kids ++ rest, out ++ [i], f, by rw [List.reverse_append]; exact hL8, hO8, hP8, HM7.out, hgo2, ?_, ?_, fun k hk => ?_, hbw7⟩
            · simp only [List.length_cons, List.length_append] at hf ⊢; omega
            · simp only [List.length_append, List.length_cons, List.length_nil]; omega
            · rcases List.mem_append.1 hk with h | h
              · exact hkt k h
              · exact hS k (by simp [h])
          case measure =>
            obtain ⟨hf, hF, hS, hap⟩ := HF.out
            simp only [slLen]
            have h1 : kidsSum g + g.length + 1 - out.length = (kidsSum g + g.length + 1 - (out.length + 1)) + 1 := by omega
            rw [h1, Nat.succ_mul]
            generalize (kidsSum g + g.length + 1 - (out.length + 1)) * (kidsSum g + 2) = X
            omega
end Go.Proofs.YtghigiapfmlkbaaGreatDoor
