/- check.Compose: the walk. -/
import Derived.Test.YtmindclciogneaaDoorK3
import Derived.Deep.AppendLies
import Derived.Deep.RegionLaw
import Derived.Deep.DrawnRows
import Derived.Deep.DeepCutAuto
import Derived.Deep.RegionWith
namespace Go.Proofs.YtmindclciogneaaDoor
open Go.RowKit
open Go.Maps (Keyed)
attribute [local go_sem ↓] Go.wp_at_zero Go.wp_at_succ

theorem getD_zeros (acc : List Nat) (n i : Nat) : (acc ++ List.replicate n 0).getD i 0 = acc.getD i 0 := by
  by_cases h : i < acc.length
  · simp [List.getD_eq_getElem?_getD, List.getElem?_append_left h]
  · rw [List.getD_eq_getElem?_getD, List.getElem?_append_right (by omega), List.getD_eq_getElem?_getD, List.getElem?_eq_none (by omega : acc.length ≤ i)]
    rw [List.getElem?_replicate]
    split <;> rfl
theorem set_zeros (acc : List Nat) (n k v : Nat) (hk : acc.length = k) (hn : 0 < n) : (acc ++ List.replicate n 0).set k v = (acc ++ [v]) ++ List.replicate (n - 1) 0 := by
  obtain ⟨n, rfl⟩ : ∃ j, n = j + 1 := ⟨n - 1, by omega⟩
  rw [List.set_append_right _ _ (by omega), hk, Nat.sub_self, List.replicate_succ, List.set_cons_zero]
  simp
theorem tg_lt {m : List Nd} {k j : Nat} (h : tgTo m m.length k = some j) : j < m.length := by
  unfold tgTo targetAt at h
  split at h
  · split at h
    · exact anchor_lt h
    · cases h
  · cases h
/-- The things of some nodes. -/
def thingsTo (num : List Nat) (m : List Nd) (k : Nat) : List Th := ((m.take k).filter fun x => x.kind != 4).map (thingOf num)
theorem thingsTo_step (num : List Nat) (m : List Nd) (k : Nat) (y : Nd) (hy : m[k]? = some y) : thingsTo num m (k + 1) = if y.kind = 4 then thingsTo num m k else thingsTo num m k ++ [thingOf num y] := by
  have hk : k < m.length := (List.getElem?_eq_some_iff.1 hy).1
  have e : m[k] = y := (List.getElem?_eq_some_iff.1 hy).2
  unfold thingsTo
  rw [List.take_succ_eq_append_getElem hk, e, List.filter_append, List.map_append]
  by_cases h : y.kind = 4
  · simp [h]
  · have : (y.kind != 4) = true := by simpa using h
    simp [h, this]

theorem out_drew {w : World} {B : Nat} {v : Value} {l : List (Th × Value)} (h : OutAt w B v l) : OutAt w.drew B v l := ⟨h.row.drew, fun p hp => World.ownsRow.drew (h.kids p hp), h.apart⟩
theorem w1d {w w' : World} {row : Option Nat} (h : w.drew.grownBy w' row) : w.grownBy w' row := ⟨h.os, h.tape, h.output, h.size, h.block⟩
theorem below_row {B : Nat} {w w1 w2 : World} {row : Option Nat} (h : Below B w w1) (hB : B ≤ w1.heap.size) (hg : w1.grownBy w2 row) (hr : ∀ k, row = some k → B ≤ k) : Below B w w2 :=
  ⟨hg.os.trans h.os, hg.tape.trans h.tape, hg.output.trans h.output, Nat.le_trans h.size hg.size, fun k hk => (hg.block k (by omega) (fun e => by have := hr k e.symm; omega)).trans (h.block k hk)⟩

set_option maxRecDepth 100000 in
set_option maxHeartbeats 8000000 in
theorem compose_ok (v : Value) (m : List Nd) (w : World) (h : TreeR w v m) (hm : m.length ≤ 1000000) (hsum : sumK m ≤ 1000000) (hkb : ∀ y ∈ m, ∀ k ∈ y.kids, k < m.length) (hst : ∀ y ∈ m, y.tag.length ≤ 1000000 ∧ y.anchor.length ≤ 1000000 ∧ y.value.length ≤ 1000000) (hc : (checkM m).1 = 0) :
    Calls Tryd.prog 23 #[v] w fun e w' => ∃ u l, e = .returned (.tuple #[u, .int .i64 0]) ∧ OutAt w' w.heap.size u l ∧ l.map (·.1) = thingsL m ∧ Below w.heap.size w w' := by
  obtain ⟨A, c, rfl⟩ := h.shape
  have hkb2 : ∀ y ∈ m, ∀ k ∈ y.kids, k ≤ 1000000 := fun y hy k hk => by have := hkb y hy k hk; omega
  have ck := ccheck_any _ m w h hm hsum hkb2 hst
  have ct := fun W (h : TreeR W (.slice A m.length c) m) => targets_any _ m W h hm hst
  have H0 := Lib.hid h
  have HKB := Lib.hid hkb
  have hsk : ∀ y ∈ m, y.kids.length ≤ 1000000 := fun y hy => by
    obtain ⟨i, hi⟩ := List.mem_iff_getElem?.1 hy
    have h1 := sumK_take m i y hi
    have h2 := sumK_le m (i + 1)
    omega
  have HSK := Lib.hid hsk
  rw [show (checkM m) = (0, (checkM m).2) from by rw [← hc]] at ck
  generalize (checkM m).2 = cat at ck
  obtain ⟨NU, hNU⟩ : ∃ NU, numL m = NU := ⟨_, rfl⟩
  have HNU := Lib.hid hNU
  obtain ⟨i0, hz, hz0, hz1, hz2⟩ := info_parts info_int
  have hmk := fun W : World => run_make (P := Tryd.prog) W 37 3 i0 (.int .i64 0) Tryd.underlying37 hz hz0 .i64 .i64 (m.length : Int) (m.length : Int) (by omega) (Int.le_refl _) (by rw [hz2]; omega) (by omega)
  replace hmk : ∀ W : World, (Instr.makeSlice 37 (.int .i64 (m.length : Int)) (.int .i64 (m.length : Int))).run Tryd.prog W = .ok (.slice (some ⟨W.heap.size, 0, none⟩) m.length m.length) (W.alloc (.cells (madeCells #[.int .i64 0] m.length) 3)) := fun W => by
    have := hmk W
    rw [hz1] at this
    simp only [Int.toNat_natCast, Nat.mul_one] at this
    exact this
  obtain ⟨i1, ty0, ty1, ty2, ty3⟩ := info_parts info_thing
  have HI0 := Lib.hid (And.intro hz (And.intro hz0 (And.intro hz1 hz2)))
  have HI1 := Lib.hid (And.intro ty0 (And.intro ty1 (And.intro ty2 ty3)))
  clear h hst hkb hkb2 hc hNU hz hz0 hz1 hz2 ty0 ty1 ty2 ty3 hsk
  go_enter Tryd.func23, Tryd.ntmps23
  go_wp2_with fail
  refine ck.mono ?_
  rintro e w1 ⟨rfl, hb1⟩
  clear ck
  go_wp2_with fail
  refine (ct w1 (H0.out.below hb1)).mono ?_
  rintro e w2 ⟨bT, nT, rfl, hbT, hnT, hT0, hb2⟩
  have hb2 := bthen hb1 hb2
  have hbT2 : w.heap.size ≤ bT := Nat.le_trans hb1.size hbT
  have hl2 := hT0.lt
  have hN0 := NumAt.made w2 m.length
  have hT3 := hT0.alloc (.cells (madeCells #[.int .i64 0] m.length) 3)
  have hb3 := hb2.alloc hb2.size (.cells (madeCells #[.int .i64 0] m.length) 3)
  have hwN := hb2.size
  clear ct hb1 hbT
  go_wp2_with fail
  clear hmk hT0 hb2
  generalize w2.alloc _ = w3 at hN0 hT3 hb3 ⊢
  generalize w2.heap.size = N at hN0 hl2 hwN ⊢
  go_loopw [32, 8] (fun i th wr => ∃ k : Nat, i = .int .i64 k ∧ k ≤ m.length ∧ th = .int .i64 ((numGo (tgTo m m.length) (m.take k) [] 0).2 : Nat) ∧ NumAt wr N ((numGo (tgTo m m.length) (m.take k) [] 0).1 ++ List.replicate (m.length - k) 0) ∧ MapF Tryd.prog 3 3 wr bT nT (intF (tgTo m m.length)) ∧ Below w.heap.size w wr) (fun i _ _ => m.length - (intOf i).toNat)
  case atStart => exact ⟨0, rfl, Nat.zero_le _, rfl, hN0, hT3, hb3⟩
  case round =>
    obtain ⟨k, rfl, hk, rfl, hN, hT, hbw⟩ := hrel
    clear hN0 hT3 hb3
    have hng := numGo_len (tgTo m m.length) (m.take k) [] 0
    rw [List.length_take, Nat.min_eq_left hk, List.length_nil, Nat.zero_add] at hng
    by_cases hlt : k < m.length
    · obtain ⟨y, hy⟩ : ∃ y, m[k]? = some y := ⟨_, List.getElem?_eq_getElem hlt⟩
      have HST := Lib.hid (numGo_step (tgTo m m.length) m k y hy)
      have htl : (tgTo m m.length k).getD 0 < m.length := by
        cases htk : tgTo m m.length k with
        | none => simp; omega
        | some j => exact tg_lt htk
      have hlk : ∀ W : World, MapF Tryd.prog 3 3 W bT nT (intF (tgTo m m.length)) → (Instr.lookup 71 (.map (some bT)) (.int .i64 (k : Nat)) false).run Tryd.prog W = .ok (.int .i64 ((tgTo m m.length k).getD 0 : Nat)) W := fun W hW => by
        rw [hW.look_at intLaw Tryd.underlying71 (intZero _) (intKey k (by omega)) _ (intF_at _ k)]
        cases tgTo m m.length k <;> rfl
      have HLK := Lib.hid hlk
      have HLEN := Lib.hid hng.1
      have hthk := hng.2
      clear hlk hng
      generalize numGo (tgTo m m.length) (m.take k) [] 0 = R at *
      obtain ⟨acc, th⟩ := R
      dsimp only at hN HLEN hthk HST
      rcases H0.out with ⟨h0, _⟩ | ⟨g, c2, hv, hc2, htr⟩
      · subst h0; simp at hlt
      · cases hv
        obtain ⟨kv, hcl, hkr⟩ := htr k y hy
        obtain ⟨A2, cp3, rfl⟩ := hkr.shape
        have q0 : wr.cell? ⟨g, k * 10, none⟩ = some (.int .i64 y.kind) := pw_cell hbw (hcl 0 (by omega))
        have q1 : wr.cell? ⟨g, k * 10 + 1, none⟩ = some (.int .i64 y.style) := pw_cell hbw (hcl 1 (by omega))
        have q2 : wr.cell? ⟨g, k * 10 + 2, none⟩ = some (.string ⟨y.tag.toArray⟩) := pw_cell hbw (hcl 2 (by omega))
        have q3 : wr.cell? ⟨g, k * 10 + 3, none⟩ = some (.string ⟨y.anchor.toArray⟩) := pw_cell hbw (hcl 3 (by omega))
        have q4 : wr.cell? ⟨g, k * 10 + 4, none⟩ = some (.string ⟨y.value.toArray⟩) := pw_cell hbw (hcl 4 (by omega))
        have q5 : wr.cell? ⟨g, k * 10 + 5, none⟩ = some (.int .i64 y.start) := pw_cell hbw (hcl 5 (by omega))
        have q6 : wr.cell? ⟨g, k * 10 + 6, none⟩ = some (.int .i64 y.stop) := pw_cell hbw (hcl 6 (by omega))
        have q7 : wr.cell? ⟨g, k * 10 + 7, none⟩ = some (.int .i64 y.head) := pw_cell hbw (hcl 7 (by omega))
        have q8 : wr.cell? ⟨g, k * 10 + 8, none⟩ = some (.int .i64 y.mark) := pw_cell hbw (hcl 8 (by omega))
        have q9 : wr.cell? ⟨g, k * 10 + 9, none⟩ = some (.slice A2 y.kids.length cp3) := pw_cell hbw (hcl 9 (by omega))
        have HKR := Lib.hid hkr
        clear htr hcl hkr
        go_upto_region 10 with fail
        have c0 : (wr.alloc (.cells #[.int .i64 y.kind, .int .i64 y.style, .string ⟨y.tag.toArray⟩, .string ⟨y.anchor.toArray⟩, .string ⟨y.value.toArray⟩, .int .i64 y.start, .int .i64 y.stop, .int .i64 y.head, .int .i64 y.mark, .slice A2 y.kids.length cp3] 42)).cell? ⟨wr.heap.size, 0, none⟩ = some (.int .i64 y.kind) := by rw [World.cell?_alloc_at _ _ _ _ rfl]; rfl
        have hN4 := hN.alloc (.cells #[.int .i64 y.kind, .int .i64 y.style, .string ⟨y.tag.toArray⟩, .string ⟨y.anchor.toArray⟩, .string ⟨y.value.toArray⟩, .int .i64 y.start, .int .i64 y.stop, .int .i64 y.head, .int .i64 y.mark, .slice A2 y.kids.length cp3] 42)
        have hT4 := hT.alloc (.cells #[.int .i64 y.kind, .int .i64 y.style, .string ⟨y.tag.toArray⟩, .string ⟨y.anchor.toArray⟩, .string ⟨y.value.toArray⟩, .int .i64 y.start, .int .i64 y.stop, .int .i64 y.head, .int .i64 y.mark, .slice A2 y.kids.length cp3] 42)
        have hb4 := hbw.alloc hbw.size (.cells #[.int .i64 y.kind, .int .i64 y.style, .string ⟨y.tag.toArray⟩, .string ⟨y.anchor.toArray⟩, .string ⟨y.value.toArray⟩, .int .i64 y.start, .int .i64 y.stop, .int .i64 y.head, .int .i64 y.mark, .slice A2 y.kids.length cp3] 42)
        have hBB : wr.heap.size < (wr.alloc (.cells #[.int .i64 y.kind, .int .i64 y.style, .string ⟨y.tag.toArray⟩, .string ⟨y.anchor.toArray⟩, .string ⟨y.value.toArray⟩, .int .i64 y.start, .int .i64 y.stop, .int .i64 y.head, .int .i64 y.mark, .slice A2 y.kids.length cp3] 42)).heap.size := by simp
        clear q0 q1 q2 q3 q4 q5 q6 q7 q8 q9 hbw hN hT
        generalize wr.alloc _ = w4 at c0 hb4 hBB hN4 hT4 ⊢
        generalize wr.heap.size = B4 at c0 hBB ⊢
        have hfr := hN4.free k
        have hki : (k : Int) < m.length := by omega
        by_cases hk4 : y.kind = 4
        · have hkb : ((y.kind : Int) == 4) = true := by rw [hk4]; rfl
          have hlk := HLK.out w4 hT4
          have HF : Hid (numGo (tgTo m m.length) (m.take (k + 1)) [] 0 = (acc ++ [acc.getD ((tgTo m m.length k).getD 0) 0], th)) := Lib.hid (by rw [HST.out, if_pos hk4])
          generalize (tgTo m m.length k).getD 0 = tg at *
          have hc0 := hN4.cell tg (by have := HLEN.out; simp; omega)
          rw [getD_zeros] at hc0
          generalize acc.getD tg 0 = V at *
          have hti : (tg : Int) < m.length := by omega
          have hold := hN4.cell k (by have := HLEN.out; simp; omega)
          have hN5 := hN4.set k V
          rw [set_zeros acc _ k V HLEN.out (by omega)] at hN5
          have hT5 := hT4.setCell (a := ⟨N, k, none⟩) (by simp; omega) (.int .i64 (V : Int))
          have hb5 := hb4.setCell (p := ⟨N, k, none⟩) hwN (.int .i64 (V : Int))
          clear hk4 HST hN4 hT4
          go_wp2
          go_roundw
          case rel => exact ⟨k + 1, by go_num, by omega, by rw [HF.out], by rw [HF.out, show m.length - (k + 1) = m.length - k - 1 by omega]; exact hN5, hT5, hb5⟩
          case measure => simp [intOf]; omega
        · have hkb : ((y.kind : Int) == 4) = false := by simp; omega
          have HF : Hid (numGo (tgTo m m.length) (m.take (k + 1)) [] 0 = (acc ++ [th], th + 1)) := Lib.hid (by rw [HST.out, if_neg hk4])
          have hold := hN4.cell k (by have := HLEN.out; simp; omega)
          have hN5 := hN4.set k th
          rw [set_zeros acc _ k th HLEN.out (by omega)] at hN5
          have hT5 := hT4.setCell (a := ⟨N, k, none⟩) (by simp; omega) (.int .i64 (th : Int))
          have hb5 := hb4.setCell (p := ⟨N, k, none⟩) hwN (.int .i64 (th : Int))
          clear hk4 HST hN4 hT4
          go_wp2
          go_roundw
          case rel => exact ⟨k + 1, by go_num, by omega, by rw [HF.out]; go_num, by rw [HF.out, show m.length - (k + 1) = m.length - k - 1 by omega]; exact hN5, hT5, hb5⟩
          case measure => simp [intOf]; omega
    · have hge : (m.length : Int) ≤ k := by omega
      have hN1 : NumAt wr N NU := by
        rw [show m.length - k = 0 by omega, List.replicate_zero, List.append_nil, List.take_of_length_le (by omega)] at hN
        rw [← HNU.out]
        exact hN
      have HNL : Hid (NU.length = m.length) := Lib.hid (by rw [← HNU.out]; have := (numGo_len (tgTo m m.length) m [] 0).1; simpa [numL] using this)
      clear hN hng hT
      go_wp2_with fail
      have hbB := hbw.size
      have hNB := hN1.lt
      obtain ⟨wo, rfl⟩ : ∃ wo : World, wo = wr := ⟨_, rfl⟩
      go_loopw [58, 11] (fun i out wi => ∃ (k : Nat) (l : List (Th × Value)), i = .int .i64 k ∧ k ≤ m.length ∧ OutAt wi wo.heap.size out l ∧ l.map (·.1) = thingsTo NU m k ∧ l.length ≤ k ∧ NumAt wi N NU ∧ wo.heap.size ≤ wi.heap.size ∧ Below w.heap.size w wi) (fun i _ _ => m.length - (intOf i).toNat)
      case atStart => exact ⟨0, [], rfl, Nat.zero_le _, OutAt.nil _ _, rfl, Nat.le_refl _, hN1, Nat.le_refl _, hbw⟩
      case round =>
        obtain ⟨k, l, rfl, hk, hO, hl, hll, hN, hsz, hbw⟩ := hrel
        clear hN1
        obtain ⟨AO, cO, hOs⟩ := hO.shape
        subst hOs
        have HL := Lib.hid hl
        clear hl
        by_cases hlt : k < m.length
        · obtain ⟨y, hy⟩ : ∃ y, m[k]? = some y := ⟨_, List.getElem?_eq_getElem hlt⟩
          have HST := Lib.hid (thingsTo_step NU m k y hy)
          have hyl := HSK.out y (List.mem_of_getElem? hy)
          have HYK := Lib.hid (HKB.out y (List.mem_of_getElem? hy))
          rcases H0.out with ⟨h0, _⟩ | ⟨g, c2, hv, hc2, htr⟩
          · subst h0; simp at hlt
          · cases hv
            obtain ⟨kv, hcl, hkr⟩ := htr k y hy
            obtain ⟨A2, cp3, rfl⟩ := hkr.shape
            have q0 : wr.cell? ⟨g, k * 10, none⟩ = some (.int .i64 y.kind) := pw_cell hbw (hcl 0 (by omega))
            have q1 : wr.cell? ⟨g, k * 10 + 1, none⟩ = some (.int .i64 y.style) := pw_cell hbw (hcl 1 (by omega))
            have q2 : wr.cell? ⟨g, k * 10 + 2, none⟩ = some (.string ⟨y.tag.toArray⟩) := pw_cell hbw (hcl 2 (by omega))
            have q3 : wr.cell? ⟨g, k * 10 + 3, none⟩ = some (.string ⟨y.anchor.toArray⟩) := pw_cell hbw (hcl 3 (by omega))
            have q4 : wr.cell? ⟨g, k * 10 + 4, none⟩ = some (.string ⟨y.value.toArray⟩) := pw_cell hbw (hcl 4 (by omega))
            have q5 : wr.cell? ⟨g, k * 10 + 5, none⟩ = some (.int .i64 y.start) := pw_cell hbw (hcl 5 (by omega))
            have q6 : wr.cell? ⟨g, k * 10 + 6, none⟩ = some (.int .i64 y.stop) := pw_cell hbw (hcl 6 (by omega))
            have q7 : wr.cell? ⟨g, k * 10 + 7, none⟩ = some (.int .i64 y.head) := pw_cell hbw (hcl 7 (by omega))
            have q8 : wr.cell? ⟨g, k * 10 + 8, none⟩ = some (.int .i64 y.mark) := pw_cell hbw (hcl 8 (by omega))
            have q9 : wr.cell? ⟨g, k * 10 + 9, none⟩ = some (.slice A2 y.kids.length cp3) := pw_cell hbw (hcl 9 (by omega))
            have HKR := Lib.hid hkr
            clear htr hcl hkr
            go_upto_region 19 with fail
            have c0 : (wr.alloc (.cells #[.int .i64 y.kind, .int .i64 y.style, .string ⟨y.tag.toArray⟩, .string ⟨y.anchor.toArray⟩, .string ⟨y.value.toArray⟩, .int .i64 y.start, .int .i64 y.stop, .int .i64 y.head, .int .i64 y.mark, .slice A2 y.kids.length cp3] 42)).cell? ⟨wr.heap.size, 0, none⟩ = some (.int .i64 y.kind) := by rw [World.cell?_alloc_at _ _ _ _ rfl]; rfl
            have c2 : (wr.alloc (.cells #[.int .i64 y.kind, .int .i64 y.style, .string ⟨y.tag.toArray⟩, .string ⟨y.anchor.toArray⟩, .string ⟨y.value.toArray⟩, .int .i64 y.start, .int .i64 y.stop, .int .i64 y.head, .int .i64 y.mark, .slice A2 y.kids.length cp3] 42)).cell? ⟨wr.heap.size, 2, none⟩ = some (.string ⟨y.tag.toArray⟩) := by rw [World.cell?_alloc_at _ _ _ _ rfl]; rfl
            have c4 : (wr.alloc (.cells #[.int .i64 y.kind, .int .i64 y.style, .string ⟨y.tag.toArray⟩, .string ⟨y.anchor.toArray⟩, .string ⟨y.value.toArray⟩, .int .i64 y.start, .int .i64 y.stop, .int .i64 y.head, .int .i64 y.mark, .slice A2 y.kids.length cp3] 42)).cell? ⟨wr.heap.size, 4, none⟩ = some (.string ⟨y.value.toArray⟩) := by rw [World.cell?_alloc_at _ _ _ _ rfl]; rfl
            have c9 : (wr.alloc (.cells #[.int .i64 y.kind, .int .i64 y.style, .string ⟨y.tag.toArray⟩, .string ⟨y.anchor.toArray⟩, .string ⟨y.value.toArray⟩, .int .i64 y.start, .int .i64 y.stop, .int .i64 y.head, .int .i64 y.mark, .slice A2 y.kids.length cp3] 42)).cell? ⟨wr.heap.size, 9, none⟩ = some (.slice A2 y.kids.length cp3) := by rw [World.cell?_alloc_at _ _ _ _ rfl]; rfl
            have hN4 := hN.alloc (.cells #[.int .i64 y.kind, .int .i64 y.style, .string ⟨y.tag.toArray⟩, .string ⟨y.anchor.toArray⟩, .string ⟨y.value.toArray⟩, .int .i64 y.start, .int .i64 y.stop, .int .i64 y.head, .int .i64 y.mark, .slice A2 y.kids.length cp3] 42)
            have hO4 := hO.alloc (.cells #[.int .i64 y.kind, .int .i64 y.style, .string ⟨y.tag.toArray⟩, .string ⟨y.anchor.toArray⟩, .string ⟨y.value.toArray⟩, .int .i64 y.start, .int .i64 y.stop, .int .i64 y.head, .int .i64 y.mark, .slice A2 y.kids.length cp3] 42)
            have hb4 := hbw.alloc hbw.size (.cells #[.int .i64 y.kind, .int .i64 y.style, .string ⟨y.tag.toArray⟩, .string ⟨y.anchor.toArray⟩, .string ⟨y.value.toArray⟩, .int .i64 y.start, .int .i64 y.stop, .int .i64 y.head, .int .i64 y.mark, .slice A2 y.kids.length cp3] 42)
            have hBB : wr.heap.size < (wr.alloc (.cells #[.int .i64 y.kind, .int .i64 y.style, .string ⟨y.tag.toArray⟩, .string ⟨y.anchor.toArray⟩, .string ⟨y.value.toArray⟩, .int .i64 y.start, .int .i64 y.stop, .int .i64 y.head, .int .i64 y.mark, .slice A2 y.kids.length cp3] 42)).heap.size := by simp
            clear q0 q1 q2 q3 q4 q5 q6 q7 q8 q9 hbw hN hO
            generalize wr.alloc _ = w4 at c0 c2 c4 c9 hb4 hBB hN4 hO4 ⊢
            generalize wr.heap.size = B4 at c0 c2 c4 c9 hBB hsz ⊢
            by_cases hk4 : y.kind = 4
            · have hkb : ((y.kind : Int) == 4) = true := by rw [hk4]; rfl
              have HF : Hid (thingsTo NU m (k + 1) = thingsTo NU m k) := Lib.hid (by rw [HST.out, if_pos hk4])
              clear hk4 HST
              go_wp2
              go_roundw
              case rel => exact ⟨k + 1, l, by go_num, by omega, hO4, by rw [HF.out]; exact HL.out, by omega, hN4, by omega, hb4⟩
              case measure => simp [intOf]; omega
            · have hkb : ((y.kind : Int) == 4) = false := by simp; omega
              obtain ⟨kd, hkd⟩ : ∃ kd, (if y.kind = 0 then 1 else y.kind) = kd := ⟨_, rfl⟩
              have HF : Hid (thingsTo NU m (k + 1) = thingsTo NU m k ++ [⟨kd, y.tag, y.value, y.kids.map fun j => NU.getD j 0⟩]) := Lib.hid (by rw [HST.out, if_neg hk4, ← hkd]; rfl)
              clear hk4 HST
              obtain ⟨T, hTs⟩ : ∃ T, w4.heap.size = T := ⟨_, rfl⟩
              obtain ⟨w5, hw5⟩ : ∃ w5, w4.alloc (.cells #[.int .i64 kd, .string ⟨y.tag.toArray⟩, .string ⟨y.value.toArray⟩, .slice none 0 0] 53) = w5 := ⟨_, rfl⟩
              have hT5 : w5.heap[T]? = some (.cells #[.int .i64 (kd : Nat), .string ⟨y.tag.toArray⟩, .string ⟨y.value.toArray⟩, .slice none 0 0] 53 (0, 0)) := by rw [← hw5, ← hTs]; exact heap_alloc_new w4 _
              have hN5 : NumAt w5 N NU := by rw [← hw5]; exact hN4.alloc _
              have hO5 : OutAt w5 wo.heap.size (.slice AO l.length cO) l := by rw [← hw5]; exact hO4.alloc _
              have hb5 : Below w.heap.size w w5 := by rw [← hw5]; exact hb4.alloc hb4.size _
              have hs5 : wo.heap.size ≤ T ∧ T < w5.heap.size := by rw [← hw5, ← hTs]; simp; omega
              have HW5 := Lib.hid hw5
              have HTS := Lib.hid hTs
              have HKD := Lib.hid hkd
              clear hw5 hTs hkd
              have hAOT : (Value.slice AO l.length cO).ownBlock ≠ some T := fun e => by
                have h1 := (World.ownsRow.lt hO4.row T e).2
                have h2 := HTS.out
                omega
              clear hN4 hO4 hb4
              by_cases hk0 : y.kind = 0
              case' pos =>
                have hkb0 : ((y.kind : Int) == 0) = true := by rw [hk0]; rfl
                have HK1 : Hid (kd = 1) := Lib.hid (by rw [← HKD.out, if_pos hk0])
                clear hk0
                go_wp2_with fail
                have e5 : w4.alloc (.cells #[.int .i64 1, .string ⟨y.tag.toArray⟩, .string ⟨y.value.toArray⟩, .slice none 0 0] 53) = w5 := by have := HW5.out; rw [HK1.out] at this; exact this
                rw [e5, HTS.out]
                clear e5
              case' neg =>
                have hkb0 : ((y.kind : Int) == 0) = false := by simp; omega
                have HK1 : Hid (y.kind = kd) := Lib.hid (by rw [← HKD.out, if_neg hk0])
                clear hk0
                go_wp2_with fail
                have e5 : w4.alloc (.cells #[.int .i64 y.kind, .string ⟨y.tag.toArray⟩, .string ⟨y.value.toArray⟩, .slice none 0 0] 53) = w5 := by rw [HK1.out]; exact HW5.out
                rw [e5, HTS.out]
                clear e5
              all_goals
                clear c0 c2 c4 c9
                obtain ⟨wo2, rfl⟩ : ∃ wo2 : World, wo2 = wr := ⟨_, rfl⟩
                go_loopw [79, 16] (fun j _ wi => ∃ (q : Nat) (kv : Value), j = .int .i64 q ∧ q ≤ y.kids.length ∧ wi.heap[T]? = some (.cells #[.int .i64 (kd : Nat), .string ⟨y.tag.toArray⟩, .string ⟨y.value.toArray⟩, kv] 53 (0, 0)) ∧ wi.ownsRow wo.heap.size 3 1 kv q (((y.kids.take q).map fun j => NU.getD j 0).map fun k : Nat => Value.int .i64 (k : Int)) ∧ (∀ p ∈ l, ∀ b, p.2.ownBlock = some b → kv.ownBlock ≠ some b) ∧ NumAt wi N NU ∧ OutAt wi wo.heap.size (.slice AO l.length cO) l ∧ wo.heap.size ≤ wi.heap.size ∧ Below w.heap.size w wi) (fun j _ _ => y.kids.length - (intOf j).toNat)
                case atStart => exact ⟨0, .slice none 0 0, rfl, Nat.zero_le _, hT5, World.ownsRow_nil _ _ _ _, (fun p _ b _ e => by cases e), hN5, hO5, by omega, hb5⟩
                case round =>
                  obtain ⟨q, kv, rfl, hq, hTc, hKR, hap, hN6, hO6, hsz6, hb6⟩ := hrel
                  have HAP := Lib.hid hap
                  have HTC := Lib.hid hTc
                  clear hap hT5 hN5 hO5 hb5
                  have hTl := lt_of_block hTc
                  have t3 : wr.cell? ⟨T, 3, none⟩ = some kv := by rw [cell_of_row _ _ _ _ _ (0, 0) hTc]; rfl
                  have hf3 : wr.frozen? ⟨T, 3, none⟩ = false := by simp [World.frozen?, hTc]
                  have hneT := (own_neT hKR hTc).symm
                  have hneN := (own_neB hKR hNB).symm
                  have hO6v := row_neT2 hKR hO6.row
                  have hshape : ∃ A5 c5, kv = .slice A5 q c5 := by
                    obtain ⟨_, ⟨rfl, h0⟩ | ⟨g9, cap9, cur9, rfl, _⟩⟩ := hKR
                    · exact ⟨none, 0, by rw [h0]⟩
                    · exact ⟨_, _, rfl⟩
                  obtain ⟨A5, c5, rfl⟩ := hshape
                  by_cases hql : q < y.kids.length
                  · have hkid : y.kids.getD q 0 < m.length := HYK.out _ (by rw [List.getD_eq_getElem?_getD, List.getElem?_eq_getElem hql]; exact List.getElem_mem hql)
                    have HEV : Hid (((y.kids.take (q + 1)).map fun j => NU.getD j 0).map (fun k : Nat => Value.int .i64 (k : Int)) = ((y.kids.take q).map fun j => NU.getD j 0).map (fun k : Nat => Value.int .i64 (k : Int)) ++ [Value.int .i64 (NU.getD (y.kids.getD q 0) 0 : Nat)]) := Lib.hid (by
                      rw [List.take_succ_eq_append_getElem hql, List.map_append, List.map_append]
                      simp [List.getD_eq_getElem?_getD, List.getElem?_eq_getElem hql])
                    rcases HKR.out.below hb6 with ⟨h0, _⟩ | ⟨g2, o2, c8, hv2, hkc⟩
                    · rw [h0] at hql; simp at hql
                    · simp only [Value.slice.injEq] at hv2
                      obtain ⟨rfl, _, rfl⟩ := hv2
                      have hcell := hkc q hql
                      clear hkc
                      generalize y.kids.getD q 0 = kid at *
                      have hnum := hN6.cell kid (by rw [HNL.out]; exact hkid)
                      generalize NU.getD kid 0 = nv at *
                      have hqi : (q : Int) < y.kids.length := by omega
                      have hkdi : (kid : Int) < m.length := by omega
                      have hNl := hN6.lt
                      obtain ⟨hz, hz0, hz1, hz2⟩ := HI0.out
                      clear hTc
                      go_wp2_with fail
                      go_region_law
                        ((refine step_append_lies _ (by rfl) _ _ _ (by rfl) wo.heap.size 3 i0 _ 1 8 Tryd.underlying37 hz hz0 hz1 hz2 rfl (by omega) (.slice A5 q c5) q _ (by rfl) ((hKR.alloc _).drew)
                            ⟨wr.heap.size, 0, none⟩ 1 1 [.int .i64 (nv : Int)] (by rfl) (by rfl) (World.news_of_block (cs := #[.int .i64 (nv : Int)]) (t := 3) (fr := (0, 0)) (heap_alloc_new wr _)) (by simp [Value.oneCell'])
                            (by omega) (by unfold maxLen; omega) (by omega) (by simp; omega) (wr.heap.size + 1) (by simp) ?_; intro gg cap' w7 hown1 hgrow hat hlt7
                          have e1 : w7.cell? ⟨T, 3, none⟩ = some (.slice A5 q c5) := by
                            rw [hgrow.cell_far _ (by simp; omega) hneT]
                            exact (World.cell?_alloc_past _ _ _ hTl).trans t3
                          have e2 : w7.frozen? ⟨T, 3, none⟩ = false := by
                            rw [hgrow.frozen_far _ (by simp; omega) hneT]
                            exact (World.frozen?_alloc_past _ _ _ hTl).trans hf3
                          have e3 : w7.cell? ⟨N, kid, none⟩ = some (.int .i64 (nv : Int)) := by
                            rw [hgrow.cell_far _ (by simp; omega) hneN]
                            exact (World.cell?_alloc_past _ _ _ hNl).trans hnum))
                      all_goals
                        have hT7 : (wr.alloc (.cells #[.int .i64 (nv : Int)] 3)).drew.heap[T]? = wr.heap[T]? := (World.grownBy_alloc wr (.cells #[.int .i64 (nv : Int)] 3) none).block T hTl (by simp)
                        have h7T := ((hgrow.block T (by simp; omega) hneT).trans hT7).trans HTC.out
                        have hO7 : OutAt w7 wo.heap.size (.slice AO l.length cO) l := OutAt.kept (out_drew (hO6.alloc _)) hgrow hO6v (fun p hp => by
                          cases hb : p.2.ownBlock with
                          | none => exact .inl rfl
                          | some b => exact .inr (fun e => HAP.out p hp b hb e.symm))
                        have hap7 : ∀ p ∈ l, ∀ b, p.2.ownBlock = some b → (Value.slice (some ⟨gg, 0, none⟩) (q + 1) cap').ownBlock ≠ some b := fun p hp b hb e => by
                          simp only [Value.ownBlock, Option.some.injEq] at e
                          rcases hat with hat | hat
                          · exact HAP.out p hp b hb (by rw [hat, e])
                          · have := (World.ownsRow.lt (hO6.kids p hp) b hb).2
                            omega
                        have hN7 : NumAt w7 N NU := NumAt.kept (w := (wr.alloc (.cells #[.int .i64 (nv : Int)] 3)).drew) (hN6.alloc _) hgrow hneN
                        have hb7 : Below w.heap.size w w7 := below_row (hb6.alloc (by omega) (.cells #[.int .i64 (nv : Int)] 3)) (by simp; omega) (w1d hgrow) (fun k hk => by
                          have := (World.ownsRow.lt hKR k hk).1
                          omega)
                        have hs7 : wo.heap.size ≤ w7.heap.size := by have := hgrow.size; simp at this; omega
                        have hTw : w.heap.size ≤ T := by omega
                        clear hKR hO6 hN6 hb6 hgrow hat t3 hf3 hneT hneN hO6v e1 e2 e3 hnum hcell
                        go_wp2
                        go_roundw
                        case rel =>
                          refine ⟨q + 1, .slice (some ⟨gg, 0, none⟩) (q + 1) cap', by go_num, by omega, by rw [heap_setCell_same w7 T 3 _ _ _ h7T]; rfl, ?_, hap7, hN7.other (by show N ≠ T; omega) _, hO7.other hAOT (fun p hp => own_neT (hO7.kids p hp) h7T) _, by simpa using hs7, hb7.setCell hTw _⟩
                          rw [HEV.out]
                          exact ownsRow_setCell_other hown1 (own_neT hown1 h7T) _
                        case measure => simp [intOf]; omega
                  · have hql2 : (y.kids.length : Int) ≤ q := by omega
                    have hkv : wr.cell? ⟨T, 0, none⟩ = some (.int .i64 (kd : Nat)) ∧ wr.cell? ⟨T, 1, none⟩ = some (.string ⟨y.tag.toArray⟩) ∧ wr.cell? ⟨T, 2, none⟩ = some (.string ⟨y.value.toArray⟩) := by
                      refine ⟨?_, ?_, ?_⟩ <;> rw [cell_of_row _ _ _ _ _ (0, 0) HTC.out] <;> rfl
                    obtain ⟨t0, t1, t2⟩ := hkv
                    have hKT : KRow wr wo.heap.size (.slice A5 q c5) (y.kids.map fun j => NU.getD j 0) := by
                      have := hKR
                      rw [List.take_of_length_le (by omega)] at this
                      show wr.ownsRow _ _ _ _ _ _
                      rw [List.length_map, show y.kids.length = q by omega]
                      exact this
                    have hneR := row_neT hKT hO6.row
                    obtain ⟨ty0, ty1, ty2, ty3⟩ := HI1.out
                    clear hTc hKR hneT hneN hO6v hf3
                    go_wp2_with (at_builtin; refine wpList_append_own _ rfl _ _ 47 rfl wo.heap.size 53 i1 _ 4 64 Tryd.underlying47 ty0 ty1 ty2 ty3 rfl (by decide) _ l.length (flatT l) rfl ((hO6.alloc _).row) ⟨wr.heap.size, 0, none⟩ 1 1 (thCells ⟨kd, y.tag, y.value, y.kids.map fun j => NU.getD j 0⟩ (.slice A5 q c5)) rfl rfl (World.news_of_block (cs := #[.int .i64 (kd : Nat), .string ⟨y.tag.toArray⟩, .string ⟨y.value.toArray⟩, .slice A5 q c5]) (t := 53) (fr := (0, 0)) (heap_alloc_new wr _)) (by simp [thCells, Value.oneCell']) (by unfold maxLen; omega) (by omega) (by simp; omega) ?_)
                    intro v' w8 hown8 hgrow8 _
                    have hO8 : OutAt w8 wo.heap.size v' (l ++ [(⟨kd, y.tag, y.value, y.kids.map fun j => NU.getD j 0⟩, .slice A5 q c5)]) :=
                      OutAt.snoc (p := (⟨kd, y.tag, y.value, y.kids.map fun j => NU.getD j 0⟩, .slice A5 q c5)) (hO6.alloc _) (World.ownsRow.kept hKT (World.grownBy_alloc wr _ none) (by cases (Value.slice A5 q c5).ownBlock <;> simp)) (fun p hp b hb => HAP.out p hp b hb) hgrow8 (by simpa using hown8)
                    have hN8 : NumAt w8 N NU := NumAt.kept (hN6.alloc _) hgrow8 ((own_neB hO6.row hNB).symm)
                    have hb8 : Below w.heap.size w w8 := below_row (hb6.alloc (by omega) _) (by simp; omega) hgrow8 (fun k hk => by
                      have := (World.ownsRow.lt hO6.row k hk).1
                      omega)
                    have hs8 : wo.heap.size ≤ w8.heap.size := by have := hgrow8.size; simp at this; omega
                    obtain ⟨A8, c8, rfl⟩ := hO8.shape
                    clear hown8 hgrow8 hKT hO6 hN6 hb6 t0 t1 t2 t3
                    go_wp2
                    go_roundw
                    case rel =>
                      refine ⟨k + 1, _, by go_num, by omega, hO8, ?_, by simp; omega, hN8, hs8, hb8⟩
                      rw [HF.out, List.map_append, HL.out]
                      rfl
                    case measure => simp [intOf]; omega
        · have hge : (m.length : Int) ≤ k := by omega
          have hl2 : l.map (·.1) = thingsL m := by rw [HL.out, thingsTo, List.take_of_length_le (by omega), ← HNU.out]; rfl
          have HL2 := Lib.hid hl2
          clear hl2
          have hO2 : OutAt wr w.heap.size (.slice AO l.length cO) l := ⟨own_less hO.row hbB, fun p hp => own_less (hO.kids p hp) hbB, hO.apart⟩
          clear hO hN
          go_wp2
          go_ret2
          exact ⟨_, l, rfl, hO2, HL2.out, hbw⟩

set_option maxRecDepth 100000 in
set_option maxHeartbeats 4000000 in
theorem compose_no (v : Value) (m : List Nd) (w : World) (h : TreeR w v m) (hm : m.length ≤ 1000000) (hsum : sumK m ≤ 1000000) (hkb : ∀ y ∈ m, ∀ k ∈ y.kids, k < m.length) (hst : ∀ y ∈ m, y.tag.length ≤ 1000000 ∧ y.anchor.length ≤ 1000000 ∧ y.value.length ≤ 1000000) (hc : (checkM m).1 ≠ 0) :
    Calls Tryd.prog 23 #[v] w fun e w' => e = .returned (.tuple #[.slice none 0 0, .int .i64 ((checkM m).1 : Nat)]) ∧ Below w.heap.size w w' := by
  have hkb2 : ∀ y ∈ m, ∀ k ∈ y.kids, k ≤ 1000000 := fun y hy k hk => by have := hkb y hy k hk; omega
  have ck := ccheck_any v m w h hm hsum hkb2 hst
  have hkb0 : (((checkM m).1 : Int) == 0) = false := by simp; omega
  clear h hst hkb hkb2 hc
  generalize (checkM m).1 = cd at *
  generalize (checkM m).2 = cat at *
  go_enter Tryd.func23, Tryd.ntmps23
  go_wp2_with fail
  refine ck.mono ?_
  rintro e w1 ⟨rfl, hb1⟩
  clear ck
  go_wp2_with fail
  go_ret2
  exact ⟨rfl, hb1⟩
/-- check.Compose. -/
theorem compose_any (v : Value) (m : List Nd) (w : World) (h : TreeR w v m) (hm : m.length ≤ 1000000) (hsum : sumK m ≤ 1000000) (hkb : ∀ y ∈ m, ∀ k ∈ y.kids, k < m.length) (hst : ∀ y ∈ m, y.tag.length ≤ 1000000 ∧ y.anchor.length ≤ 1000000 ∧ y.value.length ≤ 1000000) :
    Calls Tryd.prog 23 #[v] w fun e w' => ∃ u l, e = .returned (.tuple #[u, .int .i64 ((composeM m).2 : Nat)]) ∧ OutAt w' w.heap.size u l ∧ l.map (·.1) = (composeM m).1 ∧ Below w.heap.size w w' := by
  by_cases hc : (checkM m).1 = 0
  · refine (compose_ok v m w h hm hsum hkb hst hc).mono ?_
    rintro e w' ⟨u, l, rfl, h1, h2, h3⟩
    refine ⟨u, l, ?_, h1, ?_, h3⟩
    · simp [composeM, hc]
    · rw [h2]; simp [composeM, hc]
  · refine (compose_no v m w h hm hsum hkb hst hc).mono ?_
    rintro e w' ⟨rfl, h3⟩
    refine ⟨_, [], ?_, OutAt.nil _ _, ?_, h3⟩
    · simp [composeM, hc]
    · simp [composeM, hc]
end Go.Proofs.YtmindclciogneaaDoor

/- scholiumkeep.Same[int]; scholiumlaw14.wakes. -/
namespace Go.Proofs.YtmindclciogneaaDoor
open Go.RowKit
open Go.Maps (Keyed)
attribute [local go_sem ↓] Go.wp_at_zero Go.wp_at_succ

theorem bdrew {B : Nat} {w w1 : World} (h : Below B w w1) : Below B w w1.drew := ⟨h.os, h.tape, h.output, h.size, h.block⟩
theorem take_next {l r : List Nat} {k : Nat} (hl : k < l.length) (hr : k < r.length) (h : l.take k = r.take k) (he : l.getD k 0 = r.getD k 0) : l.take (k + 1) = r.take (k + 1) := by
  rw [List.take_succ_eq_append_getElem hl, List.take_succ_eq_append_getElem hr, h]
  simp only [List.getD_eq_getElem?_getD, List.getElem?_eq_getElem hl, List.getElem?_eq_getElem hr, Option.getD_some] at he
  rw [he]
set_option maxRecDepth 100000 in
set_option maxHeartbeats 1000000 in
theorem same_int (v u : Value) (l r : List Nat) (w : World) (h1 : IntsR w v l) (h2 : IntsR w u r) (hl : l.length ≤ 1000000) (hr : r.length ≤ 1000000) :
    Calls Tryd.prog 41 #[v, u] w fun e w' => e = .returned (.bool (decide (l = r))) ∧ Below w.heap.size w w' := by
  obtain ⟨A, c, rfl⟩ := h1.shape
  obtain ⟨B, d, rfl⟩ := h2.shape
  by_cases hlen : l.length = r.length
  · have hb : ((l.length : Int) == r.length) = true := by simp [hlen]
    have H1 := Lib.hid h1
    have H2 := Lib.hid h2
    clear h1 h2
    go_enter Tryd.func41, Tryd.ntmps41
    go_wp2_with fail
    go_loopw [5] (fun i wi => ∃ k : Nat, i = .int .i64 k ∧ k ≤ l.length ∧ l.take k = r.take k ∧ Below w.heap.size w wi) (fun i _ => l.length - (intOf i).toNat)
    case atStart => exact ⟨0, rfl, Nat.zero_le _, by simp, Below.refl _ _⟩
    case round =>
      obtain ⟨k, rfl, hk, hkk, hbw⟩ := hrel
      by_cases hlt : k < l.length
      · have hkr : k < r.length := by omega
        have hli : (k : Int) < l.length := by omega
        have hri : (k : Int) < r.length := by omega
        rcases H1.out.below hbw with ⟨h0, _⟩ | ⟨g1, o1, c1, hv1, hc1⟩
        · subst h0; simp at hlt
        · rcases H2.out.below hbw with ⟨h0, _⟩ | ⟨g2, o2, c2, hv2, hc2⟩
          · subst h0; simp at hkr
          · simp only [Value.slice.injEq] at hv1 hv2
            obtain ⟨rfl, _, rfl⟩ := hv1
            obtain ⟨rfl, _, rfl⟩ := hv2
            have q1 := hc1 k hlt
            have q2 := hc2 k hkr
            clear hc1 hc2
            by_cases he : l.getD k 0 = r.getD k 0
            · have hbe : ((l.getD k 0 : Int) == (r.getD k 0 : Nat)) = true := by rw [he]; exact beq_self_eq_true _
              have hn := take_next hlt hkr hkk he
              generalize l.getD k 0 = x at *
              generalize r.getD k 0 = y at *
              clear he hkk
              go_wp2
              go_region
              all_goals
                go_wp2
                go_roundw
                case rel => exact ⟨k + 1, by go_num, by omega, hn, bdrew hbw⟩
                case measure => simp [intOf]; omega
            · have hbe : ((l.getD k 0 : Int) == (r.getD k 0 : Nat)) = false := by rw [beq_eq_false_iff_ne]; intro h; exact he (by omega)
              have hne : decide (l = r) = false := by
                rw [decide_eq_false_iff_not]
                intro e
                exact he (by rw [e])
              generalize l.getD k 0 = x at *
              generalize r.getD k 0 = y at *
              clear he hkk
              go_wp2
              go_region
              all_goals
                go_wp2
                go_ret
                rw [hne]
                exact ⟨rfl, bdrew hbw⟩
      · have hge : (l.length : Int) ≤ k := by omega
        have hne : decide (l = r) = true := by
          rw [decide_eq_true_eq]
          rw [List.take_of_length_le (by omega), List.take_of_length_le (by omega)] at hkk
          exact hkk
        go_wp2
        go_ret
        rw [hne]
        exact ⟨rfl, hbw⟩
  · have hb : ((l.length : Int) == r.length) = false := by simpa using fun h => hlen (by omega)
    have hne : decide (l = r) = false := by
      rw [decide_eq_false_iff_not]
      intro e
      exact hlen (by rw [e])
    clear h1 h2
    go_enter Tryd.func41, Tryd.ntmps41
    go_wp2_with fail
    go_ret
    rw [hne]
    exact ⟨rfl, Below.refl _ _⟩

theorem own_cells {w : World} {B n e size : Nat} {v : Value} {xs : List Value} (h : w.ownsRow B e size v n xs) (hn : 0 < n) : ∃ g cap, v = .slice (some ⟨g, 0, none⟩) n cap ∧ n ≤ cap ∧ ∀ i, i < n * size → w.cell? ⟨g, i, none⟩ = xs[i]? := by
  obtain ⟨_, ⟨rfl, h0⟩ | ⟨g, cap, cur, rfl, hg, hc, hn2, hmx, hs, ht⟩⟩ := h
  · omega
  · refine ⟨g, cap, rfl, hn2, fun i hi => ?_⟩
    rw [cell_of_row _ _ _ _ _ (0, 0) hc, ← ht, List.getElem?_take, if_pos hi]
    simp
theorem KRow.ints {w : World} {B : Nat} {v : Value} {ks : List Nat} (h : KRow w B v ks) : IntsR w v ks := by
  by_cases hn : 0 < ks.length
  · obtain ⟨g, cap, rfl, _, hc⟩ := own_cells h hn
    refine .inr ⟨g, 0, cap, rfl, fun n hn3 => ?_⟩
    rw [Nat.zero_add, hc n (by omega), List.getElem?_map, List.getElem?_eq_getElem hn3]
    simp [List.getD_eq_getElem?_getD, List.getElem?_eq_getElem hn3]
  · have : ks = [] := List.length_eq_zero_iff.1 (by omega)
    subst this
    obtain ⟨A, c, rfl⟩ := h.shape
    exact .inl ⟨rfl, A, c, rfl⟩
theorem OutAt.cells {w : World} {B : Nat} {v : Value} {l : List (Th × Value)} (h : OutAt w B v l) (hn : 0 < l.length) : ∃ g cap, v = .slice (some ⟨g, 0, none⟩) l.length cap ∧ l.length ≤ cap ∧ ∀ i p, l[i]? = some p → ∀ j, j < 4 → w.cell? ⟨g, i * 4 + j, none⟩ = (thCells p.1 p.2)[j]? := by
  obtain ⟨g, cap, rfl, hc, h2⟩ := own_cells h.row hn
  refine ⟨g, cap, rfl, hc, fun i p hp j hj => ?_⟩
  have hi : i < l.length := (List.getElem?_eq_some_iff.1 hp).1
  rw [h2 _ (by omega), flatT_get l i j p hp hj]
/-- Two ints of a fresh block. -/
theorem IntsR.lit2 (w : World) (a b : Nat) (t : TypeId) : IntsR (w.alloc (.cells #[.int .i64 (a : Nat), .int .i64 (b : Nat)] t)) (.slice (some ⟨w.heap.size, 0, none⟩) 2 2) [a, b] := by
  refine .inr ⟨w.heap.size, 0, 2, rfl, fun n hn => ?_⟩
  rw [World.cell?_alloc_at _ _ _ _ rfl]
  match n, hn with
  | 0, _ => rfl
  | 1, _ => rfl
def tree14 : List Nd := [⟨2, 0, [33, 33, 115, 101, 113], [], [], 0, 0, 0, 0, [1, 2]⟩, ⟨1, 0, [], [97], [98], 0, 0, 0, 0, []⟩, ⟨4, 0, [], [], [97], 0, 0, 0, 0, []⟩]
theorem tree14_is : composeM tree14 = ([⟨2, [33, 33, 115, 101, 113], [], [1, 1]⟩, ⟨1, [], [98], []⟩], 0) := by decide +kernel
theorem tree14_at (w : World) (k : Value) (hk : IntsR w k [1, 2]) :
    TreeR (w.alloc (.cells #[.int .i64 2, .int .i64 0, .string ⟨#[33, 33, 115, 101, 113]⟩, .string ⟨#[]⟩, .string ⟨#[]⟩, .int .i64 0, .int .i64 0, .int .i64 0, .int .i64 0, k, .int .i64 1, .int .i64 0, .string ⟨#[]⟩, .string ⟨#[97]⟩, .string ⟨#[98]⟩, .int .i64 0, .int .i64 0, .int .i64 0, .int .i64 0, .slice none 0 0, .int .i64 4, .int .i64 0, .string ⟨#[]⟩, .string ⟨#[]⟩, .string ⟨#[97]⟩, .int .i64 0, .int .i64 0, .int .i64 0, .int .i64 0, .slice none 0 0] 42)) (.slice (some ⟨w.heap.size, 0, none⟩) 3 3) tree14 := by
  refine .inr ⟨w.heap.size, 3, rfl, Nat.le_refl _, fun i y hy => ?_⟩
  have hi : i < 3 := (List.getElem?_eq_some_iff.1 hy).1
  match i, hi with
  | 0, _ =>
    obtain rfl := Option.some.inj hy
    refine ⟨k, fun j hj => ?_, hk.below ((Below.refl _ _).alloc (Nat.le_refl _) _)⟩
    rw [World.cell?_alloc_at _ _ _ _ rfl]
    match j, hj with
    | 0, _ | 1, _ | 2, _ | 3, _ | 4, _ | 5, _ | 6, _ | 7, _ | 8, _ | 9, _ => rfl
  | 1, _ =>
    obtain rfl := Option.some.inj hy
    refine ⟨.slice none 0 0, fun j hj => ?_, .inl ⟨rfl, _, _, rfl⟩⟩
    rw [World.cell?_alloc_at _ _ _ _ rfl]
    match j, hj with
    | 0, _ | 1, _ | 2, _ | 3, _ | 4, _ | 5, _ | 6, _ | 7, _ | 8, _ | 9, _ => rfl
  | 2, _ =>
    obtain rfl := Option.some.inj hy
    refine ⟨.slice none 0 0, fun j hj => ?_, .inl ⟨rfl, _, _, rfl⟩⟩
    rw [World.cell?_alloc_at _ _ _ _ rfl]
    match j, hj with
    | 0, _ | 1, _ | 2, _ | 3, _ | 4, _ | 5, _ | 6, _ | 7, _ | 8, _ | 9, _ => rfl
theorem map_two {l : List (Th × Value)} {a b : Th} (h : l.map (·.1) = [a, b]) : ∃ u v, l = [(a, u), (b, v)] := by
  match l, h with
  | [(x, u), (y, v)], h =>
    simp only [List.map_cons, List.map_nil, List.cons.injEq, and_true] at h
    exact ⟨u, v, by rw [h.1, h.2]⟩

theorem tree14_ok : tree14.length ≤ 1000000 ∧ sumK tree14 ≤ 1000000 ∧ (∀ y ∈ tree14, ∀ k ∈ y.kids, k < tree14.length) ∧ (∀ y ∈ tree14, y.tag.length ≤ 1000000 ∧ y.anchor.length ≤ 1000000 ∧ y.value.length ≤ 1000000) := by
  refine ⟨by decide +kernel, by decide +kernel, by decide +kernel, fun y hy => ?_⟩
  have : (tree14.all fun y => decide (y.tag.length ≤ 1000000 ∧ y.anchor.length ≤ 1000000 ∧ y.value.length ≤ 1000000)) = true := by decide +kernel
  simpa using List.all_eq_true.1 this y hy
theorem ones_len : ([1, 1] : List Nat).length ≤ 1000000 := by simp
set_option maxRecDepth 100000 in
set_option maxHeartbeats 1000000 in
theorem wakes14_any (w : World) : Calls Tryd.prog 24 #[] w fun e w' => e = .returned (.bool true) ∧ Below w.heap.size w w' := by
  have cc := fun v W (h : TreeR W v tree14) => compose_any v tree14 W h tree14_ok.1 tree14_ok.2.1 tree14_ok.2.2.1 tree14_ok.2.2.2
  rw [tree14_is] at cc
  have cs : ∀ v u W, IntsR W v [1, 1] → IntsR W u [1, 1] → Calls Tryd.prog 41 #[v, u] W fun e w' => e = .returned (.bool true) ∧ Below W.heap.size W w' := fun v u W h1 h2 => (same_int v u [1, 1] [1, 1] W h1 h2 ones_len ones_len).mono (fun e w' h => by simpa using h)
  go_enter Tryd.func24, Tryd.ntmps24
  go_wp2_with fail
  have ht := tree14_at _ _ (IntsR.lit2 w 1 2 3)
  have e1 : (w.alloc (.cells #[.int .i64 ((1 : Nat) : Int), .int .i64 ((2 : Nat) : Int)] 3)).heap.size = w.heap.size + 1 := by simp
  rw [e1] at ht
  have hb0 : Below w.heap.size w ((w.alloc (.cells #[.int .i64 1, .int .i64 2] 3)).alloc (.cells #[.int .i64 2, .int .i64 0, .string ⟨#[33, 33, 115, 101, 113]⟩, .string ⟨#[]⟩, .string ⟨#[]⟩, .int .i64 0, .int .i64 0, .int .i64 0, .int .i64 0, .slice (some ⟨w.heap.size, 0, none⟩) 2 2, .int .i64 1, .int .i64 0, .string ⟨#[]⟩, .string ⟨#[97]⟩, .string ⟨#[98]⟩, .int .i64 0, .int .i64 0, .int .i64 0, .int .i64 0, .slice none 0 0, .int .i64 4, .int .i64 0, .string ⟨#[]⟩, .string ⟨#[]⟩, .string ⟨#[97]⟩, .int .i64 0, .int .i64 0, .int .i64 0, .int .i64 0, .slice none 0 0] 42)) := ((Below.refl _ w).alloc (Nat.le_refl _) _).alloc (by simp) _
  replace ht : TreeR ((w.alloc (.cells #[.int .i64 1, .int .i64 2] 3)).alloc (.cells #[.int .i64 2, .int .i64 0, .string ⟨#[33, 33, 115, 101, 113]⟩, .string ⟨#[]⟩, .string ⟨#[]⟩, .int .i64 0, .int .i64 0, .int .i64 0, .int .i64 0, .slice (some ⟨w.heap.size, 0, none⟩) 2 2, .int .i64 1, .int .i64 0, .string ⟨#[]⟩, .string ⟨#[97]⟩, .string ⟨#[98]⟩, .int .i64 0, .int .i64 0, .int .i64 0, .int .i64 0, .slice none 0 0, .int .i64 4, .int .i64 0, .string ⟨#[]⟩, .string ⟨#[]⟩, .string ⟨#[97]⟩, .int .i64 0, .int .i64 0, .int .i64 0, .int .i64 0, .slice none 0 0] 42)) (.slice (some ⟨w.heap.size + 1, 0, none⟩) 3 3) tree14 := ht
  clear e1
  generalize (w.alloc (.cells #[.int .i64 1, .int .i64 2] 3)).alloc _ = w2 at ht hb0 ⊢
  generalize w.heap.size + 1 = B2 at ht ⊢
  refine (cc _ _ ht).mono ?_
  rintro x w1 ⟨u, l, rfl, ho, hl, hb⟩
  clear cc
  obtain ⟨v0, v1, rfl⟩ := map_two hl
  obtain ⟨g, cap, rfl, hcap, hrd⟩ := ho.cells (by simp)
  have hk := (ho.kids _ (List.mem_cons_self ..)).ints
  obtain ⟨A, c0, hv0⟩ := hk.shape
  dsimp only at hv0
  subst hv0
  have hc3 : w1.cell? ⟨g, 3, none⟩ = some (.slice A 2 c0) := hrd 0 _ rfl 3 (by omega)
  have hb1 : Below w.heap.size w w1 := bthen hb0 hb
  have hs1 := hb1.size
  clear hrd ho hl hb hb0 ht
  go_wp2_with fail
  have hk2 := hk.below ((Below.refl _ w1).alloc (Nat.le_refl _) (.cells #[.int .i64 1, .int .i64 1] 3))
  refine (cs _ _ _ hk2 (IntsR.lit2 w1 1 1 3)).mono ?_
  rintro x w3 ⟨rfl, hb3⟩
  have hb4 := (hb1.alloc hb1.size (.cells #[.int .i64 ((1 : Nat) : Int), .int .i64 ((1 : Nat) : Int)] 3)).trans (hb3.mono (by simp; omega))
  clear hk hk2 hb3
  go_wp2
  go_ret
  exact ⟨rfl, hb4⟩
end Go.Proofs.YtmindclciogneaaDoor
