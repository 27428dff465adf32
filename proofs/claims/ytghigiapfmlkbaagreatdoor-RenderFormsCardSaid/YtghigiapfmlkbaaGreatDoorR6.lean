/- iso.Shared. -/
import Derived.Test.YtghigiapfmlkbaaGreatDoorR5
import Derived.Deep.DeepCutAuto
namespace Go.Proofs.YtghigiapfmlkbaaGreatDoor
open Go.RowKit
attribute [local go_sem ↓] Go.wp_at_zero Go.wp_at_succ

theorem numTo_lt (n : Nat) (l : List Nat) : ∀ k, k ≤ l.length → ∀ x ∈ numTo n l k, x = 0 ∨ x < k := by
  intro k
  induction k with
  | zero =>
    intro _ x hx
    unfold numTo at hx
    simp at hx
    exact .inl hx.2
  | succ k ih =>
    intro hk x hx
    rw [numTo_step n l k (by omega)] at hx
    rcases List.mem_or_eq_of_mem_set hx with h | h
    · rcases ih (by omega) x h with h | h
      · exact .inl h
      · exact .inr (by omega)
    · exact .inr (by omega)
theorem numM_lt (n : Nat) (l : List Nat) (hl : 0 < l.length) (k : Nat) : (numM n l).getD k 0 < l.length := by
  have e : numM n l = numTo n l l.length := by
    unfold numM numTo
    rw [List.take_length]
  by_cases h : k < (numM n l).length
  · rw [List.getD_eq_getElem?_getD, List.getElem?_eq_getElem h, Option.getD_some]
    have hm : (numM n l)[k] ∈ numTo n l l.length := by rw [← e]; exact List.getElem_mem h
    rcases numTo_lt n l l.length (Nat.le_refl _) _ hm with h | h <;> omega
  · rw [List.getD_eq_getElem?_getD, List.getElem?_eq_none (by omega)]
    exact hl
theorem canon_len (g : List Th) (h0 : g ≠ []) : (canonM g).length = (orderM g).length := by
  unfold canonM
  rw [if_neg h0, List.length_map]
theorem canon_kids_lt (g : List Th) : ∀ t ∈ canonM g, ∀ k ∈ t.kids, k < (canonM g).length := by
  intro t ht k hk
  by_cases h0 : g = []
  · subst h0
    simp [canonM] at ht
  · rw [canon_len g h0]
    have hp : 0 < (orderM g).length := by
      rw [← canon_len g h0]
      exact List.length_pos_of_mem ht
    unfold canonM at ht
    rw [if_neg h0] at ht
    obtain ⟨i, _, rfl⟩ := List.mem_map.1 ht
    unfold canonOf at hk
    obtain ⟨x, _, rfl⟩ := List.mem_map.1 hk
    exact numM_lt _ _ hp _
theorem canon_kids_len (g : List Th) : ∀ t ∈ canonM g, t.kids.length ≤ kidsSum g := by
  intro t ht
  by_cases h0 : g = []
  · subst h0
    simp [canonM] at ht
  · unfold canonM at ht
    rw [if_neg h0] at ht
    obtain ⟨i, _, rfl⟩ := List.mem_map.1 ht
    unfold canonOf
    simp only [List.length_map]
    by_cases hi : i < g.length
    · rw [List.getD_eq_getElem?_getD, List.getElem?_eq_getElem hi]
      exact kids_le (List.getElem?_eq_getElem hi)
    · rw [List.getD_eq_getElem?_getD, List.getElem?_eq_none (by omega)]
      simp
theorem canon_len_le (g : List Th) : (canonM g).length ≤ kidsSum g + g.length + 1 := by
  by_cases h0 : g = []
  · subst h0
    simp [canonM]
  · rw [canon_len g h0]
    have := order_len g (kidsSum g + g.length + 1) [0] []
    have e : orderM g = orderGo g (kidsSum g + g.length + 1) [0] [] := rfl
    rw [e]
    simpa using this
/-- Numbers by their places. -/
def rangeF (n : Nat) (F : Nat → Nat) : List Nat := (List.range n).map F
theorem rangeF_len (n : Nat) (F : Nat → Nat) : (rangeF n F).length = n := by simp [rangeF]
theorem rangeF_get (n : Nat) (F : Nat → Nat) (i : Nat) (hi : i < n) : (rangeF n F).getD i 0 = F i := by
  simp [rangeF, List.getD_eq_getElem?_getD, hi]
theorem rangeF_set (n : Nat) (F G : Nat → Nat) (j v : Nat) (h1 : G j = v) (h2 : ∀ i, i ≠ j → G i = F i) : (rangeF n F).set j v = rangeF n G := by
  unfold rangeF
  apply List.ext_getElem
  · simp
  · intro i hi1 hi2
    simp only [List.getElem_set, List.getElem_map, List.getElem_range]
    by_cases h : j = i
    · subst h; simp [h1]
    · rw [if_neg h, h2 i (fun e => h e.symm)]
theorem rangeF_congr (n : Nat) (F G : Nat → Nat) (h : ∀ i, F i = G i) : rangeF n F = rangeF n G := by
  have : F = G := funext h
  rw [this]
/-- How often each was met in k things. -/
def cntF (c : List Th) (k : Nat) (i : Nat) : Nat := (if i = 0 ∧ 0 < k then 1 else 0) + ((c.take k).map fun t => t.kids.count i).sum
theorem cntF_step (c : List Th) (k : Nat) (t : Th) (ht : c[k]? = some t) (i : Nat) : cntF c (k + 1) i = cntF c k i + (if i = 0 ∧ k = 0 then 1 else 0) + t.kids.count i := by
  have hk : k < c.length := (List.getElem?_eq_some_iff.1 ht).1
  have e : c[k] = t := (List.getElem?_eq_some_iff.1 ht).2
  unfold cntF
  rw [List.take_succ_eq_append_getElem hk, List.map_append, List.sum_append, e]
  simp only [List.map_cons, List.map_nil, List.sum_cons, List.sum_nil]
  by_cases h : i = 0
  · by_cases h2 : k = 0
    · rw [if_pos ⟨h, by omega⟩, if_neg (by omega), if_pos ⟨h, h2⟩]; omega
    · rw [if_pos ⟨h, by omega⟩, if_pos ⟨h, by omega⟩, if_neg (by omega)]; omega
  · rw [if_neg (by omega), if_neg (by omega), if_neg (by omega)]; omega
theorem cntF_le (c : List Th) (M : Nat) (hM : ∀ t ∈ c, t.kids.length ≤ M) : ∀ k i, cntF c k i ≤ k * M + 1 := by
  intro k i
  unfold cntF
  have key : ∀ l : List Th, (∀ t ∈ l, t.kids.length ≤ M) → (l.map fun t => t.kids.count i).sum ≤ l.length * M := by
    intro l
    induction l with
    | nil => intro _; simp
    | cons a l ih =>
      intro h
      have h1 := ih (fun t ht => h t (by simp [ht]))
      have h2 := h a (by simp)
      have h3 := List.count_le_length (l := a.kids) (a := i)
      simp only [List.map_cons, List.sum_cons, List.length_cons, Nat.succ_mul]
      omega
  have h1 := key (c.take k) (fun t ht => hM t (List.mem_of_mem_take ht))
  have h2 : (c.take k).length ≤ k := by rw [List.length_take]; omega
  have h3 := Nat.mul_le_mul_right M h2
  split <;> omega
theorem count_step (ks : List Nat) (q : Nat) (hq : q < ks.length) (i : Nat) : (ks.take (q + 1)).count i = (ks.take q).count i + (if ks.getD q 0 = i then 1 else 0) := by
  rw [List.take_succ_eq_append_getElem hq, List.count_append, List.count_singleton]
  simp [List.getD_eq_getElem?_getD, List.getElem?_eq_getElem hq]

set_option maxRecDepth 100000 in
set_option maxHeartbeats 4000000 in
theorem shared_any (vg : Value) (g : List Th) (w : World) (hg : GR w vg g) (hk : ∀ t ∈ g, ∀ k ∈ t.kids, k < g.length) (hl : g.length ≤ 1000000) (hsum : kidsSum g ≤ 1000000) :
    Calls Tryz.prog 36 #[vg] w fun e w' => ∃ v, e = .returned v ∧ KRow w' w.heap.size v (sharedM g) ∧ Below w.heap.size w w' := by
  have cc := canon_any vg g w hg hk hl hsum
  obtain ⟨V, hV⟩ : ∃ V, sharedM g = V := ⟨_, rfl⟩
  rw [hV]
  obtain ⟨c, hc⟩ : ∃ c, canonM g = c := ⟨_, rfl⟩
  have HKL := Lib.hid (hc ▸ canon_kids_lt g)
  have HKN : Hid (∀ t ∈ c, t.kids.length ≤ 1000000) := Lib.hid (fun t ht => by have := canon_kids_len g t (hc ▸ ht); omega)
  have hcl : c.length ≤ 2000001 := by have := canon_len_le g; rw [hc] at this; omega
  have HV : Hid (V = (List.range c.length).filter fun i => decide (1 < cntF c c.length i)) := Lib.hid (by
    rw [← hV]
    unfold sharedM
    dsimp only
    rw [hc]
    apply List.filter_congr
    intro i hi
    have hp : 0 < c.length := by simp at hi; omega
    unfold cntF
    rw [List.take_length]
    by_cases h : i = 0
    · rw [if_pos h, if_pos ⟨h, hp⟩]
    · rw [if_neg h, if_neg (fun e => h e.1)])
  rw [hc] at cc
  obtain ⟨i0, hz, hz0, hz1, hz2⟩ := info_parts info_int
  have hmk : ∀ W : World, (Instr.makeSlice 23 (.int .i64 (c.length : Int)) (.int .i64 (c.length : Int))).run Tryz.prog W = .ok (.slice (some ⟨W.heap.size, 0, none⟩) c.length c.length) (W.alloc (.cells (madeCells #[.int .i64 0] c.length) 3)) := fun W => by
    have := run_make (P := Tryz.prog) W 23 3 i0 (.int .i64 0) Tryz.underlying23 hz hz0 .i64 .i64 (c.length : Int) (c.length : Int) (by omega) (Int.le_refl _) (by rw [hz2]; omega) (by omega)
    rw [hz1] at this
    simp only [Int.toNat_natCast, Nat.mul_one] at this
    exact this
  clear hV hc hg hk hz hz0 hz1 hz2 hsum hl
  go_enter Tryz.func36, Tryz.ntmps36
  go_wp2_with fail
  refine cc.mono ?_
  rintro e w1 ⟨v1, l1, rfl, hO1, hm1, hb1⟩
  have hG1 := hO1.gr
  rw [hm1] at hG1
  obtain ⟨A1, c1, rfl⟩ := hG1.shape
  have hN0 := NumAt.made w1 c.length
  have hb2 := hb1.alloc hb1.size (.cells (madeCells #[.int .i64 0] c.length) 3)
  have hG2 := hG1.below ((Below.refl _ _).alloc (Nat.le_refl _) (.cells (madeCells #[.int .i64 0] c.length) 3))
  have hB2 : Below w1.heap.size w1 (w1.alloc (.cells (madeCells #[.int .i64 0] c.length) 3)) := (Below.refl _ _).alloc (Nat.le_refl _) _
  have hN1 : NumAt (w1.alloc (.cells (madeCells #[.int .i64 0] c.length) 3)) w1.heap.size (rangeF c.length (cntF c 0)) := by
    have e : List.replicate c.length 0 = rangeF c.length (cntF c 0) := by
      unfold rangeF cntF
      apply List.ext_getElem <;> simp
    rw [← e]; exact hN0
  go_wp2_with fail
  clear hmk hN0 cc hO1 hm1
  generalize w1.alloc _ = w2 at hN1 hG2 hb2 hB2 ⊢
  have hNw := hb1.size
  go_loopw [18] (fun i wr => ∃ k : Nat, i = .int .i64 k ∧ k ≤ c.length ∧ NumAt wr w1.heap.size (rangeF c.length (cntF c k)) ∧ Below w1.heap.size w1 wr) (fun i _ => c.length - (intOf i).toNat)
  case atStart => exact ⟨0, rfl, Nat.zero_le _, hN1, hB2⟩
  case round =>
    obtain ⟨k, rfl, hk, hN, hB⟩ := hrel
    clear hN1 hG2 hb2 hB2
    have HG := Lib.hid hG1
    by_cases hlt : k < c.length
    · obtain ⟨t, ht⟩ : ∃ t, c[k]? = some t := ⟨_, List.getElem?_eq_getElem hlt⟩
      have hkt := HKL.out t (List.mem_of_getElem? ht)
      have hkn := HKN.out t (List.mem_of_getElem? ht)
      have HCS := Lib.hid (cntF_step c k t ht)
      have hcle := cntF_le c 1000000 HKN.out k
      have hfz := hN.free 0
      have hc0 := fun (h : 0 < c.length) => hN.cell 0 (by rw [rangeF_len]; exact h)
      go_upto_if 22 with fail
      go_cut [] (fun wx => NumAt wx w1.heap.size (rangeF c.length (fun i => cntF c k i + (if i = 0 ∧ k = 0 then 1 else 0))) ∧ Below w1.heap.size w1 wx)
      case first =>
        by_cases hk0 : k = 0
        · have hkb : ((k : Int) == 0) = true := by subst hk0; rfl
          have hcc := hc0 (by omega)
          rw [rangeF_get _ _ _ (by omega)] at hcc
          have hv0 : cntF c k 0 = 0 := by subst hk0; simp [cntF]
          rw [hv0] at hcc
          have hN2 := hN.set 0 1
          rw [rangeF_set c.length (cntF c k) (fun i => cntF c k i + (if i = 0 ∧ k = 0 then 1 else 0)) 0 1 (by rw [hv0]; simp [hk0]) (fun i hi => by simp [hi])] at hN2
          have hkz : (k : Int) = 0 := by omega
          have hB2 : Below w1.heap.size w1 (wr.setCell ⟨w1.heap.size, 0, none⟩ (.int .i64 ((1 : Nat) : Int))) := hB.setCell (Nat.le_refl _) _
          have hc1 : (0 : Int) < c.length := by omega
          have HN2 := Lib.hid (And.intro hN2 hB2)
          have hcc2 : wr.cell? ⟨w1.heap.size, 0, none⟩ = some (.int .i64 0) := hcc
          subst hk0
          clear hv0 hN2 hB2 hcc hkz hkb
          go_wp2
          go_meet
          exact HN2.out
        · have hkb : ((k : Int) == 0) = false := by simp; omega
          go_wp2
          go_meet
          refine ⟨?_, hB⟩
          rw [rangeF_congr c.length _ (cntF c k) (fun i => by simp [hk0])]
          exact hN
      case rest =>
        obtain ⟨hN3, hB3⟩ := hcut
        have hgt : k < c.length := hlt
        rcases HG.out with ⟨h00, _⟩ | ⟨bg, cb, hv, hcb, htr⟩
        · rw [h00] at hlt; simp at hlt
        · cases hv
          obtain ⟨kv, hcl, hkr⟩ := htr k t ht
          obtain ⟨A2, c2, rfl⟩ := hkr.shape
          have q3 : wc.cell? ⟨bg, k * 4 + 3, none⟩ = some (.slice A2 t.kids.length c2) := pw_cell hB3 (hcl 3 (by omega))
          have hk2 : (k : Int) < c.length := by omega
          have HKR := Lib.hid hkr
          clear htr hcl hkr hfz hc0 hN hB
          generalize hF0 : (fun i => cntF c k i + (if i = 0 ∧ k = 0 then 1 else 0)) = F0 at hN3
          have hF0le : ∀ i, F0 i ≤ k * 1000000 + 2 := fun i => by
            have := hcle i
            rw [← hF0]
            dsimp only
            split
            · exact Nat.succ_le_succ this
            · exact Nat.le_succ_of_le this
          have HF1 : Hid (∀ i, F0 i + t.kids.count i = cntF c (k + 1) i) := Lib.hid (fun i => by
            have := HCS.out i
            rw [← hF0]
            dsimp only
            omega)
          clear hF0 hcle
          go_wp2_with fail
          go_loopw [35] (fun j wi => ∃ q : Nat, j = .int .i64 q ∧ q ≤ t.kids.length ∧ NumAt wi w1.heap.size (rangeF c.length (fun i => F0 i + (t.kids.take q).count i)) ∧ Below w1.heap.size w1 wi) (fun j _ => t.kids.length - (intOf j).toNat)
          case atStart => exact ⟨0, rfl, Nat.zero_le _, by rw [rangeF_congr _ _ F0 (fun i => by simp)]; exact hN3, hB3⟩
          case round =>
            obtain ⟨q, rfl, hq, hN4, hB4⟩ := hrel
            clear hN3 hB3 q3
            by_cases hql : q < t.kids.length
            · have HCT := Lib.hid (count_step t.kids q hql)
              have hkid := hkt (t.kids.getD q 0) (by rw [List.getD_eq_getElem?_getD, List.getElem?_eq_getElem hql]; exact List.getElem_mem hql)
              rcases HKR.out with ⟨h00, _⟩ | ⟨g6, o6, c6, hv, hkc⟩
              · rw [h00] at hql; simp at hql
              · simp only [Value.slice.injEq] at hv
                obtain ⟨rfl, _, rfl⟩ := hv
                have hcell : wr.cell? ⟨g6, o6 + q, none⟩ = some (.int .i64 (t.kids.getD q 0 : Nat)) := pw_cell hB4 (hkc q hql)
                clear hkc
                generalize t.kids.getD q 0 = kid at *
                have hki : (kid : Int) < c.length := by omega
                have hq2 : (q : Int) < t.kids.length := by omega
                have hcn := hN4.cell kid (by rw [rangeF_len]; exact hkid)
                rw [rangeF_get _ _ _ hkid] at hcn
                have hfr := hN4.free kid
                have hcnt := List.count_le_length (l := t.kids.take q) (a := kid)
                rw [List.length_take] at hcnt
                have hle := hF0le kid
                generalize hnv : F0 kid + (t.kids.take q).count kid = nv at hcn
                have hnv2 : (nv : Int) ≤ 4000000000000 := by omega
                have hnv0 : (0 : Int) ≤ nv := by omega
                have hN5 := hN4.set kid (nv + 1)
                rw [rangeF_set c.length _ (fun i => F0 i + (t.kids.take (q + 1)).count i) kid (nv + 1) (by rw [HCT.out, if_pos rfl]; omega) (fun i hi => by rw [HCT.out, if_neg (fun e => hi e.symm)]; rfl)] at hN5
                have hB5 : Below w1.heap.size w1 (wr.setCell ⟨w1.heap.size, kid, none⟩ (.int .i64 ((nv + 1 : Nat) : Int))) := hB4.setCell (Nat.le_refl _) _
                rw [Int.natCast_add, Int.natCast_one] at hN5 hB5
                obtain ⟨z, hz⟩ : ∃ z : Int, (nv : Int) = z := ⟨_, rfl⟩
                rw [hz] at hcn hN5 hB5 hnv2 hnv0
                have HN5 := Lib.hid (And.intro hN5 hB5)
                clear hN4 hB4 hnv hcnt hN5 hB5 hz hle
                go_wp2
                go_roundw
                case rel => exact ⟨q + 1, by go_num, by omega, HN5.out.1, HN5.out.2⟩
                case measure => simp [intOf]; omega
            · have hge2 : (t.kids.length : Int) ≤ q := by omega
              rw [List.take_of_length_le (by omega), rangeF_congr _ _ _ HF1.out] at hN4
              go_wp2
              go_roundw
              case rel => exact ⟨k + 1, by go_num, by omega, hN4, hB4⟩
              case measure => simp [intOf]; omega
    · have hke : k = c.length := by omega
      subst hke
      clear HG hG1 HKL hlt hk
      have hbw := hb1.trans (hB.mono hNw)
      have HN := Lib.hid hN
      clear hN hB
      have hN3 := HN.out.lt
      obtain ⟨w3, rfl⟩ : ∃ w3 : World, w3 = wr := ⟨_, rfl⟩
      have hw3 := hbw.size
      have hMle := cntF_le c 1000000 HKN.out c.length
      generalize cntF c c.length = M at HN HV hMle
      clear HKN
      go_wp2_with fail
      go_loopw [49, 8] (fun i o wr => ∃ k : Nat, i = .int .i64 k ∧ k ≤ c.length ∧ KRow wr w3.heap.size o ((List.range k).filter fun i => decide (1 < M i)) ∧ Below w3.heap.size w3 wr) (fun i _ _ => c.length - (intOf i).toNat)
      case atStart => exact ⟨0, rfl, Nat.zero_le _, World.ownsRow_nil _ _ _ _, Below.refl _ _⟩
      case round =>
        obtain ⟨k, rfl, hk, hO, hB⟩ := hrel
        have hfl : ((List.range k).filter fun i => decide (1 < M i)).length ≤ k := by
          have := List.length_filter_le (fun i => decide (1 < M i)) (List.range k)
          rwa [List.length_range] at this
        by_cases hlt : k < c.length
        · have HFS : Hid ((List.range (k + 1)).filter (fun i => decide (1 < M i)) = (List.range k).filter (fun i => decide (1 < M i)) ++ if 1 < M k then [k] else []) := Lib.hid (by
            rw [List.range_succ, List.filter_append]
            congr 1
            by_cases h : 1 < M k <;> simp [h])
          have hcn := (HN.out.kept (below_grown hB) (by simp)).cell k (by rw [rangeF_len]; exact hlt)
          rw [rangeF_get _ _ _ hlt] at hcn
          have hk2 : (k : Int) < c.length := by omega
          generalize ((List.range k).filter fun i => decide (1 < M i)) = out at *
          obtain ⟨A8, c8, rfl⟩ := hO.shape
          by_cases hm : 1 < M k
          · have hmi : decide ((1 : Int) < M k) = true := by simp; omega
            rw [if_pos hm] at HFS
            generalize M k = mk at *
            have hO2 := hO.below ((Below.refl _ _).alloc (Nat.le_refl _) (.cells #[.int .i64 (k : Nat)] 3))
            have hB2 := hB.alloc hB.size (.cells #[.int .i64 (k : Nat)] 3)
            have hI2 := KRow.lit wr w3.heap.size k hB.size
            have hsz2 : (wr.alloc (.cells #[.int .i64 (k : Nat)] 3)).heap.size = wr.heap.size + 1 := by simp
            have hBs := hB.size
            obtain ⟨v4, w4, happ, hO4, hg4, _⟩ := KRow.append hO2 hI2 (by simp; omega) (by rw [hsz2]; omega)
            have hB4 := below_row hB2 (by rw [hsz2]; omega) hg4 (fun k hk => (hO2.at k hk).1)
            have HO4 := Lib.hid hO4
            clear hO4 hO2 hI2 hg4 hB2 hO hm hfl
            go_wp2_with (at_builtin; refine wpList_append_run rfl _ _ 23 rfl _ _ rfl rfl _ _ happ ?_)
            go_roundw
            case rel => exact ⟨k + 1, by go_num, by omega, by rw [HFS.out]; exact HO4.out, hB4⟩
            case measure => simp [intOf]; omega
          · have hmi : decide ((1 : Int) < M k) = false := by simp; omega
            rw [if_neg hm, List.append_nil] at HFS
            generalize M k = mk at *
            have HO := Lib.hid hO
            clear hO hm hfl
            go_wp2
            go_roundw
            case rel => exact ⟨k + 1, by go_num, by omega, by rw [HFS.out]; exact HO.out, hB⟩
            case measure => simp [intOf]; omega
        · have hke : k = c.length := by omega
          subst hke
          rw [← HV.out] at hO
          have hOf := hO.less hw3
          have hbf := hbw.trans (hB.mono hw3)
          obtain ⟨A8, c8, rfl⟩ := hO.shape
          have HOf := Lib.hid hOf
          clear hO hOf hfl
          go_wp2
          go_ret
          exact ⟨_, rfl, HOf.out, hbf⟩
end Go.Proofs.YtghigiapfmlkbaaGreatDoor
