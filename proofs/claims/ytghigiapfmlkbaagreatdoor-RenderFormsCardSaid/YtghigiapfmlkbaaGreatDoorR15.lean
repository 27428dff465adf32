/- render.start. -/
import Derived.Test.YtghigiapfmlkbaaGreatDoorR14
import Derived.IntWalk
namespace Go.Proofs.YtghigiapfmlkbaaGreatDoor
open Go.RowKit
attribute [local go_sem ↓] Go.wp_at_zero Go.wp_at_succ

theorem anF_store {a b : Nat → Option Bs} (i : Nat) (l : Bs) (h1 : b i = some l) (h2 : ∀ k, k ≠ i → b k = a k) : anF b (.int .i64 (i : Nat)) = some (.string ⟨l.toArray⟩) ∧ ∀ k, k ≠ .int .i64 (i : Nat) → anF b k = anF a k := by
  constructor
  · rw [anF_at, h1]; rfl
  · intro k hk
    cases k <;> try rfl
    rename_i q z
    cases q <;> try rfl
    simp only [anF]
    by_cases hz : 0 ≤ z
    · rw [if_pos hz, if_pos hz, h2 z.toNat (fun e => hk (by rw [← e, Int.toNat_of_nonneg hz]))]
    · rw [if_neg hz, if_neg hz]
theorem anF_drop {a b : Nat → Option Bs} (i : Nat) (h1 : b i = none) (h2 : ∀ k, k ≠ i → b k = a k) : anF b (.int .i64 (i : Nat)) = none ∧ ∀ k, k ≠ .int .i64 (i : Nat) → anF b k = anF a k := by
  constructor
  · rw [anF_at, h1]; rfl
  · intro k hk
    cases k <;> try rfl
    rename_i q z
    cases q <;> try rfl
    simp only [anF]
    by_cases hz : 0 ≤ z
    · rw [if_pos hz, if_pos hz, h2 z.toNat (fun e => hk (by rw [← e, Int.toNat_of_nonneg hz]))]
    · rw [if_neg hz, if_neg hz]
/-- A deletion whose run is known. -/
theorem wpList_delete_run {P : Program} {ops : Array Oper} {rest : List Oper} {o : Oper} {a : Act} {w : World} {Q : Exit → Act → World → Prop} (hgd : o.guard = none) (s x : Operand) (t k : TypeId)
    (ho : o.op = .call { callee := .builtin .delete, args := #[s, x], argTypes := #[t, k] }) (u v : Value) (hs : a.eval s = u) (hx : a.eval x = v) (w' : World)
    (hr : (Builtin.delete_ #[t, k] o.type #[u, v]).run P w = .ok (.tuple #[]) w') (h : wpList P ops Q rest (a.put o.dst (.tuple #[])) w') : wpList P ops Q (o :: rest) a w :=
  wpList_plain hgd fun _ hK => by
    unfold Oper.wp execOp
    simp only [ho, resolve, invoke, builtin, Sem.run_bind, Sem.run_pure, Result.andThen_ok, List.map_toArray, List.map_cons, List.map_nil, hs, hx, hr]
    exact hK _ _ h
/-- The names of the first shared things. -/
def anTo (S : List Nat) (k : Nat) (i : Nat) : Option Bs := ((S.take k).findIdx? (· == i)).map fun n => 97 :: digB (n + 1)
theorem anTo_step (S : List Nat) (k : Nat) (hk : k < S.length) (hn : S.Nodup) : anTo S (k + 1) (S.getD k 0) = some (97 :: digB (k + 1)) ∧ ∀ i, i ≠ S.getD k 0 → anTo S (k + 1) i = anTo S k i := by
  have e : S.take (k + 1) = S.take k ++ [S.getD k 0] := by
    rw [List.take_succ_eq_append_getElem hk]
    simp [List.getD_eq_getElem?_getD, List.getElem?_eq_getElem hk]
  have hni : S.getD k 0 ∉ S.take k := by
    intro h
    obtain ⟨j, hj, hje⟩ := List.getElem_of_mem h
    rw [List.length_take] at hj
    rw [List.getElem_take] at hje
    have hk2 : S.getD k 0 = S[k] := by simp [List.getD_eq_getElem?_getD, List.getElem?_eq_getElem hk]
    rw [hk2] at hje
    exact List.pairwise_iff_getElem.1 hn j k (by omega) hk (by omega) hje
  have hnone : (S.take k).findIdx? (· == S.getD k 0) = none := by
    rw [List.findIdx?_eq_none_iff]
    intro x hx
    simp only [beq_eq_false_iff_ne]
    intro hxe
    rw [hxe] at hx
    exact hni hx
  have hl : (S.take k).length = k := by rw [List.length_take]; omega
  constructor
  · unfold anTo
    rw [e, List.findIdx?_append, hnone]
    simp [List.findIdx?_cons, hl]
  · intro i hi
    unfold anTo
    rw [e, List.findIdx?_append]
    have : ([S.getD k 0].findIdx? (· == i)) = none := by
      simp only [List.findIdx?_cons, List.findIdx?_nil]
      rw [show (S.getD k 0 == i) = false from by simp only [beq_eq_false_iff_ne]; exact fun e => hi e.symm]
      rfl
    rw [this]
    simp
/-- Is a thing a key of the first things? -/
def keyTo (c : List Th) (k i : Nat) : Bool := (c.take k).any fun t => t.kind == 3 && (evs t.kids).any (· == i)
theorem keyTo_step (c : List Th) (k : Nat) (t : Th) (ht : c[k]? = some t) (i : Nat) : keyTo c (k + 1) i = (keyTo c k i || (t.kind == 3 && (evs t.kids).any (· == i))) := by
  have hk : k < c.length := (List.getElem?_eq_some_iff.1 ht).1
  have e : c[k] = t := (List.getElem?_eq_some_iff.1 ht).2
  unfold keyTo
  rw [List.take_succ_eq_append_getElem hk, e, List.any_append]
  simp
theorem shared_nodup (g : List Th) : (sharedM g).Nodup := by
  unfold sharedM
  exact List.Pairwise.filter _ List.nodup_range
theorem shared_lt (g : List Th) : ∀ k ∈ sharedM g, k < (canonM g).length := by
  intro k hk
  unfold sharedM at hk
  have := (List.mem_filter.1 hk).1
  simpa using this

set_option maxRecDepth 100000 in
set_option maxHeartbeats 8000000 in
theorem start_any (vg : Value) (g : List Th) (flow : Bool) (w : World) (hg : GR w vg g) (hk : ∀ t ∈ g, ∀ k ∈ t.kids, k < g.length) (hl : g.length ≤ 1000000) (hsum : kidsSum g ≤ 1000000)
    (hcl : (canonM g).length ≤ 1000000) (hcs : kidsSum (canonM g) ≤ 1000000) (hsh : (sharedM (canonM g)).length ≤ 98) :
    Calls Tryz.prog 28 #[vg, .bool flow] w fun e w' => ∃ w0 b bA bM vc, e = .returned (.pointer (some ⟨b, 0, none⟩)) ∧ Pl w0 b w0.heap.size bA bM ∧
      LW w0 w' b w0.heap.size bA bM vc (canonM g) flow (anchorM (canonM g)) [] [] ∧ Below w.heap.size w w0 ∧ Below w.heap.size w w' := by
  have cc := canon_any vg g w hg hk hl hsum
  have hkc := canon_kids_lt g
  have hkl := canon_kids_len g
  generalize hc : canonM g = c at *
  clear hc hg hk hl
  obtain ⟨S, hS⟩ : ∃ S, sharedM c = S := ⟨_, rfl⟩
  obtain ⟨an, han⟩ : ∃ an, anchorM c = an := ⟨_, rfl⟩
  have HAN : Hid (∀ i, an i = if keyTo c c.length i then none else anTo S S.length i) := Lib.hid (fun i => by
    rw [← han]
    unfold anchorM isKeyT keyTo anTo
    rw [List.take_length, List.take_length, hS])
  rw [han]
  have hSn := shared_nodup c
  have csh := fun V W (h : GR W V c) => shared_any V c W h hkc hcl hcs
  have hSlt : ∀ k ∈ sharedM c, k ≤ 10000000 := fun k hk => by
    have h1 := shared_lt c k hk
    have h2 := canon_len_le c
    omega
  rw [hS] at hsh hSn csh hSlt
  have HSL := Lib.hid hSlt
  have HKC := Lib.hid hkc
  have HKL : Hid (∀ t ∈ c, t.kids.length ≤ 1000000) := Lib.hid (fun t ht => Nat.le_trans (hkl t ht) hsum)
  clear hkc hkl han hS hSlt
  have hmm := @run_makeMap Tryz.prog
  go_enter Tryz.func28, Tryz.ntmps28
  go_wp2_with fail
  refine cc.mono ?_
  rintro _ w0 ⟨vc, l0, rfl, hO0, hm0, hb0⟩
  have hG0 := hO0.gr
  rw [hm0] at hG0
  obtain ⟨Ac, capc, rfl⟩ := hG0.shape
  go_wp2_with fail
  have hA0 := ((MapF.made w0 Tryz.prog 3 9).alloc (.map #[] 0)).alloc (.cells #[.slice Ac c.length capc, .map (some w0.heap.size), .map (some (w0.heap.size + 1)), .bool flow, .pointer none, .slice none 0 0] 77)
  have hM0 := (MetAt.made (w0.alloc (.map #[] 0)) c.length).below ((Below.refl _ _).alloc (Nat.le_refl _) (.cells #[.slice Ac c.length capc, .map (some w0.heap.size), .map (some (w0.heap.size + 1)), .bool flow, .pointer none, .slice none 0 0] 77))
  have hW0 : (((w0.alloc (.map #[] 0)).alloc (.map #[] 0)).alloc (.cells #[.slice Ac c.length capc, .map (some w0.heap.size), .map (some (w0.heap.size + 1)), .bool flow, .pointer none, .slice none 0 0] 77)).heap[w0.heap.size + 1 + 1]? = some (wrCells (.slice Ac c.length capc) w0.heap.size (w0.heap.size + 1) flow (.pointer none) (.slice none 0 0)) := by
    have := heap_alloc_new ((w0.alloc (.map #[] 0)).alloc (.map #[] 0)) (.cells #[.slice Ac c.length capc, .map (some w0.heap.size), .map (some (w0.heap.size + 1)), .bool flow, .pointer none, .slice none 0 0] 77)
    simpa using this
  have hB0 : Below w0.heap.size w0 (((w0.alloc (.map #[] 0)).alloc (.map #[] 0)).alloc (.cells #[.slice Ac c.length capc, .map (some w0.heap.size), .map (some (w0.heap.size + 1)), .bool flow, .pointer none, .slice none 0 0] 77)) := (((Below.refl _ _).alloc (Nat.le_refl _) _).alloc (by simp) _).alloc (by simp; omega) _
  have hs0 : (w0.alloc (.map #[] 0)).heap.size = w0.heap.size + 1 := by simp
  rw [hs0] at hM0
  have pl : Pl w0 (w0.heap.size + 1 + 1) w0.heap.size w0.heap.size (w0.heap.size + 1) := ⟨by omega, by omega, Nat.le_refl _, by omega, by omega, by omega⟩
  have hbA1 : w0.heap.size < (((w0.alloc (.map #[] 0)).alloc (.map #[] 0)).alloc (.cells #[.slice Ac c.length capc, .map (some w0.heap.size), .map (some (w0.heap.size + 1)), .bool flow, .pointer none, .slice none 0 0] 77)).heap.size := by simp; omega
  generalize ((w0.alloc (.map #[] 0)).alloc (.map #[] 0)).alloc _ = w1 at hA0 hM0 hW0 hB0 hbA1 ⊢
  generalize w0.heap.size + 1 + 1 = b at *
  generalize w0.heap.size + 1 = bM at *
  have hw0c : w1.cell? ⟨b, 0, none⟩ = some (.slice Ac c.length capc) := by rw [cell_of_row _ _ _ _ _ (0, 0) hW0]; rfl
  refine (csh _ w1 (hG0.below hB0)).mono ?_
  rintro _ w2 ⟨vS, rfl, hS2, hb2⟩
  have hA2 := hA0.below hb2
  have hM2 := hM0.below hb2
  have hW2 := (hb2.block b (lt_of_block hW0)).trans hW0
  have hB2 := hB0.trans (hb2.mono hB0.size)
  have hSA : ∀ k, vS.ownBlock = some k → (some w0.heap.size : Option Nat) ≠ some k := fun k hk e => by
    have := (hS2.at k hk).1
    simp only [Option.some.injEq] at e
    omega
  obtain ⟨AS, cS, rfl⟩ := hS2.shape
  have hA20 : MapF Tryz.prog 3 9 w2 w0.heap.size 0 (anF (anTo S 0)) := by
    have e : anF (anTo S 0) = fun _ => none := by
      funext v
      cases v <;> try rfl
      rename_i q z
      cases q <;> simp [anF, anTo]
    rw [e]
    exact hA2
  have hsz2 := hB2.size
  clear csh cc hA0 hM0 hW0 hB0 hA2 hmm hO0 hm0 hw0c
  go_wp2_with fail
  go_loopw [25] (fun i wr => ∃ k : Nat, i = .int .i64 k ∧ k ≤ S.length ∧ MapF Tryz.prog 3 9 wr w0.heap.size k (anF (anTo S k)) ∧ w2.grownBy wr (some w0.heap.size)) (fun i _ => S.length - (intOf i).toNat)
  case atStart => exact ⟨0, rfl, Nat.zero_le _, hA20, grown_refl _ _⟩
  case round =>
    obtain ⟨k, rfl, hk, hA, hg⟩ := hrel
    clear hA20
    have hWr := (hg.block b (lt_of_block hW2) (by simp; exact fun e => pl.ab e.symm)).trans hW2
    by_cases hlt : k < S.length
    · obtain ⟨g5, cap5, hA5, hc5, hcl5⟩ := own_cells hS2 (by omega)
      cases hA5
      have hq0 : w2.cell? ⟨g5, k, none⟩ = some (.int .i64 (S.getD k 0 : Nat)) := by
        rw [hcl5 k (by omega), List.getElem?_map, List.getElem?_eq_getElem hlt]
        simp [List.getD_eq_getElem?_getD, List.getElem?_eq_getElem hlt]
      have hq : wr.cell? ⟨g5, k, none⟩ = some (.int .i64 (S.getD k 0 : Nat)) := hg.cell hq0 (fun e => hSA g5 rfl e.symm)
      have hsk := HSL.out _ (show S.getD k 0 ∈ S by rw [List.getD_eq_getElem?_getD, List.getElem?_eq_getElem hlt]; exact List.getElem_mem hlt)
      obtain ⟨hst1, hst2⟩ := anTo_step S k hlt hSn
      generalize S.getD k 0 = sk at *
      obtain ⟨hf1, hf2⟩ := anF_store sk _ hst1 hst2
      have hdl : (97 :: digB (k + 1) : Bs).length ≤ 100000000 := by unfold digB; split <;> simp
      obtain ⟨w5, hrun, hst, ht5⟩ := (hA.drew).store (T := 72) intLaw Tryz.underlying72 (by unfold maxLen; omega) (intKey sk (by omega)) (strElem (97 :: digB (k + 1)) hdl)
      have hA5 := hst _ hf1 hf2
      have hg5 : w2.grownBy w5 (some w0.heap.size) := grown_trans (grown_trans hg (grown_row (below_grown (Below.refl _ _).drew))) (turned_grown ht5)
      have citoa := fun W => Tryz.strconv_Itoa_small (k + 1) (by omega) W
      rw [digB_is (k + 1) (by omega), Int.natCast_add, Int.natCast_one] at citoa
      rw [← IntWalk.i64_in ((k : Int) + 1) (by omega)] at citoa
      have happ : (⟨#[97]⟩ : ByteArray) ++ ⟨(digB (k + 1)).toArray⟩ = ⟨(97 :: digB (k + 1)).toArray⟩ := by
        have := app_l [97] (digB (k + 1))
        simpa using this
      have z1 := size_l (digB (k + 1))
      have hdl2 : (digB (k + 1)).length ≤ 100 := by unfold digB; split <;> simp
      have hx1 : wr.drew.cell? ⟨b, 1, none⟩ = some (.map (some w0.heap.size)) := by
        have : wr.cell? ⟨b, 1, none⟩ = some (.map (some w0.heap.size)) := by rw [cell_of_row _ _ _ _ _ (0, 0) hWr]; rfl
        exact this
      have hk2 : (k : Int) < S.length := by omega
      have hk3 : (k : Int) ≤ 100 := by omega
      generalize digB (k + 1) = dg at *
      clear hst hst1 hst2 hf1 hf2 hA ht5 hcl5 hdl
      go_upto_region 5 with fail
      go_region_with (go_at_call 56; (with_reducible refine (citoa _).mono ?_); rintro _ w' ⟨rfl, rfl⟩; dsimp only)
      all_goals
        clear hrun citoa happ hx1 hq hq0
        go_wp2
        go_roundw
        case rel => exact ⟨k + 1, by go_num, by omega, hA5, hg5⟩
        case measure => simp [intOf]; omega
    · have hke : k = S.length := by omega
      subst hke
      obtain ⟨w3, rfl⟩ : ∃ w3 : World, w3 = wr := ⟨_, rfl⟩
      have hL0 : LW w0 w3 b w0.heap.size w0.heap.size bM (.slice Ac c.length capc) c flow (anTo S S.length) [] [] := by
        have hm := hM2.kept hg (by simp; exact pl.am.symm)
        have hfr := below_row hB2 hB2.size hg (fun k hk => by cases hk; exact Nat.le_refl _)
        exact ⟨⟨⟨_, _, hWr⟩, hG0, hfr⟩, ⟨⟨S.length, by omega, hA⟩⟩, hm, ⟨_, _, hWr, World.ownsRow_nil _ _ _ _, .inl rfl⟩⟩
      have c0 : w3.cell? ⟨b, 0, none⟩ = some (.slice Ac c.length capc) := hL0.wr.cells.1
      have hgs := hg.size
      clear hW2 hM2 hS2 hb2 hSA hB2
      go_wp2_with fail
      obtain ⟨N, hN⟩ : ∃ N, S.length = N := ⟨_, rfl⟩
      have hNl : N ≤ 98 := by omega
      rw [hN] at hA HAN
      have hwr3 : w3.heap[b]? = some (wrCells (.slice Ac c.length capc) w0.heap.size bM flow (.pointer none) (.slice none 0 0)) := hWr
      have hm3 := hL0.met
      have hfr3 := hL0.wr.frame
      have hA30 : MapF Tryz.prog 3 9 w3 w0.heap.size N (anF (fun i => if keyTo c 0 i then none else anTo S N i)) := by
        have e : (fun i => if keyTo c 0 i = true then none else anTo S N i) = anTo S N := by
          funext i
          simp [keyTo]
        rw [e]
        exact hA
      clear hL0 hA hWr
      go_loopw [45] (fun i wr => ∃ k : Nat, i = .int .i64 k ∧ k ≤ c.length ∧ MapF Tryz.prog 3 9 wr w0.heap.size N (anF (fun i => if keyTo c k i then none else anTo S N i)) ∧ w3.grownBy wr (some w0.heap.size)) (fun i _ => c.length - (intOf i).toNat)
      case atStart => exact ⟨0, rfl, Nat.zero_le _, hA30, grown_refl _ _⟩
      case round =>
        obtain ⟨k, rfl, hk, hA, hg⟩ := hrel
        clear hA30
        have hWr := (hg.block b (lt_of_block hwr3) (by simp; exact fun e => pl.ab e.symm)).trans hwr3
        have hfrr := below_row hfr3 hfr3.size hg (fun k hk => by cases hk; exact Nat.le_refl _)
        have hWA : WrAt w0 wr b w0.heap.size bM (.slice Ac c.length capc) c flow := ⟨⟨_, _, hWr⟩, hG0, hfrr⟩
        by_cases hlt : k < c.length
        · obtain ⟨t, ht⟩ : ∃ t, c[k]? = some t := ⟨_, List.getElem?_eq_getElem hlt⟩
          have hkt := HKC.out t (List.mem_of_getElem? ht)
          have hktn := HKL.out t (List.mem_of_getElem? ht)
          have HKS := Lib.hid (keyTo_step c k t ht)
          obtain ⟨g, cap, A2, c2, hve, q0, q1, q2, q3, hkr⟩ := hWA.thing ht
          cases hve
          have hk2 : (k : Int) < c.length := by omega
          have hS1 : (wr.alloc (.cells #[.int .i64 t.kind, .string ⟨t.tag.toArray⟩, .string ⟨t.value.toArray⟩, .slice A2 t.kids.length c2] 25)).heap[wr.heap.size]? = some (.cells #[.int .i64 t.kind, .string ⟨t.tag.toArray⟩, .string ⟨t.value.toArray⟩, .slice A2 t.kids.length c2] 25 (0, 0)) := heap_alloc_new _ _
          have hS13 : (wr.alloc (.cells #[.int .i64 t.kind, .string ⟨t.tag.toArray⟩, .string ⟨t.value.toArray⟩, .slice A2 t.kids.length c2] 25)).cell? ⟨wr.heap.size, 3, none⟩ = some (.slice A2 t.kids.length c2) := by rw [cell_of_row _ _ _ _ _ (0, 0) hS1]; rfl
          have hA1 := hA.alloc (.cells #[.int .i64 t.kind, .string ⟨t.tag.toArray⟩, .string ⟨t.value.toArray⟩, .slice A2 t.kids.length c2] 25)
          have hg1 := grown_trans hg (World.grownBy_alloc wr (.cells #[.int .i64 t.kind, .string ⟨t.tag.toArray⟩, .string ⟨t.value.toArray⟩, .slice A2 t.kids.length c2] 25) (some w0.heap.size))
          have hgS : (wr.alloc (.cells #[.int .i64 t.kind, .string ⟨t.tag.toArray⟩, .string ⟨t.value.toArray⟩, .slice A2 t.kids.length c2] 25)).grownBy (wr.alloc (.cells #[.int .i64 t.kind, .string ⟨t.tag.toArray⟩, .string ⟨t.value.toArray⟩, .slice A2 t.kids.length c2] 25)) (some w0.heap.size) := grown_refl _ _
          have hKA : wr.heap.size ≠ w0.heap.size := by
            have h1 := hA.lt
            omega
          clear hA hg
          go_wp2_with fail
          clear q0 q1 q2 q3 hS13
          obtain ⟨wo, rfl⟩ : ∃ wo : World, wo = wr := ⟨_, rfl⟩
          generalize wo.alloc _ = w4 at hS1 hA1 hg1 hgS ⊢
          generalize wo.heap.size = K at hS1 hKA ⊢
          go_loopw [52] (fun j wi => ∃ q : Nat, j = .int .i64 q ∧ q ≤ t.kids.length ∧ MapF Tryz.prog 3 9 wi w0.heap.size N (anF (fun i => if keyTo c k i || (t.kind == 3 && (evs (t.kids.take q)).any (· == i)) then none else anTo S N i)) ∧ w3.grownBy wi (some w0.heap.size) ∧ w4.grownBy wi (some w0.heap.size)) (fun j _ => t.kids.length - (intOf j).toNat)
          case atStart =>
            refine ⟨0, rfl, Nat.zero_le _, ?_, hg1, hgS⟩
            have e : (fun i => if (keyTo c k i || (t.kind == 3 && (evs (t.kids.take 0)).any (· == i))) = true then none else anTo S N i) = (fun i => if keyTo c k i = true then none else anTo S N i) := by
              funext i
              simp [evs]
            rw [e]
            exact hA1
          case round =>
            obtain ⟨q, rfl, hq, hA, hg, hg4⟩ := hrel
            clear hA1 hg1 hgS
            have hS := (hg4.block K (lt_of_block hS1) (by simp; exact hKA)).trans hS1
            have s0 : wr.cell? ⟨K, 0, none⟩ = some (.int .i64 t.kind) := by rw [cell_of_row _ _ _ _ _ (0, 0) hS]; rfl
            have hWi := (hg.block b (lt_of_block hwr3) (by simp; exact fun e => pl.ab e.symm)).trans hwr3
            have x1 : wr.cell? ⟨b, 1, none⟩ = some (.map (some w0.heap.size)) := by rw [cell_of_row _ _ _ _ _ (0, 0) hWi]; rfl
            have hfri := below_row hfr3 hfr3.size hg (fun k hk => by cases hk; exact Nat.le_refl _)
            by_cases hql : q < t.kids.length
            · obtain ⟨g6, o6, rfl, hcell⟩ := kid_cell hkr hfri q hql
              have HEV := Lib.hid (evs_take t.kids q hql)
              have hkid := hkt (t.kids.getD q 0) (by rw [List.getD_eq_getElem?_getD, List.getElem?_eq_getElem hql]; exact List.getElem_mem hql)
              have hq2 : (q : Int) < t.kids.length := by omega
              generalize t.kids.getD q 0 = kid at *
              by_cases hdel : t.kind = 3 ∧ q % 2 = 0
              · have hk3 : ((t.kind : Int) == 3) = true := by rw [hdel.1]; rfl
                have hq0 : ((q : Int) % 2 == 0) = true := by simp; omega
                obtain ⟨w5, hrun, hst, ht5⟩ := hA.drop (T := 72) intLaw Tryz.underlying72 (intKey kid (by omega)) 0
                obtain ⟨hd1, hd2⟩ := anF_drop (a := fun i => if keyTo c k i || (t.kind == 3 && (evs (t.kids.take q)).any (· == i)) then none else anTo S N i) (b := fun i => if keyTo c k i || (t.kind == 3 && (evs (t.kids.take (q + 1))).any (· == i)) then none else anTo S N i) kid
                  (by rw [HEV.out, if_pos hdel.2, hdel.1]; simp) (fun i hi => by
                    rw [HEV.out, if_pos hdel.2, List.any_append]
                    have : ([kid].any fun x => x == i) = false := by simp; exact fun e => hi e.symm
                    rw [this, Bool.or_false])
                have hA5 := hst _ hd1 hd2
                have hg5 := grown_trans hg (turned_grown ht5)
                have hg45 := grown_trans hg4 (turned_grown ht5)
                have HA5 := Lib.hid hA5
                clear hA5 hst hd1 hd2 hA hg hg4 ht5 HEV hS hWi hdel
                go_wp2_with (at_builtin; refine wpList_delete_run rfl _ _ 72 3 rfl _ _ rfl rfl _ hrun ?_)
                go_roundw
                case rel => exact ⟨q + 1, by go_num, by omega, HA5.out, hg5, hg45⟩
                case measure => simp [intOf]; omega
              · have hsame : MapF Tryz.prog 3 9 wr w0.heap.size N (anF (fun i => if keyTo c k i || (t.kind == 3 && (evs (t.kids.take (q + 1))).any (· == i)) then none else anTo S N i)) := by
                  have e : (fun i => if (keyTo c k i || (t.kind == 3 && (evs (t.kids.take (q + 1))).any (· == i))) = true then none else anTo S N i) = (fun i => if (keyTo c k i || (t.kind == 3 && (evs (t.kids.take q)).any (· == i))) = true then none else anTo S N i) := by
                    funext i
                    by_cases h3 : t.kind = 3
                    · rw [HEV.out, if_neg (fun h => hdel ⟨h3, h⟩), List.append_nil]
                    · have : (t.kind == 3) = false := by simpa using h3
                      rw [this, Bool.false_and, Bool.false_and]
                  rw [e]
                  exact hA
                have HSM := Lib.hid hsame
                have hfact : (((t.kind : Int) == 3) = true ∧ ((q : Int) % 2 == 0) = false) ∨ ((t.kind : Int) == 3) = false := by
                  by_cases h3 : t.kind = 3
                  · left
                    refine ⟨by rw [h3]; rfl, ?_⟩
                    have : q % 2 ≠ 0 := fun h => hdel ⟨h3, h⟩
                    simp; omega
                  · right; simp; omega
                clear hsame hA HEV hS hWi hdel
                rcases hfact with ⟨hk3, hq0⟩ | hk3
                · go_wp2
                  go_roundw
                  case rel => exact ⟨q + 1, by go_num, by omega, HSM.out, hg, hg4⟩
                  case measure => simp [intOf]; omega
                · go_wp2
                  go_roundw
                  case rel => exact ⟨q + 1, by go_num, by omega, HSM.out, hg, hg4⟩
                  case measure => simp [intOf]; omega
            · have hge2 : (t.kids.length : Int) ≤ q := by omega
              have hnext : MapF Tryz.prog 3 9 wr w0.heap.size N (anF (fun i => if keyTo c (k + 1) i then none else anTo S N i)) := by
                have e : (fun i => if keyTo c (k + 1) i = true then none else anTo S N i) = (fun i => if (keyTo c k i || (t.kind == 3 && (evs (t.kids.take q)).any (· == i))) = true then none else anTo S N i) := by
                  funext i
                  rw [HKS.out, List.take_of_length_le (by omega)]
                rw [e]
                exact hA
              clear hA hS hWi
              go_wp2
              go_roundw
              case rel => exact ⟨k + 1, by go_num, by omega, hnext, hg⟩
              case measure => simp [intOf]; omega
        · have hke : k = c.length := by omega
          subst hke
          have hAf : AnAt wr w0.heap.size an := ⟨⟨N, by omega, by
            have e : anF an = anF (fun i => if keyTo c c.length i then none else anTo S N i) := by
              congr 1
              funext i
              exact HAN.out i
            rw [e]
            exact hA⟩⟩
          have hfin : LW w0 wr b w0.heap.size w0.heap.size bM (.slice Ac c.length capc) c flow an [] [] :=
            ⟨hWA, hAf, hm3.kept hg (by simp; exact pl.am.symm), ⟨_, _, hWr, World.ownsRow_nil _ _ _ _, .inl rfl⟩⟩
          have hbf := hb0.trans (hfrr.mono hb0.size)
          clear hA hAf hWA
          go_wp2
          go_ret
          exact ⟨w0, b, w0.heap.size, bM, _, rfl, pl, hfin, hb0, hbf⟩
end Go.Proofs.YtghigiapfmlkbaaGreatDoor
