/- iso.keyed. -/
import Derived.Test.YtghigiapfmlkbaaGreatDoorR0
import Derived.Test.YtghigiapfmlkbaaGreatDoorMS
import Derived.DeepKeys4
import Derived.Deep.QuietTactic
import Derived.BigQuiet
import Derived.Deep.RegionWith
import Derived.Deep.DeepCutAuto
import Derived.Deep.DrawnRows
namespace Go.Proofs.YtghigiapfmlkbaaGreatDoor
open Go.RowKit
open Go.Maps (Keyed)

theorem evs_two (l : List Nat) (i : Nat) (hi : i < l.length) (he : i % 2 = 0) : evs (l.take (i + 2)) = evs (l.take i) ++ [l.getD i 0] := by
  have h1 := evs_take l i hi
  rw [if_pos he] at h1
  by_cases h : i + 1 < l.length
  · rw [evs_take l (i + 1) h, h1, if_neg (by omega), List.append_nil]
  · rw [List.take_of_length_le (by omega), ← h1, List.take_of_length_le (by omega)]
theorem evs_mem (l : List Nat) (i : Nat) (hi : i < l.length) (he : i % 2 = 0) : l.getD i 0 ∈ evs l := by
  have key : ∀ (n : Nat) (l : List Nat) (i : Nat), l.length ≤ n → i < l.length → i % 2 = 0 → l.getD i 0 ∈ evs l := by
    intro n
    induction n with
    | zero => intro l i h1 h2; omega
    | succ n ih =>
      intro l i h1 h2 h3
      match l, i, h1, h2, h3 with
      | [a], 0, _, _, _ => simp [evs]
      | a :: b :: t, 0, _, _, _ => simp [evs]
      | a :: b :: t, i + 2, h1, h2, h3 =>
        have := ih t i (by simp at h1; omega) (by simp at h2; omega) (by omega)
        simp only [evs, List.getD_cons_succ, List.mem_cons]
        exact .inr this
      | [a], i + 1, _, h2, _ => simp at h2
      | a :: b :: t, 1, _, _, h3 => omega
  exact key l.length l i (Nat.le_refl _) hi he
theorem evs_len : ∀ l : List Nat, (evs l).length = (l.length + 1) / 2
  | [] => rfl
  | [a] => by simp [evs]
  | a :: b :: t => by
    simp only [evs, List.length_cons, evs_len t]
    omega
/-- How many keys there are, and whether each is new. -/
structure Cnt {α : Type} [DecidableEq α] (seen : List α) (m : Nat) : Prop where
  le : m ≤ seen.length
  iff : m = seen.length ↔ seen.Nodup
theorem Cnt.nil {α : Type} [DecidableEq α] : Cnt ([] : List α) 0 := ⟨Nat.le_refl _, by simp⟩
theorem Cnt.add {α : Type} [DecidableEq α] {seen : List α} {m : Nat} (h : Cnt seen m) (x : α) (m' : Nat) (h3 : x ∈ seen → m' = m) (h4 : x ∉ seen → m' = m + 1) : Cnt (seen ++ [x]) m' := by
  have h1 := h.le
  have h2 := h.iff
  by_cases hx : x ∈ seen
  · have := h3 hx
    refine ⟨by simp; omega, ⟨fun e => ?_, fun hn => ?_⟩⟩
    · simp at e; omega
    · rw [List.nodup_append] at hn
      exact absurd rfl (hn.2.2 x hx x (by simp))
  · have := h4 hx
    refine ⟨by simp; omega, ⟨fun e => ?_, fun hn => ?_⟩⟩
    · have : seen.Nodup := h2.1 (by simp at e; omega)
      rw [List.nodup_append]
      exact ⟨this, by simp, fun a ha b hb e2 => by simp at hb; rw [e2, hb] at ha; exact hx ha⟩
    · rw [List.nodup_append] at hn
      have := h2.2 hn.1
      simp; omega

/-- A slice of things that reads as g. -/
def GR (w : World) (v : Value) (g : List Th) : Prop := (g = [] ∧ ∃ A c, v = .slice A 0 c) ∨
  ∃ b c, v = .slice (some ⟨b, 0, none⟩) g.length c ∧ g.length ≤ c ∧ ∀ i t, g[i]? = some t → ∃ kv, (∀ j, j < 4 → w.cell? ⟨b, i * 4 + j, none⟩ = (thCells t kv)[j]?) ∧ IntsR w kv t.kids
theorem GR.below {w w1 : World} {v : Value} {g : List Th} (h : GR w v g) (hb : Below w.heap.size w w1) : GR w1 v g := by
  rcases h with h | ⟨b, c, h1, h2, h3⟩
  · exact .inl h
  · refine .inr ⟨b, c, h1, h2, fun i y hy => ?_⟩
    obtain ⟨kv, h4, h5⟩ := h3 i y hy
    refine ⟨kv, fun j hj => ?_, h5.below hb⟩
    obtain ⟨u, hu⟩ : ∃ u, (thCells y kv)[j]? = some u := ⟨_, List.getElem?_eq_getElem (by simp [thCells]; omega)⟩
    rw [hu]
    exact pw_cell hb ((h4 j hj).trans hu)
theorem GR.shape {w : World} {v : Value} {g : List Th} (h : GR w v g) : ∃ A c, v = .slice A g.length c := by
  rcases h with ⟨rfl, A, c, rfl⟩ | ⟨b, c, rfl, _, _⟩
  · exact ⟨A, c, rfl⟩
  · exact ⟨_, c, rfl⟩
theorem OutAt.gr {w : World} {B : Nat} {v : Value} {l : List (Th × Value)} (h : OutAt w B v l) : GR w v (l.map (·.1)) := by
  by_cases hn : 0 < l.length
  · obtain ⟨g, cap, rfl, hc, hcl⟩ := h.cells hn
    refine .inr ⟨g, cap, by rw [List.length_map], by rw [List.length_map]; exact hc, fun i t ht => ?_⟩
    rw [List.getElem?_map, Option.map_eq_some_iff] at ht
    obtain ⟨p, hp, rfl⟩ := ht
    exact ⟨p.2, hcl i p hp, (h.kids p (List.mem_of_getElem? hp)).ints⟩
  · obtain ⟨A, c, rfl⟩ := h.shape
    have : l = [] := List.length_eq_zero_iff.1 (by omega)
    subst this
    exact .inl ⟨rfl, A, c, rfl⟩

abbrev nmT : TypeId := 207
theorem laidOutP : laidOutB Tryz.prog = true := by kernel_rfl
theorem nameLaw : Keyed Tryz.prog nmT :=
  Keyed.of_law (deep_law_laid laidOutP (m := 2) (by omega) (of_decide_eq_true (by kernel_rfl)) (by kernel_rfl) (by kernel_rfl))
abbrev nameV (t v : Bs) : Value := .agg #[.string ⟨t.toArray⟩, .string ⟨v.toArray⟩]
theorem cellsOf_str : Tryz.prog.cellsOf 9 = 1 := by kernel_rfl
theorem cellsOf_nm : Tryz.prog.cellsOf nmT = 2 := by kernel_rfl
theorem litsOf_str (d : Nat) (s : ByteArray) (hs : s.size ≤ maxLen) : Tryz.prog.keyLits (d + 1) 9 [.string s] = some [.string s.data.toList] := by
  unfold Program.keyLits
  rw [Tryz.underlying9]
  simp [hs]
theorem litsOf_nm (d : Nat) (a b : ByteArray) (ha : a.size ≤ maxLen) (hb : b.size ≤ maxLen) : Tryz.prog.keyLits (d + 2) nmT [.string a, .string b] = some [.string a.data.toList, .string b.data.toList] := by
  unfold Program.keyLits
  rw [Tryz.underlying207]
  simp [cellsOf_str, litsOf_str, ha, hb, cellsOf_nm]
theorem nameFormed (a b : ByteArray) : (Value.agg #[.string a, .string b]).formed Tryz.prog nmT = true := by
  simp [Value.formed, Tryz.underlying207, cellsOf_nm]
theorem nameKeyT : Tryz.prog.keyType nmT = true := by kernel_rfl
theorem nameTypes : 2 ≤ Tryz.prog.types.size := of_decide_eq_true (by kernel_rfl)
theorem nameKey (t v : Bs) (ht : t.length ≤ 1000000) (hv : v.length ≤ 1000000) : ∃ kl, keyOf Tryz.prog nmT (nameV t v) = some kl := by
  have hs : ∀ l : Bs, l.length ≤ 1000000 → (⟨l.toArray⟩ : ByteArray).size ≤ maxLen := fun l hl => by rw [← sl_len, sl_mk]; unfold maxLen; omega
  obtain ⟨d, hd⟩ : ∃ d, Tryz.prog.types.size + 1 = d + 2 := ⟨Tryz.prog.types.size - 1, by have := nameTypes; omega⟩
  have hl := litsOf_nm d ⟨t.toArray⟩ ⟨v.toArray⟩ (hs t ht) (hs v hv)
  unfold keyOf nameV
  rw [Tryz.underlying207]
  dsimp only
  rw [nameKeyT, nameFormed, hd]
  simp only [Bool.and_self, if_true]
  have hc : (Value.agg #[.string ⟨t.toArray⟩, .string ⟨v.toArray⟩]).cells.toList = [.string ⟨t.toArray⟩, .string ⟨v.toArray⟩] := rfl
  rw [hc, hl]
  exact ⟨_, rfl⟩
theorem nameV_inj {t t' v v' : Bs} (h : nameV t v = nameV t' v') : t = t' ∧ v = v' := by
  unfold nameV at h
  simp only [Value.agg.injEq, Array.mk.injEq, List.cons.injEq, Value.string.injEq, ByteArray.mk.injEq, and_true] at h
  exact h
/-- The names that were met, so often at most. -/
structure NmF (f : Value → Option Value) (seen : List (Bs × Bs)) : Prop where
  has : ∀ t v, (f (nameV t v)).isSome = decide ((t, v) ∈ seen)
  val : ∀ t v u, f (nameV t v) = some u → ∃ n : Nat, u = .int .i64 (n : Nat) ∧ n ≤ seen.length
/-- One entry set. -/
noncomputable def setG (f : Value → Option Value) (key v : Value) : Value → Option Value := fun k => @ite _ (k = key) (Classical.propDecidable _) (some v) (f k)
theorem setG_same (f : Value → Option Value) (key v : Value) : setG f key v key = some v := by simp [setG]
theorem setG_other (f : Value → Option Value) (key v k : Value) (h : k ≠ key) : setG f key v k = f k := by simp [setG, h]
theorem NmF.add {f : Value → Option Value} {seen : List (Bs × Bs)} (h : NmF f seen) (t v : Bs) (n : Nat) (hn : n ≤ seen.length + 1) : NmF (setG f (nameV t v) (.int .i64 (n : Nat))) (seen ++ [(t, v)]) := by
  constructor
  · intro t' v'
    by_cases e : (t', v') = (t, v)
    · cases e
      rw [setG_same]
      simp
    · have hne : nameV t' v' ≠ nameV t v := fun e2 => e (by obtain ⟨h1, h2⟩ := nameV_inj e2; rw [h1, h2])
      rw [setG_other _ _ _ _ hne, h.has]
      simp [e]
  · intro t' v' u hu
    by_cases e : nameV t' v' = nameV t v
    · rw [e, setG_same] at hu
      cases hu
      exact ⟨n, rfl, by simpa using hn⟩
    · rw [setG_other _ _ _ _ e] at hu
      obtain ⟨k, h1, h2⟩ := h.val _ _ _ hu
      exact ⟨k, h1, by simp; omega⟩
def nmAt (g : List Th) (k : Nat) : Bs × Bs := ((g.getD k ⟨0, [], [], []⟩).tag, (g.getD k ⟨0, [], [], []⟩).value)
/-- Where keyed is, at an even place. -/
def KeyAt (g : List Th) (ks : List Nat) (bM B : Nat) (w0 : World) (i : Nat) (wr : World) : Prop :=
  i % 2 = 0 ∧ i ≤ ks.length + 1 ∧ ((evs (ks.take i)).all fun k => (g.getD k ⟨0, [], [], []⟩).kind == 1) = true ∧
  ∃ f m, MapS Tryz.prog nmT 3 wr bM i f m ∧ NmF f ((evs (ks.take i)).map (nmAt g)) ∧ Cnt ((evs (ks.take i)).map (nmAt g)) m ∧ Below B w0 wr

set_option maxRecDepth 100000 in
set_option maxHeartbeats 4000000 in
theorem keyed_any (vg vk : Value) (g : List Th) (ks : List Nat) (w : World) (hg : GR w vg g) (hk : IntsR w vk ks) (hlt : ∀ k ∈ ks, k < g.length) (hl : ks.length ≤ 1000000)
    (hst : ∀ t ∈ g, t.tag.length ≤ 1000000 ∧ t.value.length ≤ 1000000) :
    Calls Tryz.prog 85 #[vg, vk] w fun e w' => e = .returned (.bool (keyedM g ks)) ∧ Below w.heap.size w w' := by
  obtain ⟨A, c, rfl⟩ := hg.shape
  obtain ⟨Ak, ck, rfl⟩ := hk.shape
  obtain ⟨V, hV⟩ : ∃ V, keyedM g ks = V := ⟨_, rfl⟩
  rw [hV]
  have HV := Lib.hid hV
  have hmm := @run_makeMap Tryz.prog
  have HG := Lib.hid hg
  have HK := Lib.hid hk
  have HL := Lib.hid hlt
  have HS := Lib.hid hst
  clear hV hg hk hlt hst
  go_enter Tryz.func85, Tryz.ntmps85
  go_wp2_with fail
  have hm0 := MapS.made w Tryz.prog nmT 3
  have hb0 : Below w.heap.size w (w.alloc (.map #[] 0)) := (Below.refl _ _).alloc (Nat.le_refl _) _
  generalize w.alloc _ = w1 at hm0 hb0 ⊢
  go_loopw [6] (fun i wr => ∃ k : Nat, i = .int .i64 k ∧ KeyAt g ks w.heap.size w.heap.size w k wr) (fun i _ => ks.length + 2 - (intOf i).toNat)
  case atStart => exact ⟨0, rfl, rfl, Nat.zero_le _, rfl, _, 0, hm0, ⟨fun t v => by simp [evs], fun t v u h => by cases h⟩, Cnt.nil, hb0⟩
  case round =>
    obtain ⟨k, rfl, hev, hle, hall, f, m, hM, hN, hC, hbw⟩ := hrel
    clear hm0 hb0 hmm
    by_cases hlt : k < ks.length
    · have HE := Lib.hid (evs_two ks k hlt hev)
      have HIN := Lib.hid (evs_mem ks k hlt hev)
      have hkm : ks.getD k 0 ∈ ks := by
        rw [List.getD_eq_getElem?_getD, List.getElem?_eq_getElem hlt]
        exact List.getElem_mem hlt
      have hkg : ks.getD k 0 < g.length := HL.out _ hkm
      obtain ⟨t, ht⟩ : ∃ t, g[ks.getD k 0]? = some t := ⟨_, List.getElem?_eq_getElem hkg⟩
      have hs := HS.out t (List.mem_of_getElem? ht)
      have hgd : g.getD (ks.getD k 0) ⟨0, [], [], []⟩ = t := by rw [List.getD_eq_getElem?_getD, ht]; rfl
      have HNM : Hid (nmAt g (ks.getD k 0) = (t.tag, t.value)) := Lib.hid (by unfold nmAt; rw [hgd])
      have HKD : Hid ((g.getD (ks.getD k 0) ⟨0, [], [], []⟩).kind = t.kind) := Lib.hid (by rw [hgd])
      clear hgd hkm
      rcases HG.out.below hbw with ⟨h0, _⟩ | ⟨b, c2, hv, hc2, htr⟩
      · rw [h0] at hkg; simp at hkg
      · cases hv
        obtain ⟨kv, hcl, hkr⟩ := htr _ t ht
        obtain ⟨A2, c3, rfl⟩ := hkr.shape
        rcases HK.out.below hbw with ⟨h0, _⟩ | ⟨b2, o2, c4, hv, hkc⟩
        · rw [h0] at hlt; simp at hlt
        · simp only [Value.slice.injEq] at hv
          obtain ⟨rfl, _, rfl⟩ := hv
          have hcell := hkc k hlt
          clear hkc hkr htr
          obtain ⟨kl, hkey⟩ := nameKey t.tag t.value hs.1 hs.2
          generalize ks.getD k 0 = kid at *
          have q0 : wr.cell? ⟨b, kid * 4, none⟩ = some (.int .i64 t.kind) := hcl 0 (by omega)
          have q1 : wr.cell? ⟨b, kid * 4 + 1, none⟩ = some (.string ⟨t.tag.toArray⟩) := hcl 1 (by omega)
          have q2 : wr.cell? ⟨b, kid * 4 + 2, none⟩ = some (.string ⟨t.value.toArray⟩) := hcl 2 (by omega)
          have q3 : wr.cell? ⟨b, kid * 4 + 3, none⟩ = some (.slice A2 t.kids.length c3) := hcl 3 (by omega)
          have hki : (kid : Int) < g.length := by omega
          have hki0 : (k : Int) < ks.length := by omega
          clear hcl ht
          go_wp2_with fail
          have c0 : (wr.alloc (.cells #[.int .i64 t.kind, .string ⟨t.tag.toArray⟩, .string ⟨t.value.toArray⟩, .slice A2 t.kids.length c3] 25)).cell? ⟨wr.heap.size, 0, none⟩ = some (.int .i64 t.kind) := by rw [World.cell?_alloc_at _ _ _ _ rfl]; rfl
          have c1 : (wr.alloc (.cells #[.int .i64 t.kind, .string ⟨t.tag.toArray⟩, .string ⟨t.value.toArray⟩, .slice A2 t.kids.length c3] 25)).cell? ⟨wr.heap.size, 1, none⟩ = some (.string ⟨t.tag.toArray⟩) := by rw [World.cell?_alloc_at _ _ _ _ rfl]; rfl
          have c2 : (wr.alloc (.cells #[.int .i64 t.kind, .string ⟨t.tag.toArray⟩, .string ⟨t.value.toArray⟩, .slice A2 t.kids.length c3] 25)).cell? ⟨wr.heap.size, 2, none⟩ = some (.string ⟨t.value.toArray⟩) := by rw [World.cell?_alloc_at _ _ _ _ rfl]; rfl
          have hM4 := hM.alloc (.cells #[.int .i64 t.kind, .string ⟨t.tag.toArray⟩, .string ⟨t.value.toArray⟩, .slice A2 t.kids.length c3] 25)
          have hb4 := hbw.alloc hbw.size (.cells #[.int .i64 t.kind, .string ⟨t.tag.toArray⟩, .string ⟨t.value.toArray⟩, .slice A2 t.kids.length c3] 25)
          clear q0 q1 q2 q3 hM hbw
          generalize wr.alloc _ = w4 at c0 c1 c2 hM4 hb4 ⊢
          generalize wr.heap.size = K at c0 c1 c2 ⊢
          replace c0 : w4.drew.cell? ⟨K, 0, none⟩ = some (.int .i64 t.kind) := c0
          replace c1 : w4.drew.cell? ⟨K, 1, none⟩ = some (.string ⟨t.tag.toArray⟩) := c1
          replace c2 : w4.drew.cell? ⟨K, 2, none⟩ = some (.string ⟨t.value.toArray⟩) := c2
          replace hM4 := hM4.drew
          replace hb4 := bdrew hb4
          have hsl : ((evs (ks.take k)).map (nmAt g)).length ≤ 1000000 := by
            rw [List.length_map, evs_len, List.length_take]
            omega
          obtain ⟨n, hn0, hn1⟩ : ∃ n : Nat, (f (nameV t.tag t.value)).getD (.int .i64 0) = .int .i64 (n : Nat) ∧ n ≤ ((evs (ks.take k)).map (nmAt g)).length := by
            cases hf : f (nameV t.tag t.value) with
            | none => exact ⟨0, rfl, Nat.zero_le _⟩
            | some u =>
              obtain ⟨n, rfl, h2⟩ := hN.val _ _ _ hf
              exact ⟨n, rfl, h2⟩
          obtain ⟨st, w5, hme, ht5, ⟨f1, hF1, hf1⟩, hst⟩ := hM4.entry (T := 205) nameLaw Tryz.underlying205 intZero (by unfold maxLen; omega) hkey (intElem 0 (by omega))
          rw [hn0] at hme hf1
          have hlk := hM4.mapF.look_at (T := 205) nameLaw Tryz.underlying205 (intZero w4.drew) hkey _ rfl
          rw [hn0] at hlk
          have hlk1 := hF1.look_at (T := 205) nameLaw Tryz.underlying205 (intZero w5) hkey _ hf1
          rw [Option.getD_some] at hlk1
          obtain ⟨w6, hes, hst6, ht6⟩ := hst (.int .i64 ((n + 1 : Nat))) _ _ (intElem (n + 1) (by omega))
          have hM6 := hst6 (setG f (nameV t.tag t.value) (.int .i64 ((n + 1 : Nat)))) (setG_same _ _ _) (fun k hk => setG_other _ _ _ k hk)
          have hN6 := hN.add t.tag t.value (n + 1) (by omega)
          obtain ⟨m6, hm6⟩ : ∃ m6, (if (f (nameV t.tag t.value)).isSome then m else m + 1) = m6 := ⟨_, rfl⟩
          rw [hm6] at hM6
          have hC6 := hC.add (t.tag, t.value) m6 (fun hx => by rw [← hm6, hN.has, decide_eq_true hx]; rfl) (fun hx => by rw [← hm6, hN.has, decide_eq_false hx]; rfl)
          have hb6 := turned_below hb4 ht6 hb4.size (Nat.le_refl _)
          have d1 := (turned_cell ht5 ⟨K, 1, none⟩).trans c1
          have d2 := (turned_cell ht5 ⟨K, 2, none⟩).trans c2
          have e0 := (turned_cell ht6 ⟨K, 0, none⟩).trans c0
          rw [show goInt (st : Int) = .int .i64 (st : Int) from rfl] at hme hes
          rw [Int.natCast_add, Int.natCast_one] at hes
          have hn2 : (n : Int) ≤ 1000000 := by omega
          have hn3 : (0 : Int) ≤ n := by omega
          have HM6 := Lib.hid hM6
          have HN6 := Lib.hid hN6
          have HC6 := Lib.hid hC6
          clear hst hst6 hF1 hf1 hM4 hN hC hn0 hM6 hN6 hC6 ht5 ht6 hb4 hm6
          by_cases hk1 : t.kind = 1
          · have hkb : ((t.kind : Int) != 1) = false := by rw [hk1]; rfl
            have hall6 : ((evs (ks.take (k + 2))).all fun k => (g.getD k ⟨0, [], [], []⟩).kind == 1) = true := by
              rw [HE.out, List.all_append, hall, List.all_cons, HKD.out, hk1]
              rfl
            go_region
            all_goals
              go_wp2
              go_roundw
              case rel =>
                refine ⟨k + 2, by go_num, by omega, by omega, hall6, _, _, HM6.out.mono (by omega), ?_, ?_, hb6⟩
                · rw [HE.out, List.map_append, List.map_cons, List.map_nil, HNM.out]
                  exact HN6.out
                · rw [HE.out, List.map_append, List.map_cons, List.map_nil, HNM.out]
                  exact HC6.out
              case measure => simp [intOf]; omega
          · have hkb : ((t.kind : Int) != 1) = true := by simp; omega
            have hV : V = false := by
              have hin : kid ∈ evs ks := HIN.out
              have := HV.out
              unfold keyedM at this
              rw [← this, Bool.and_eq_false_iff, Bool.and_eq_false_iff]
              refine .inl (.inl ?_)
              rw [List.all_eq_false]
              exact ⟨kid, hin, by rw [HKD.out]; simpa using hk1⟩
            subst hV
            go_region
            all_goals
              go_wp2
              go_ret
              exact ⟨rfl, hb6⟩
    · have hge : (ks.length : Int) ≤ k := by omega
      have hev2 : evs (ks.take k) = evs ks := by rw [List.take_of_length_le (by omega)]
      rw [hev2] at hall hN hC
      have hlen := hM.mapF
      have hsize := hM.len (T := 205) Tryz.underlying205
      have hCl := hC.le
      rw [List.length_map, evs_len] at hCl
      have hCi := hC.iff
      rw [List.length_map, evs_len] at hCi
      have hVt : V = (decide (ks.length % 2 = 0) && decide (m = (ks.length + 1) / 2)) := by
        have := HV.out
        unfold keyedM at this
        rw [← this, hall, Bool.true_and]
        congr 1
        rw [decide_eq_decide, hCi]
        rfl
      have HM := Lib.hid hsize
      clear HV HG HK HL HS hall hN hC hCl hCi hev2 hlen hM hev hle hsize
      by_cases h2 : ks.length % 2 = 0
      · have hq : ((ks.length : Int) % 2 == 0) = true := by simp; omega
        by_cases h3 : m = ks.length / 2
        · have hd : ((m : Int) == (ks.length : Int) / 2) = true := by simp; omega
          have hV : V = true := by rw [hVt, decide_eq_true h2, decide_eq_true (by omega)]; rfl
          have hM := HM.out
          clear hVt h2 h3 HM
          subst hV
          go_wp2
          go_ret
          exact ⟨rfl, hbw⟩
        · have hd : ((m : Int) == (ks.length : Int) / 2) = false := by simp; omega
          have hV : V = false := by rw [hVt, decide_eq_true h2, decide_eq_false (by omega)]; rfl
          have hM := HM.out
          clear hVt h2 h3 HM
          subst hV
          go_wp2
          go_ret
          exact ⟨rfl, hbw⟩
      · have hq : ((ks.length : Int) % 2 == 0) = false := by simp; omega
        have hV : V = false := by rw [hVt, decide_eq_false h2]; rfl
        clear hVt h2 HM
        subst hV
        go_wp2
        go_ret
        exact ⟨rfl, hbw⟩
end Go.Proofs.YtghigiapfmlkbaaGreatDoor
