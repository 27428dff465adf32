/- check.Check. -/
import Derived.Test.YtmindclciogneaaDoorK0
import Derived.DeepKeys4
import Derived.Deep.QuietTactic
import Derived.BigQuiet
namespace Go.Proofs.YtmindclciogneaaDoor
open Go.RowKit
open Go.Maps (Keyed)

abbrev plT : TypeId := 78
theorem laidOut_ : laidOutB Tryd.prog = true := by kernel_rfl
theorem placeLaw : Keyed Tryd.prog plT :=
  Keyed.of_law (deep_law_laid laidOut_ (m := 3) (by omega) (of_decide_eq_true (by kernel_rfl)) (by kernel_rfl) (by kernel_rfl))
abbrev placeV (p : Nat) (t v : Bs) : Value := .agg #[.int .i64 (p : Nat), .string ⟨t.toArray⟩, .string ⟨v.toArray⟩]
theorem cells_int : Tryd.prog.cellsOf 3 = 1 := by kernel_rfl
theorem cells_str : Tryd.prog.cellsOf 9 = 1 := by kernel_rfl
theorem cells_name : Tryd.prog.cellsOf 76 = 2 := by kernel_rfl
theorem cells_place : Tryd.prog.cellsOf plT = 3 := by kernel_rfl
theorem lits_str (d : Nat) (s : ByteArray) (hs : s.size ≤ maxLen) : Tryd.prog.keyLits (d + 1) 9 [.string s] = some [.string s.data.toList] := by
  unfold Program.keyLits
  rw [Tryd.underlying9]
  simp [hs]
theorem lits_int (d : Nat) (n : Int) (hw : (Lit.int .i64 n).wf = true) : Tryd.prog.keyLits (d + 1) 3 [.int .i64 n] = some [.int .i64 n] := by
  unfold Program.keyLits
  rw [Tryd.underlying3]
  simp [hw]
theorem lits_name (d : Nat) (a b : ByteArray) (ha : a.size ≤ maxLen) (hb : b.size ≤ maxLen) : Tryd.prog.keyLits (d + 2) 76 [.string a, .string b] = some [.string a.data.toList, .string b.data.toList] := by
  unfold Program.keyLits
  rw [Tryd.underlying76]
  simp [cells_name, cells_str, lits_str, ha, hb]
theorem lits_place (d : Nat) (n : Int) (hw : (Lit.int .i64 n).wf = true) (a b : ByteArray) (ha : a.size ≤ maxLen) (hb : b.size ≤ maxLen) : Tryd.prog.keyLits (d + 3) plT [.int .i64 n, .string a, .string b] = some [.int .i64 n, .string a.data.toList, .string b.data.toList] := by
  unfold Program.keyLits
  rw [Tryd.underlying78]
  simp [cells_place, cells_name, cells_int, lits_int, hw, lits_name, ha, hb]
theorem placeFormed (n : Int) (a b : ByteArray) : (Value.agg #[.int .i64 n, .string a, .string b]).formed Tryd.prog plT = true := by
  simp [Value.formed, Tryd.underlying78, cells_place]
theorem placeKeyT : Tryd.prog.keyType plT = true := by kernel_rfl
theorem placeTypes : 2 ≤ Tryd.prog.types.size := of_decide_eq_true (by kernel_rfl)
theorem placeKey (p : Nat) (t v : Bs) (hp : p ≤ 1000000) (ht : t.length ≤ 1000000) (hv : v.length ≤ 1000000) : ∃ kl, keyOf Tryd.prog plT (placeV p t v) = some kl := by
  have hs : ∀ l : Bs, l.length ≤ 1000000 → (⟨l.toArray⟩ : ByteArray).size ≤ maxLen := fun l hl => by rw [← sl_len, sl_mk]; unfold maxLen; omega
  obtain ⟨d, hd⟩ : ∃ d, Tryd.prog.types.size + 1 = d + 3 := ⟨Tryd.prog.types.size - 2, by have := placeTypes; omega⟩
  have hl := lits_place d p (WalkArith.wf_i64 (by omega)) ⟨t.toArray⟩ ⟨v.toArray⟩ (hs t ht) (hs v hv)
  unfold keyOf placeV
  rw [Tryd.underlying78]
  dsimp only
  rw [placeKeyT, placeFormed, hd]
  simp only [Bool.and_self, if_true]
  have hc : (Value.agg #[.int .i64 (p : Nat), .string ⟨t.toArray⟩, .string ⟨v.toArray⟩]).cells.toList = [.int .i64 (p : Nat), .string ⟨t.toArray⟩, .string ⟨v.toArray⟩] := rfl
  rw [hc, hl]
  exact ⟨_, rfl⟩
theorem placeV_inj {p p' : Nat} {t t' v v' : Bs} (h : placeV p t v = placeV p' t' v') : p = p' ∧ t = t' ∧ v = v' := by
  unfold placeV at h
  simp only [Value.agg.injEq, Array.mk.injEq, List.cons.injEq, Value.int.injEq, Value.string.injEq, ByteArray.mk.injEq, and_true, true_and] at h
  obtain ⟨h1, h2, h3⟩ := h
  exact ⟨by omega, h2, h3⟩
theorem strLaw : Keyed Tryd.prog 9 := Maps.string_keyed Tryd.underlying9
theorem strKey (l : Bs) (h : l.length ≤ 1000000) : keyOf Tryd.prog 9 (.string ⟨l.toArray⟩) = some (.string l) := by
  have := WideMaps.keyOf_string_mk Tryd.underlying9 (s := ⟨l.toArray⟩) (by rw [← sl_len, sl_mk]; unfold maxLen; omega)
  rw [this]
/-- The names that were met. -/
def AncF (f : Value → Option Value) (anc : List Bs) : Prop := ∀ l : Bs, (f (.string ⟨l.toArray⟩)).isSome = decide (l ∈ anc)
/-- The keys that were met. -/
def MetF (f : Value → Option Value) (met : List (Nat × Bs × Bs)) : Prop := ∀ p t v, (f (placeV p t v)).isSome = decide ((p, t, v) ∈ met)
noncomputable def setF (f : Value → Option Value) (key v : Value) : Value → Option Value := fun k => @ite _ (k = key) (Classical.propDecidable _) (some v) (f k)
theorem setF_same (f : Value → Option Value) (key v : Value) : setF f key v key = some v := by simp [setF]
theorem setF_other (f : Value → Option Value) (key v k : Value) (h : k ≠ key) : setF f key v k = f k := by simp [setF, h]
theorem AncF.add {f : Value → Option Value} {anc : List Bs} (h : AncF f anc) (s : Bs) (v : Value) : AncF (setF f (.string ⟨s.toArray⟩) v) (s :: anc) := fun l => by
  by_cases e : l = s
  · subst e
    rw [setF_same]
    simp
  · rw [setF_other _ _ _ _ (by simp [e]), h l]
    simp [e]
theorem MetF.add {f : Value → Option Value} {met : List (Nat × Bs × Bs)} (h : MetF f met) (p : Nat) (t u : Bs) (v : Value) : MetF (setF f (placeV p t u) v) ((p, t, u) :: met) := fun p' t' u' => by
  by_cases e : (p', t', u') = (p, t, u)
  · cases e
    rw [setF_same]
    simp
  · rw [setF_other _ _ _ _ (fun e2 => e (by obtain ⟨h1, h2, h3⟩ := placeV_inj e2; rw [h1, h2, h3])), h p' t' u', decide_eq_decide]
    simp only [List.mem_cons]
    exact ⟨fun h => .inr h, fun h => h.resolve_left e⟩
theorem look_none {o : Option Value} (h : o.isSome = false) : o = none := by simpa using h
theorem look_some {o : Option Value} (h : o.isSome = true) : ∃ v, o = some v := Option.isSome_iff_exists.1 h

/-- How far Check is at node k. -/
def CheckAt (w : World) (bA bK bM nK : Nat) (m : List Nd) (V : Nat × Nat) (k : Nat) (wr : World) : Prop :=
  ∃ nA nM fA fM anc met, nA ≤ k ∧ nM ≤ k ∧ MapF Tryd.prog 9 3 wr bA nA fA ∧ AncF fA anc ∧ MapF Tryd.prog plT 3 wr bM nM fM ∧ MetF fM met ∧
    MapF Tryd.prog 3 3 wr bK nK (intF (lastAt (keysL m))) ∧ checkGo (keysL m) (m.drop k) k anc met = V ∧ Below w.heap.size w wr
theorem go_cons (ks : List (Nat × Nat)) (m : List Nd) (k : Nat) (y : Nd) (anc : List Bs) (met : List (Nat × Bs × Bs)) (hy : m[k]? = some y) :
    checkGo ks (m.drop k) k anc met = if y.kind = 4 ∧ ¬ y.value ∈ anc then (4, y.start) else if y.anchor ≠ [] ∧ y.anchor ∈ anc then (5, y.start) else
      match lastAt ks k with
      | none => checkGo ks (m.drop (k + 1)) (k + 1) (if y.anchor = [] then anc else y.anchor :: anc) met
      | some p => if (p, y.tag, y.value) ∈ met then (5, y.start) else checkGo ks (m.drop (k + 1)) (k + 1) (if y.anchor = [] then anc else y.anchor :: anc) ((p, y.tag, y.value) :: met) := by
  have hk : k < m.length := (List.getElem?_eq_some_iff.1 hy).1
  have e : m[k] = y := (List.getElem?_eq_some_iff.1 hy).2
  rw [List.drop_eq_getElem_cons hk, e, checkGo]
  cases lastAt ks k <;> rfl
theorem lastAt_mem {ps : List (Nat × Nat)} {k p : Nat} (h : lastAt ps k = some p) : (k, p) ∈ ps := by
  unfold lastAt at h
  have key : ∀ l : List (Nat × Nat), l.lookup k = some p → (k, p) ∈ l := by
    intro l
    induction l with
    | nil => intro h; cases h
    | cons x t ih =>
      intro h
      obtain ⟨a, b⟩ := x
      rw [List.lookup_cons] at h
      split at h
      · rename_i e
        cases h
        rw [beq_iff_eq.1 e]
        simp
      · simp [ih h]
  simpa using key _ h
theorem keysFrom_lt (m : List Nd) : ∀ (i : Nat) (q : Nat × Nat), q ∈ keysFrom i m → q.2 < i + m.length := by
  induction m with
  | nil => intro i q h; cases h
  | cons x t ih =>
    intro i q h
    rw [keysFrom, List.mem_append] at h
    rcases h with h | h
    · split at h
      · obtain ⟨a, _, rfl⟩ := List.mem_map.1 h
        simp
      · cases h
    · have := ih (i + 1) q h
      simp
      omega
-- the walk (k2.py)
set_option maxRecDepth 100000 in
set_option maxHeartbeats 8000000 in
theorem ccheck_any (v : Value) (m : List Nd) (w : World) (h : TreeR w v m) (hm : m.length ≤ 1000000) (hsum : sumK m ≤ 1000000) (hkb : ∀ y ∈ m, ∀ k ∈ y.kids, k ≤ 1000000) (hst : ∀ y ∈ m, y.tag.length ≤ 1000000 ∧ y.anchor.length ≤ 1000000 ∧ y.value.length ≤ 1000000) :
    Calls Tryd.prog 22 #[v] w fun e w' => e = .returned (.tuple #[.int .i64 (checkM m).1, .int .i64 (checkM m).2]) ∧ Below w.heap.size w w' := by
  obtain ⟨A, c, rfl⟩ := h.shape
  obtain ⟨V, hV⟩ : ∃ V, checkM m = V := ⟨_, rfl⟩
  rw [hV]
  have HV := Lib.hid hV
  have hmm := @run_makeMap Tryd.prog
  have H0 := Lib.hid h
  have HS := Lib.hid hst
  have ck := fun W (h : TreeR W (.slice A m.length c) m) => keys_any _ m W h hm hsum hkb
  clear hV h hst hkb
  go_enter Tryd.func22, Tryd.ntmps22
  go_wp2_with fail
  have hA0 := MapF.made w Tryd.prog 9 3
  have hb0 : Below w.heap.size w (w.alloc (.map #[] 0)) := (Below.refl _ _).alloc (Nat.le_refl _) _
  generalize w.alloc _ = w1 at hA0 hb0 ⊢
  refine (ck w1 (H0.out.below hb0)).mono ?_
  rintro e w2 ⟨nK, rfl, hnK, hK0, hb2⟩
  have hA1 := hA0.below hb2
  have hb2 := bthen hb0 hb2
  have hl1 := hA0.lt
  clear hA0 hb0 ck
  generalize w1.heap.size = bK at hK0 hl1 ⊢
  go_wp2_with fail
  have hM0 := MapF.made w2 Tryd.prog plT 3
  have hA2 := hA1.alloc (.map #[] 0)
  have hK2 := hK0.alloc (.map #[] 0)
  have hb3 : Below w.heap.size w (w2.alloc (.map #[] 0)) := hb2.alloc hb2.size _
  have hl2 := hK0.lt
  clear hA1 hK0 hb2
  generalize w2.alloc _ = w3 at hM0 hA2 hK2 hb3 ⊢
  generalize w2.heap.size = bM at hM0 hl2 ⊢
  go_loopw [24] (fun i wr => ∃ k : Nat, i = .int .i64 k ∧ k ≤ m.length ∧ CheckAt w w.heap.size bK bM nK m V k wr) (fun i _ => m.length - (intOf i).toNat)
  case atStart => exact ⟨0, rfl, Nat.zero_le _, 0, 0, _, _, [], [], Nat.le_refl _, Nat.le_refl _, hA2, (fun l => by simp), hM0, (fun p t v => by simp), hK2, HV.out, hb3⟩
  case round =>
    obtain ⟨k, rfl, hk, nA, nM, fA, fM, anc, met, hnA, hnM, hA, hanc, hM, hmet, hKK, hgo, hbw⟩ := hrel
    clear hA2 hM0 hK2 hb3 HV hmm
    by_cases hlt : k < m.length
    · obtain ⟨y, hy⟩ : ∃ y, m[k]? = some y := ⟨_, List.getElem?_eq_getElem hlt⟩
      rw [go_cons _ _ _ y _ _ hy] at hgo
      have HG0 := Lib.hid hgo
      have hs := HS.out y (List.mem_of_getElem? hy)
      rcases H0.out.below hbw with ⟨h0, _⟩ | ⟨g, c2, hv, hc2, htr⟩
      · subst h0; simp at hlt
      · cases hv
        obtain ⟨kv, hcl, hkr⟩ := htr k y hy
        obtain ⟨A2, cp3, rfl⟩ := hkr.shape
        clear hkr
        have q0 : wr.cell? ⟨g, k * 10, none⟩ = some (.int .i64 y.kind) := hcl 0 (by omega)
        have q1 : wr.cell? ⟨g, k * 10 + 1, none⟩ = some (.int .i64 y.style) := hcl 1 (by omega)
        have q2 : wr.cell? ⟨g, k * 10 + 2, none⟩ = some (.string ⟨y.tag.toArray⟩) := hcl 2 (by omega)
        have q3 : wr.cell? ⟨g, k * 10 + 3, none⟩ = some (.string ⟨y.anchor.toArray⟩) := hcl 3 (by omega)
        have q4 : wr.cell? ⟨g, k * 10 + 4, none⟩ = some (.string ⟨y.value.toArray⟩) := hcl 4 (by omega)
        have q5 : wr.cell? ⟨g, k * 10 + 5, none⟩ = some (.int .i64 y.start) := hcl 5 (by omega)
        have q6 : wr.cell? ⟨g, k * 10 + 6, none⟩ = some (.int .i64 y.stop) := hcl 6 (by omega)
        have q7 : wr.cell? ⟨g, k * 10 + 7, none⟩ = some (.int .i64 y.head) := hcl 7 (by omega)
        have q8 : wr.cell? ⟨g, k * 10 + 8, none⟩ = some (.int .i64 y.mark) := hcl 8 (by omega)
        have q9 : wr.cell? ⟨g, k * 10 + 9, none⟩ = some (.slice A2 y.kids.length cp3) := hcl 9 (by omega)
        clear htr hcl hgo hy
        have c0W : True := trivial
        go_wp2_with fail
        have c0 : (wr.alloc (.cells #[.int .i64 y.kind, .int .i64 y.style, .string ⟨y.tag.toArray⟩, .string ⟨y.anchor.toArray⟩, .string ⟨y.value.toArray⟩, .int .i64 y.start, .int .i64 y.stop, .int .i64 y.head, .int .i64 y.mark, .slice A2 y.kids.length cp3] 42)).cell? ⟨wr.heap.size, 0, none⟩ = some (.int .i64 y.kind) := by rw [World.cell?_alloc_at _ _ _ _ rfl]; rfl
        have c2 : (wr.alloc (.cells #[.int .i64 y.kind, .int .i64 y.style, .string ⟨y.tag.toArray⟩, .string ⟨y.anchor.toArray⟩, .string ⟨y.value.toArray⟩, .int .i64 y.start, .int .i64 y.stop, .int .i64 y.head, .int .i64 y.mark, .slice A2 y.kids.length cp3] 42)).cell? ⟨wr.heap.size, 2, none⟩ = some (.string ⟨y.tag.toArray⟩) := by rw [World.cell?_alloc_at _ _ _ _ rfl]; rfl
        have c3 : (wr.alloc (.cells #[.int .i64 y.kind, .int .i64 y.style, .string ⟨y.tag.toArray⟩, .string ⟨y.anchor.toArray⟩, .string ⟨y.value.toArray⟩, .int .i64 y.start, .int .i64 y.stop, .int .i64 y.head, .int .i64 y.mark, .slice A2 y.kids.length cp3] 42)).cell? ⟨wr.heap.size, 3, none⟩ = some (.string ⟨y.anchor.toArray⟩) := by rw [World.cell?_alloc_at _ _ _ _ rfl]; rfl
        have c4 : (wr.alloc (.cells #[.int .i64 y.kind, .int .i64 y.style, .string ⟨y.tag.toArray⟩, .string ⟨y.anchor.toArray⟩, .string ⟨y.value.toArray⟩, .int .i64 y.start, .int .i64 y.stop, .int .i64 y.head, .int .i64 y.mark, .slice A2 y.kids.length cp3] 42)).cell? ⟨wr.heap.size, 4, none⟩ = some (.string ⟨y.value.toArray⟩) := by rw [World.cell?_alloc_at _ _ _ _ rfl]; rfl
        have c5 : (wr.alloc (.cells #[.int .i64 y.kind, .int .i64 y.style, .string ⟨y.tag.toArray⟩, .string ⟨y.anchor.toArray⟩, .string ⟨y.value.toArray⟩, .int .i64 y.start, .int .i64 y.stop, .int .i64 y.head, .int .i64 y.mark, .slice A2 y.kids.length cp3] 42)).cell? ⟨wr.heap.size, 5, none⟩ = some (.int .i64 y.start) := by rw [World.cell?_alloc_at _ _ _ _ rfl]; rfl
        have hA4 := hA.alloc (.cells #[.int .i64 y.kind, .int .i64 y.style, .string ⟨y.tag.toArray⟩, .string ⟨y.anchor.toArray⟩, .string ⟨y.value.toArray⟩, .int .i64 y.start, .int .i64 y.stop, .int .i64 y.head, .int .i64 y.mark, .slice A2 y.kids.length cp3] 42)
        have hM4 := hM.alloc (.cells #[.int .i64 y.kind, .int .i64 y.style, .string ⟨y.tag.toArray⟩, .string ⟨y.anchor.toArray⟩, .string ⟨y.value.toArray⟩, .int .i64 y.start, .int .i64 y.stop, .int .i64 y.head, .int .i64 y.mark, .slice A2 y.kids.length cp3] 42)
        have hK4 := hKK.alloc (.cells #[.int .i64 y.kind, .int .i64 y.style, .string ⟨y.tag.toArray⟩, .string ⟨y.anchor.toArray⟩, .string ⟨y.value.toArray⟩, .int .i64 y.start, .int .i64 y.stop, .int .i64 y.head, .int .i64 y.mark, .slice A2 y.kids.length cp3] 42)
        have hb4 := hbw.alloc hbw.size (.cells #[.int .i64 y.kind, .int .i64 y.style, .string ⟨y.tag.toArray⟩, .string ⟨y.anchor.toArray⟩, .string ⟨y.value.toArray⟩, .int .i64 y.start, .int .i64 y.stop, .int .i64 y.head, .int .i64 y.mark, .slice A2 y.kids.length cp3] 42)
        have hBB : wr.heap.size < (wr.alloc (.cells #[.int .i64 y.kind, .int .i64 y.style, .string ⟨y.tag.toArray⟩, .string ⟨y.anchor.toArray⟩, .string ⟨y.value.toArray⟩, .int .i64 y.start, .int .i64 y.stop, .int .i64 y.head, .int .i64 y.mark, .slice A2 y.kids.length cp3] 42)).heap.size := by simp
        clear q0 q1 q2 q3 q4 q5 q6 q7 q8 q9 hA hM hKK hbw
        generalize wr.alloc _ = w4 at c0 c2 c3 c4 c5 hA4 hM4 hK4 hb4 hBB ⊢
        generalize wr.heap.size = B at c0 c2 c3 c4 c5 hBB ⊢
        by_cases hal : y.kind = 4 ∧ ¬ y.value ∈ anc
        · obtain ⟨hk4, hni⟩ := hal
          have hkb : ((y.kind : Int) == 4) = true := by rw [hk4]; rfl
          have hl := look_none (o := fA (.string ⟨y.value.toArray⟩)) (by rw [hanc]; simpa using hni)
          have HF : Hid (V = (4, y.start)) := Lib.hid (by rw [← HG0.out, if_pos ⟨hk4, hni⟩])
          have hlk := MapF.look_ok (T := 31) hA4 strLaw Tryd.underlying31 (intZero _) (strKey _ hs.2.2) none hl; simp only [hlk, Result.andThen]; clear hlk
          clear HG0 hk4 hni hl
          go_wp2_with fail
          go_quiet (fail)
          go_wp2
          go_ret2
          exact ⟨by rw [HF.out]; rfl, hb4.trans ⟨rfl, rfl, rfl, Nat.le_refl _, fun _ _ => rfl⟩⟩
        · have HGO : Hid ((if y.anchor ≠ [] ∧ y.anchor ∈ anc then (5, y.start) else match lastAt (keysL m) k with | none => checkGo (keysL m) (m.drop (k + 1)) (k + 1) (if y.anchor = [] then anc else y.anchor :: anc) met | some p => if (p, y.tag, y.value) ∈ met then (5, y.start) else checkGo (keysL m) (m.drop (k + 1)) (k + 1) (if y.anchor = [] then anc else y.anchor :: anc) ((p, y.tag, y.value) :: met)) = V) := Lib.hid (by
            have := HG0.out
            rw [if_neg hal] at this
            exact this)
          clear HG0
          by_cases hk4 : y.kind = 4
          case' pos =>
            have hkb : ((y.kind : Int) == 4) = true := by rw [hk4]; rfl
            obtain ⟨u, hl⟩ := look_some (o := fA (.string ⟨y.value.toArray⟩)) (by rw [hanc]; simpa using fun h => hal ⟨hk4, h⟩)
            have hlk := MapF.look_ok (T := 31) hA4 strLaw Tryd.underlying31 (intZero _) (strKey _ hs.2.2) (some u) hl; simp only [hlk, Result.andThen]; clear hlk
            clear hl hal hk4
          case' neg =>
            have hkb : ((y.kind : Int) == 4) = false := by simp; omega
            have hlk := MapF.look_ok (T := 31) hA4 strLaw Tryd.underlying31 (intZero _) (strKey _ hs.2.2) _ rfl; simp only [hlk, Result.andThen]; clear hlk
            clear hal hk4
          all_goals
            by_cases han : y.anchor = []
            · have hae : y.anchor.isEmpty = true := by rw [han]; rfl
              have hae2 : (⟨y.anchor.toArray⟩ : ByteArray).toList.isEmpty = true := by rw [sl_empty, sl_mk]; exact hae
              have HGO2 : Hid ((match lastAt (keysL m) k with | none => checkGo (keysL m) (m.drop (k + 1)) (k + 1) anc met | some p => if (p, y.tag, y.value) ∈ met then (5, y.start) else checkGo (keysL m) (m.drop (k + 1)) (k + 1) anc ((p, y.tag, y.value) :: met)) = V) := Lib.hid (by
                have := HGO.out
                rw [if_neg (fun h => h.1 han), if_pos han] at this
                exact this)
              clear HGO han
              go_wp2_with fail
              cases hof : lastAt (keysL m) k
              case none =>
                have HR : Hid (checkGo (keysL m) (m.drop (k + 1)) (k + 1) anc met = V) := Lib.hid (by have := HGO2.out; rw [hof] at this; exact this)
                have hlk := MapF.look_ok (T := 71) hK4 intLaw Tryd.underlying71 (intZero _) (intKey k (by omega)) none (by rw [intF_at, hof]; rfl); simp only [hlk, Result.andThen]; clear hlk
                clear HGO2
                go_wp2
                go_roundw
                case rel => exact ⟨k + 1, by go_num, by omega, nA, nM, fA, fM, anc, met, by omega, by omega, hA4, hanc, hM4, hmet, hK4, HR.out, hb4⟩
                case measure => simp [intOf]; omega
              case some p =>
                have hpl : p ≤ 1000000 := by have := keysFrom_lt m 0 (k, p) (lastAt_mem hof); simp at this; omega
                have HGO3 : Hid ((if (p, y.tag, y.value) ∈ met then (5, y.start) else checkGo (keysL m) (m.drop (k + 1)) (k + 1) anc ((p, y.tag, y.value) :: met)) = V) := Lib.hid (by have := HGO2.out; rw [hof] at this; exact this)
                have hlk := MapF.look_ok (T := 71) hK4 intLaw Tryd.underlying71 (intZero _) (intKey k (by omega)) (some (.int .i64 (p : Nat))) (by rw [intF_at, hof]; rfl); simp only [hlk, Result.andThen]; clear hlk
                obtain ⟨kl, hkl⟩ := placeKey p y.tag y.value hpl hs.1 hs.2.2
                have HKL := Lib.hid hkl
                clear HGO2 hkl hof
                go_wp2_with fail
                have d0 : (w4.alloc (.cells #[.int .i64 (p : Nat), .string ⟨y.tag.toArray⟩, .string ⟨y.value.toArray⟩] plT)).cell? ⟨w4.heap.size, 0, none⟩ = some (.int .i64 (p : Nat)) := by rw [World.cell?_alloc_at _ _ _ _ rfl]; rfl
                have d1 : (w4.alloc (.cells #[.int .i64 (p : Nat), .string ⟨y.tag.toArray⟩, .string ⟨y.value.toArray⟩] plT)).cell? ⟨w4.heap.size, 1, none⟩ = some (.string ⟨y.tag.toArray⟩) := by rw [World.cell?_alloc_at _ _ _ _ rfl]; rfl
                have d2 : (w4.alloc (.cells #[.int .i64 (p : Nat), .string ⟨y.tag.toArray⟩, .string ⟨y.value.toArray⟩] plT)).cell? ⟨w4.heap.size, 2, none⟩ = some (.string ⟨y.value.toArray⟩) := by rw [World.cell?_alloc_at _ _ _ _ rfl]; rfl
                have e5 : (w4.alloc (.cells #[.int .i64 (p : Nat), .string ⟨y.tag.toArray⟩, .string ⟨y.value.toArray⟩] plT)).cell? ⟨B, 5, none⟩ = some (.int .i64 y.start) := pw_cell ((Below.refl _ _).alloc (Nat.le_refl _) _) c5
                have hA6 := hA4.alloc (.cells #[.int .i64 (p : Nat), .string ⟨y.tag.toArray⟩, .string ⟨y.value.toArray⟩] plT)
                have hM6 := hM4.alloc (.cells #[.int .i64 (p : Nat), .string ⟨y.tag.toArray⟩, .string ⟨y.value.toArray⟩] plT)
                have hK6 := hK4.alloc (.cells #[.int .i64 (p : Nat), .string ⟨y.tag.toArray⟩, .string ⟨y.value.toArray⟩] plT)
                have hb6 := hb4.alloc hb4.size (.cells #[.int .i64 (p : Nat), .string ⟨y.tag.toArray⟩, .string ⟨y.value.toArray⟩] plT)
                have hBs : w4.heap.size < (w4.alloc (.cells #[.int .i64 (p : Nat), .string ⟨y.tag.toArray⟩, .string ⟨y.value.toArray⟩] plT)).heap.size := by simp
                clear c5
                generalize w4.alloc _ = w6 at d0 d1 d2 e5 hA6 hM6 hK6 hb6 hBs ⊢
                generalize w4.heap.size = B2 at d0 d1 d2 hBs ⊢
                by_cases hmt : (p, y.tag, y.value) ∈ met
                · obtain ⟨u, hu⟩ := look_some (o := fM (placeV p y.tag y.value)) (by rw [hmet]; simpa using hmt)
                  have HF : Hid (V = (5, y.start)) := Lib.hid (by rw [← HGO3.out, if_pos hmt])
                  have hlk := MapF.look_ok (T := 73) hM6 placeLaw Tryd.underlying73 (intZero _) HKL.out (some u) hu; simp only [hlk, Result.andThen]; clear hlk
                  clear HGO3 HKL hu hmt
                  go_wp2_with fail
                  go_quiet (fail)
                  go_wp2
                  go_ret2
                  exact ⟨by rw [HF.out]; rfl, hb6.trans ⟨rfl, rfl, rfl, Nat.le_refl _, fun _ _ => rfl⟩⟩
                · have hu := look_none (o := fM (placeV p y.tag y.value)) (by rw [hmet]; simpa using hmt)
                  have HR : Hid (checkGo (keysL m) (m.drop (k + 1)) (k + 1) anc ((p, y.tag, y.value) :: met) = V) := Lib.hid (by rw [← HGO3.out, if_neg hmt])
                  have hlk := MapF.look_ok (T := 73) hM6 placeLaw Tryd.underlying73 (intZero _) HKL.out none hu; simp only [hlk, Result.andThen]; clear hlk
                  clear HGO3 hu hmt
                  go_wp2_with fail
                  obtain ⟨w7, hrun, hst, ht⟩ := hM6.store (T := 73) placeLaw Tryd.underlying73 (by unfold maxLen; omega) HKL.out (intElem k (by omega))
                  simp only [hrun, Result.andThen]
                  clear hrun
                  have hM7 := hst (setF fM (placeV p y.tag y.value) (.int .i64 (k : Nat))) (setF_same _ _ _) (fun q hq => setF_other _ _ _ _ hq)
                  have hA7 := hA6.kept ht.grown (by simp only [ne_eq, Option.some.injEq]; omega)
                  have hK7 := hK6.kept ht.grown (by simp only [ne_eq, Option.some.injEq]; omega)
                  have hb7 := turned_below hb6 ht hb6.size (by omega)
                  clear hst ht HKL
                  go_wp2
                  go_roundw
                  case rel => exact ⟨k + 1, by go_num, by omega, nA, nM + 1, fA, _, anc, _, by omega, by omega, hA7, hanc, hM7, hmet.add p y.tag y.value _, hK7, HR.out, hb7⟩
                  case measure => simp [intOf]; omega
            · have hae : y.anchor.isEmpty = false := by simpa using han
              have hae2 : (⟨y.anchor.toArray⟩ : ByteArray).toList.isEmpty = false := by rw [sl_empty, sl_mk]; exact hae
              by_cases hin : y.anchor ∈ anc
              · obtain ⟨u, hu⟩ := look_some (o := fA (.string ⟨y.anchor.toArray⟩)) (by rw [hanc]; simpa using hin)
                have HF : Hid (V = (5, y.start)) := Lib.hid (by rw [← HGO.out, if_pos ⟨han, hin⟩])
                clear HGO han hin
                go_wp2_with fail
                have hlk := MapF.look_ok (T := 31) hA4 strLaw Tryd.underlying31 (intZero _) (strKey _ hs.2.1) (some u) hu; simp only [hlk, Result.andThen]; clear hlk
                clear hu
                go_wp2_with fail
                go_quiet (fail)
                go_wp2
                go_ret2
                exact ⟨by rw [HF.out]; rfl, hb4.trans ⟨rfl, rfl, rfl, Nat.le_refl _, fun _ _ => rfl⟩⟩
              · have hu := look_none (o := fA (.string ⟨y.anchor.toArray⟩)) (by rw [hanc]; simpa using hin)
                have HGO2 : Hid ((match lastAt (keysL m) k with | none => checkGo (keysL m) (m.drop (k + 1)) (k + 1) (y.anchor :: anc) met | some p => if (p, y.tag, y.value) ∈ met then (5, y.start) else checkGo (keysL m) (m.drop (k + 1)) (k + 1) (y.anchor :: anc) ((p, y.tag, y.value) :: met)) = V) := Lib.hid (by
                  have := HGO.out
                  rw [if_neg (fun h => hin h.2), if_neg han] at this
                  exact this)
                clear HGO han hin
                go_wp2_with fail
                have hlk := MapF.look_ok (T := 31) hA4 strLaw Tryd.underlying31 (intZero _) (strKey _ hs.2.1) none hu; simp only [hlk, Result.andThen]; clear hlk
                clear hu
                go_wp2_with fail
                obtain ⟨w5, hrun, hst, ht⟩ := hA4.store (T := 31) strLaw Tryd.underlying31 (by unfold maxLen; omega) (strKey y.anchor hs.2.1) (intElem k (by omega))
                simp only [hrun, Result.andThen]
                clear hrun
                have hA5 := hst (setF fA (.string ⟨y.anchor.toArray⟩) (.int .i64 (k : Nat))) (setF_same _ _ _) (fun q hq => setF_other _ _ _ _ hq)
                have hM5 := hM4.kept ht.grown (by simp only [ne_eq, Option.some.injEq]; omega)
                have hK5 := hK4.kept ht.grown (by simp only [ne_eq, Option.some.injEq]; omega)
                have hb5 := turned_below hb4 ht hb4.size (Nat.le_refl _)
                have c2 : w5.cell? ⟨B, 2, none⟩ = some (.string ⟨y.tag.toArray⟩) := (turned_cell ht _).trans c2
                have c4 : w5.cell? ⟨B, 4, none⟩ = some (.string ⟨y.value.toArray⟩) := (turned_cell ht _).trans c4
                have c5 : w5.cell? ⟨B, 5, none⟩ = some (.int .i64 y.start) := (turned_cell ht _).trans c5
                have hanc5 := hanc.add y.anchor (.int .i64 (k : Nat))
                clear hst ht hA4 hM4 hK4 hb4 hanc
                go_wp2_with fail
                cases hof : lastAt (keysL m) k
                case none =>
                  have HR : Hid (checkGo (keysL m) (m.drop (k + 1)) (k + 1) (y.anchor :: anc) met = V) := Lib.hid (by have := HGO2.out; rw [hof] at this; exact this)
                  have hlk := MapF.look_ok (T := 71) hK5 intLaw Tryd.underlying71 (intZero _) (intKey k (by omega)) none (by rw [intF_at, hof]; rfl); simp only [hlk, Result.andThen]; clear hlk
                  clear HGO2
                  go_wp2
                  go_roundw
                  case rel => exact ⟨k + 1, by go_num, by omega, (nA + 1), nM, _, fM, (y.anchor :: anc), met, by omega, by omega, hA5, hanc5, hM5, hmet, hK5, HR.out, hb5⟩
                  case measure => simp [intOf]; omega
                case some p =>
                  have hpl : p ≤ 1000000 := by have := keysFrom_lt m 0 (k, p) (lastAt_mem hof); simp at this; omega
                  have HGO3 : Hid ((if (p, y.tag, y.value) ∈ met then (5, y.start) else checkGo (keysL m) (m.drop (k + 1)) (k + 1) (y.anchor :: anc) ((p, y.tag, y.value) :: met)) = V) := Lib.hid (by have := HGO2.out; rw [hof] at this; exact this)
                  have hlk := MapF.look_ok (T := 71) hK5 intLaw Tryd.underlying71 (intZero _) (intKey k (by omega)) (some (.int .i64 (p : Nat))) (by rw [intF_at, hof]; rfl); simp only [hlk, Result.andThen]; clear hlk
                  obtain ⟨kl, hkl⟩ := placeKey p y.tag y.value hpl hs.1 hs.2.2
                  have HKL := Lib.hid hkl
                  clear HGO2 hkl hof
                  go_wp2_with fail
                  have d0 : (w5.alloc (.cells #[.int .i64 (p : Nat), .string ⟨y.tag.toArray⟩, .string ⟨y.value.toArray⟩] plT)).cell? ⟨w5.heap.size, 0, none⟩ = some (.int .i64 (p : Nat)) := by rw [World.cell?_alloc_at _ _ _ _ rfl]; rfl
                  have d1 : (w5.alloc (.cells #[.int .i64 (p : Nat), .string ⟨y.tag.toArray⟩, .string ⟨y.value.toArray⟩] plT)).cell? ⟨w5.heap.size, 1, none⟩ = some (.string ⟨y.tag.toArray⟩) := by rw [World.cell?_alloc_at _ _ _ _ rfl]; rfl
                  have d2 : (w5.alloc (.cells #[.int .i64 (p : Nat), .string ⟨y.tag.toArray⟩, .string ⟨y.value.toArray⟩] plT)).cell? ⟨w5.heap.size, 2, none⟩ = some (.string ⟨y.value.toArray⟩) := by rw [World.cell?_alloc_at _ _ _ _ rfl]; rfl
                  have e5 : (w5.alloc (.cells #[.int .i64 (p : Nat), .string ⟨y.tag.toArray⟩, .string ⟨y.value.toArray⟩] plT)).cell? ⟨B, 5, none⟩ = some (.int .i64 y.start) := pw_cell ((Below.refl _ _).alloc (Nat.le_refl _) _) c5
                  have hA6 := hA5.alloc (.cells #[.int .i64 (p : Nat), .string ⟨y.tag.toArray⟩, .string ⟨y.value.toArray⟩] plT)
                  have hM6 := hM5.alloc (.cells #[.int .i64 (p : Nat), .string ⟨y.tag.toArray⟩, .string ⟨y.value.toArray⟩] plT)
                  have hK6 := hK5.alloc (.cells #[.int .i64 (p : Nat), .string ⟨y.tag.toArray⟩, .string ⟨y.value.toArray⟩] plT)
                  have hb6 := hb5.alloc hb5.size (.cells #[.int .i64 (p : Nat), .string ⟨y.tag.toArray⟩, .string ⟨y.value.toArray⟩] plT)
                  have hBs : w5.heap.size < (w5.alloc (.cells #[.int .i64 (p : Nat), .string ⟨y.tag.toArray⟩, .string ⟨y.value.toArray⟩] plT)).heap.size := by simp
                  clear c5
                  generalize w5.alloc _ = w6 at d0 d1 d2 e5 hA6 hM6 hK6 hb6 hBs ⊢
                  generalize w5.heap.size = B2 at d0 d1 d2 hBs ⊢
                  by_cases hmt : (p, y.tag, y.value) ∈ met
                  · obtain ⟨u, hu⟩ := look_some (o := fM (placeV p y.tag y.value)) (by rw [hmet]; simpa using hmt)
                    have HF : Hid (V = (5, y.start)) := Lib.hid (by rw [← HGO3.out, if_pos hmt])
                    have hlk := MapF.look_ok (T := 73) hM6 placeLaw Tryd.underlying73 (intZero _) HKL.out (some u) hu; simp only [hlk, Result.andThen]; clear hlk
                    clear HGO3 HKL hu hmt
                    go_wp2_with fail
                    go_quiet (fail)
                    go_wp2
                    go_ret2
                    exact ⟨by rw [HF.out]; rfl, hb6.trans ⟨rfl, rfl, rfl, Nat.le_refl _, fun _ _ => rfl⟩⟩
                  · have hu := look_none (o := fM (placeV p y.tag y.value)) (by rw [hmet]; simpa using hmt)
                    have HR : Hid (checkGo (keysL m) (m.drop (k + 1)) (k + 1) (y.anchor :: anc) ((p, y.tag, y.value) :: met) = V) := Lib.hid (by rw [← HGO3.out, if_neg hmt])
                    have hlk := MapF.look_ok (T := 73) hM6 placeLaw Tryd.underlying73 (intZero _) HKL.out none hu; simp only [hlk, Result.andThen]; clear hlk
                    clear HGO3 hu hmt
                    go_wp2_with fail
                    obtain ⟨w7, hrun, hst, ht⟩ := hM6.store (T := 73) placeLaw Tryd.underlying73 (by unfold maxLen; omega) HKL.out (intElem k (by omega))
                    simp only [hrun, Result.andThen]
                    clear hrun
                    have hM7 := hst (setF fM (placeV p y.tag y.value) (.int .i64 (k : Nat))) (setF_same _ _ _) (fun q hq => setF_other _ _ _ _ hq)
                    have hA7 := hA6.kept ht.grown (by simp only [ne_eq, Option.some.injEq]; omega)
                    have hK7 := hK6.kept ht.grown (by simp only [ne_eq, Option.some.injEq]; omega)
                    have hb7 := turned_below hb6 ht hb6.size (by omega)
                    clear hst ht HKL
                    go_wp2
                    go_roundw
                    case rel => exact ⟨k + 1, by go_num, by omega, (nA + 1), nM + 1, _, _, (y.anchor :: anc), _, by omega, by omega, hA7, hanc5, hM7, hmet.add p y.tag y.value _, hK7, HR.out, hb7⟩
                    case measure => simp [intOf]; omega
    · have hke : k = m.length := by omega
      have HF : Hid (V = (0, 0)) := Lib.hid (by rw [← hgo, hke, List.drop_length]; rfl)
      clear hgo hA hM hKK hke
      go_wp2
      go_ret2
      exact ⟨by rw [HF.out]; rfl, hbw⟩
end Go.Proofs.YtmindclciogneaaDoor
