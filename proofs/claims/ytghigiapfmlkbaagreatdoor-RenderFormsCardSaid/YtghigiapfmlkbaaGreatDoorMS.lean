/- Maps as functions, with their number of entries; m[k]++; delete. -/
import Derived.Test.YtghigiapfmlkbaaGreatDoorKA
import Derived.WideKeyEntry
import Derived.Maps.Views
namespace Go.Proofs.YtghigiapfmlkbaaGreatDoor
open Go.RowKit
open Go.Maps (Keyed)
open Go.ChangeMaps Go.MapKept Go.WideShapes Go.WideElems

section
variable {P : Program} {K E T : TypeId} {w : World} {b n : Nat} {f : Value → Option Value} {m : Nat}
/-- As MapF, with the number of entries. -/
def MapS (P : Program) (K E : TypeId) (w : World) (b n : Nat) (f : Value → Option Value) (m : Nat) : Prop :=
  ∃ D : DataW Unit, w.ownsMap P K (plainElem P E) b n D ∧ (∀ key kl, keyOf P K key = some kl →
    match f key with
    | none => ∀ z, D.atKey kl z = z
    | some v => ∃ d p, plainElem P E v = some (d, p) ∧ ∀ z, D.atKey kl z = d) ∧ Maps.size D = m
theorem MapS.mapF (h : MapS P K E w b n f m) : MapF P K E w b n f := by
  obtain ⟨D, h1, h2, _⟩ := h
  exact ⟨D, h1, h2⟩
theorem MapF.sized (h : MapF P K E w b n f) : ∃ m, MapS P K E w b n f m := by
  obtain ⟨D, h1, h2⟩ := h
  exact ⟨_, D, h1, h2, rfl⟩
theorem MapS.made (w : World) (P : Program) (K E : TypeId) : MapS P K E (w.alloc (.map #[] 0)) w.heap.size 0 (fun _ => none) 0 :=
  ⟨_, World.ownsMap_made w P K _, fun _ _ _ _ => rfl, rfl⟩
theorem MapS.kept {w' : World} {row : Option Nat} (h : MapS P K E w b n f m) (hg : w.grownBy w' row) (hne : some b ≠ row) : MapS P K E w' b n f m := by
  obtain ⟨D, h1, h2, h3⟩ := h
  exact ⟨D, h1.kept hg hne, h2, h3⟩
theorem MapS.below {w' : World} (h : MapS P K E w b n f m) (hb : Below w.heap.size w w') : MapS P K E w' b n f m :=
  h.kept (row := none) ⟨hb.os, hb.tape, hb.output, hb.size, fun i hi _ => hb.block i hi⟩ (by simp)
theorem MapS.alloc (h : MapS P K E w b n f m) (o : Obj) : MapS P K E (w.alloc o) b n f m := h.kept (World.grownBy_alloc w o none) (by simp)
theorem MapS.setCell (h : MapS P K E w b n f m) {a : Addr} (ha : b ≠ a.block) (u : Value) : MapS P K E (w.setCell a u) b n f m := by
  obtain ⟨D, h1, h2, h3⟩ := h
  exact ⟨D, h1.setCell ha u, h2, h3⟩
theorem MapS.drew (h : MapS P K E w b n f m) : MapS P K E w.drew b n f m := h
theorem MapS.mono (h : MapS P K E w b n f m) {n' : Nat} (hn : n ≤ n') : MapS P K E w b n' f m := by
  obtain ⟨D, h1, h2, h3⟩ := h
  exact ⟨D, h1.mono hn, h2, h3⟩
theorem MapS.tight (h : MapS P K E w b n f m) : MapS P K E w b m f m := by
  obtain ⟨D, ⟨es, clock, hb, F, hs, rfl⟩, h2, h3⟩ := h
  refine ⟨_, ⟨es, clock, hb, F, ?_, rfl⟩, h2, h3⟩
  simp [Maps.size, length_sorted] at h3
  omega
theorem MapS.len (h : MapS P K E w b n f m) (ht : P.underlying T = some (.map K E)) (ty : TypeId) : (Builtin.len_ #[T] ty #[.map (some b)]).run P w = .ok (.int .i64 m) w := by
  obtain ⟨D, h1, _, h3⟩ := h
  rw [h1.len ht ty, h3]
theorem MapS.has (h : MapS P K E w b n f m) {key : Value} {kl : Lit} (hkey : keyOf P K key = some kl) : ∃ D : DataW Unit, w.ownsMap P K (plainElem P E) b n D ∧ Maps.size D = m ∧ Maps.has D kl = (f key).isSome := by
  obtain ⟨D, h1, h2, h3⟩ := h
  refine ⟨D, h1, h3, ?_⟩
  have h2 := h2 key kl hkey
  cases hf : f key with
  | none => rw [hf] at h2; exact Maps.has_false_of_atKey h2
  | some v =>
    rw [hf] at h2
    obtain ⟨d, p, _, hd⟩ := h2
    exact Maps.has_true_of_atKey hd
/-- A store. -/
theorem MapS.store (h : MapS P K E w b n f m) (law : Keyed P K) (ht : P.underlying T = some (.map K E)) (hn : n < maxLen) {key v : Value} {kl : Lit} (hkey : keyOf P K key = some kl) {d : DataW Unit} {p : List MemPlace} (hv : plainElem P E v = some (d, p)) :
    ∃ w', (Instr.mapUpdate T (.map (some b)) key v).run P w = .ok () w' ∧ (∀ g : Value → Option Value, g key = some v → (∀ k, k ≠ key → g k = f k) → MapS P K E w' b (n + 1) g (if (f key).isSome then m else m + 1)) ∧ w.mapTurned w' b := by
  obtain ⟨D, h1, h2, h3⟩ := h
  have hhas : Maps.has D kl = (f key).isSome := by
    have h2 := h2 key kl hkey
    cases hf : f key with
    | none => rw [hf] at h2; exact Maps.has_false_of_atKey h2
    | some v =>
      rw [hf] at h2
      obtain ⟨d, p, _, hd⟩ := h2
      exact Maps.has_true_of_atKey hd
  obtain ⟨w', hrun, hown, hgr⟩ := h1.store law ht hn hkey hv
  refine ⟨w', hrun, fun g hg1 hg2 => ⟨_, hown, fun k kl' hk => ?_, ?_⟩, hgr⟩
  · by_cases e : k = key
    · subst e
      rw [hkey] at hk
      cases hk
      rw [hg1]
      exact ⟨d, p, hv, fun z => Maps.atKey_put_same h1.isMap (law.key hkey) d z⟩
    · rw [hg2 k e]
      have hne : kl' ≠ kl := fun e2 => e (law.inj (by rw [e2] at hk; exact hk) hkey)
      have h4 := h2 k kl' hk
      cases hf : f k with
      | none =>
        rw [hf] at h4
        exact fun z => (Maps.atKey_put_other hne d z).trans (h4 z)
      | some v' =>
        rw [hf] at h4
        obtain ⟨d', p', h5, h6⟩ := h4
        exact ⟨d', p', h5, fun z => (Maps.atKey_put_other hne d z).trans (h6 z)⟩
  · rw [Maps.size_put (h1.tidy law) d, hhas, h3]
theorem setBlock_twice (w : World) (b : Nat) (x y : Obj) : setBlock (setBlock w b x) b y = setBlock w b y := by
  simp [setBlock]
theorem setBlock_self {w : World} {b : Nat} {x : Obj} (h : w.heap[b]? = some x) : setBlock w b x = w := by
  have e : w.heap.setIfInBounds b x = w.heap := by
    apply Array.ext_getElem?
    intro i
    by_cases hi : i = b
    · subst hi
      have hlt : i < w.heap.size := (Array.getElem?_eq_some_iff.1 h).1
      rw [Array.getElem?_setIfInBounds_self_of_lt hlt, h]
    · rw [Array.getElem?_setIfInBounds_ne (Ne.symm hi)]
  unfold setBlock
  rw [e]
theorem entry_law {H : Type} {P : Program} {w : World} {t k e : TypeId} {R : Value → Option (DataW H × List MemPlace)} {b : Nat} {es : Array MapEntry} {clock : Nat} (K : Keyed P k) (ht : P.underlying t = some (.map k e)) {z : Value} (hz : ∀ u : World, (zeroValue e).run P u = .ok z u) (hb : w.heap[b]? = some (.map es clock)) (F : Fit P k R es clock)
    {key : Value} {kl : Lit} (hkey : keyOf P k key = some kl) :
    ∃ (v0 : Value) (st : Nat) (es1 : Array MapEntry) (clock1 : Nat), (Instr.mapEntry t (.map (some b)) key).run P w = .ok (.tuple #[v0, goInt st]) (setBlock w b (.map es1 clock1)) ∧
      ((∃ e0 ∈ es.toList, e0.key = key ∧ v0 = e0.val ∧ es1 = es ∧ clock1 = clock) ∨ ((∀ x ∈ es.toList, x.key ≠ key) ∧ v0 = z ∧ (Instr.mapUpdate t (.map (some b)) key z).run P w = .ok () (setBlock w b (.map es1 clock1)))) ∧
      ∀ (w2 : World) (val : Value), w2.heap[b]? = some (.map es1 clock1) → ∃ es' clock', (Instr.entryStore t (.map (some b)) (goInt st) val).run P w2 = .ok () (setBlock w2 b (.map es' clock')) ∧
        (Instr.mapUpdate t (.map (some b)) key val).run P w = .ok () (setBlock w b (.map es' clock')) := by
  obtain ⟨s1, s2, _⟩ := F.stamped
  rcases K.find w hkey es.toList F.keys with ⟨h1, h2⟩ | ⟨j, e0, h1, h2, h3⟩
  · refine ⟨z, clock, es.push ⟨key, z, clock⟩, clock + 1, ?_, Or.inr ⟨h2, rfl, ?_⟩, fun w2 val hw2 => ⟨es.push ⟨key, val, clock⟩, clock + 1, ?_, ?_⟩⟩
    · simp [Instr.mapEntry, run_underlying ht, MapKept.run_getObj_map hb, K.check w false hkey, h1, hz, MapKept.run_setObj_map _ hb, Result.andThen, setBlock]
    · simp [Instr.mapUpdate, run_underlying ht, MapKept.run_getObj_map hb, K.check w false hkey, h1, MapKept.run_setObj_map _ hb, Result.andThen, setBlock]
    · have hidx : (es.push ⟨key, z, clock⟩).findIdx? (fun e => ((e.born : Nat) : Int) == ((clock : Nat) : Int)) = some es.size := by
        rw [findIdx_arr]
        have := findIdx_born (l := (es.push ⟨key, z, clock⟩).toList) (j := es.size) (e0 := ⟨key, z, clock⟩) (by
          simp only [Array.toList_push, List.map_append, List.map_cons, List.map_nil]
          refine List.nodup_append.2 ⟨s2, by simp, fun a ha c hc e1 => ?_⟩
          simp only [List.mem_singleton] at hc
          obtain ⟨x, hx, rfl⟩ := List.mem_map.1 ha
          have := s1 x hx
          omega) (by simp)
        exact this
      have hmod : (es.push ⟨key, z, clock⟩).modify es.size (fun e => { e with val := val }) = es.push ⟨key, val, clock⟩ := by
        apply Array.ext'
        rw [Array.toList_modify, Array.toList_push, Array.toList_push, ← Array.length_toList, modify_last]
      simp [Instr.entryStore, MapKept.run_getObj_map hw2, asInt, asIntOf, goInt, hidx, hmod, MapKept.run_setObj_map _ hw2, Result.andThen, setBlock]
    · simp [Instr.mapUpdate, run_underlying ht, MapKept.run_getObj_map hb, K.check w false hkey, h1, MapKept.run_setObj_map _ hb, Result.andThen, setBlock]
  · have hj : es[j]? = some e0 := by simpa using h2
    have hsame : es.modify j (fun e => { e with key := key }) = es := by
      apply Array.ext'
      rw [Array.toList_modify, modify_eq_set _ _ _ _ h2]
      have : ({ e0 with key := key } : MapEntry) = e0 := by rw [← h3]
      rw [this]
      exact set_self _ _ _ h2
    refine ⟨e0.val, e0.born, es, clock, ?_, Or.inl ⟨e0, List.mem_of_getElem? h2, h3, rfl, rfl, rfl⟩, fun w2 val hw2 => ⟨es.modify j (fun e' => { e' with key := key, val := val }), clock, ?_, ?_⟩⟩
    · simp [Instr.mapEntry, run_underlying ht, MapKept.run_getObj_map hb, K.check w false hkey, h1, hj, h3, K.stays w hkey, hsame, MapKept.run_setObj_map _ hb, Result.andThen, setBlock]
    · have hidx : es.findIdx? (fun e => ((e.born : Nat) : Int) == ((e0.born : Nat) : Int)) = some j := by
        rw [findIdx_arr]
        exact findIdx_born s2 h2
      have hmod : es.modify j (fun e => { e with val := val }) = es.modify j (fun e' => { e' with key := key, val := val }) := by
        apply Array.ext'
        rw [Array.toList_modify, Array.toList_modify, modify_eq_set _ _ _ _ h2, modify_eq_set _ _ _ _ h2, ← h3]
      simp [Instr.entryStore, MapKept.run_getObj_map hw2, asInt, asIntOf, goInt, hidx, hmod, MapKept.run_setObj_map _ hw2, Result.andThen, setBlock]
    · simp [Instr.mapUpdate, run_underlying ht, MapKept.run_getObj_map hb, K.check w false hkey, h1, hj, h3, K.stays w hkey, MapKept.run_setObj_map _ hb, Result.andThen, setBlock]
/-- 'm[k] op= ..': the entry's place, its value; the store behind it. -/
theorem MapS.entry (h : MapS P K E w b n f m) (law : Keyed P K) (ht : P.underlying T = some (.map K E)) {z : Value} (hz : ∀ u : World, (zeroValue E).run P u = .ok z u) (hn : n < maxLen) {key : Value} {kl : Lit} (hkey : keyOf P K key = some kl)
    {dz : DataW Unit} {pz : List MemPlace} (hzd : plainElem P E z = some (dz, pz)) :
    ∃ (st : Nat) (w1 : World), (Instr.mapEntry T (.map (some b)) key).run P w = .ok (.tuple #[(f key).getD z, goInt st]) w1 ∧ w.mapTurned w1 b ∧ (∃ f1, MapF P K E w1 b (n + 1) f1 ∧ f1 key = some ((f key).getD z)) ∧
      ∀ (v : Value) (d : DataW Unit) (p : List MemPlace), plainElem P E v = some (d, p) → ∃ w', (Instr.entryStore T (.map (some b)) (goInt st) v).run P w1 = .ok () w' ∧ (∀ g : Value → Option Value, g key = some v → (∀ k, k ≠ key → g k = f k) → MapS P K E w' b (n + 1) g (if (f key).isSome then m else m + 1)) ∧ w.mapTurned w' b := by
  have hF := h.mapF
  have hS := h
  obtain ⟨D, ⟨es, clock, hb, F, hs, rfl⟩, h2, h3⟩ := h
  have hlt : b < w.heap.size := (Array.getElem?_eq_some_iff.1 hb).1
  obtain ⟨v0, st, es1, clock1, hr1, hcase, hst⟩ := entry_law law ht hz hb F hkey
  have hkey2 := h2 key kl hkey
  have hv0 : v0 = (f key).getD z ∧ ∃ f1, MapF P K E (setBlock w b (.map es1 clock1)) b (n + 1) f1 ∧ f1 key = some ((f key).getD z) := by
    rcases Maps.fit_look false law ht (hz w) hb F hkey with ⟨_, hno, hat⟩ | ⟨e0, y, he0, hk0, _, hRv, hat, _⟩
    · rcases hcase with ⟨e1, he1, hk1, _⟩ | ⟨_, rfl, hrun⟩
      · exact absurd hk1 (hno e1 he1)
      · have hnone : f key = none := by
          cases hf : f key with
          | none => rfl
          | some v =>
            rw [hf] at hkey2
            obtain ⟨d, p, hd, hd2⟩ := hkey2
            have := (hat .nil).symm.trans (hd2 .nil)
            exact absurd this.symm (plainElem_not_nil hd)
        rw [hnone]
        refine ⟨rfl, ?_⟩
        obtain ⟨w'', hrun2, hg, _⟩ := hF.store law ht hn hkey hzd
        rw [hrun] at hrun2
        cases hrun2
        classical
        exact ⟨fun k => if k = key then some v0 else f k, hg _ (by simp) (fun k hk => by simp [hk]), by simp⟩
    · rcases hcase with ⟨e1, he1, hk1, rfl, rfl, rfl⟩ | ⟨hno, _⟩
      · have hee : e1 = e0 := by
          have hn2 : es1.toList.Pairwise (fun x y => x.key ≠ y.key) := ((stamped_iff es1 clock1).1 F.stamped).2.2
          obtain ⟨i, hi, rfl⟩ := List.getElem_of_mem he1
          obtain ⟨j, hj, rfl⟩ := List.getElem_of_mem he0
          by_cases hij : i = j
          · subst hij; rfl
          · rw [List.pairwise_iff_getElem] at hn2
            rcases Nat.lt_or_gt_of_ne hij with hl | hl
            · exact absurd (hk1.trans hk0.symm) (hn2 i j hi hj hl)
            · exact absurd (hk0.trans hk1.symm) (hn2 j i hj hi hl)
        subst hee
        obtain ⟨yd, yp⟩ := y
        cases hf : f key with
        | none =>
          rw [hf] at hkey2
          have := (hat .nil).symm.trans (hkey2 .nil)
          exact absurd this (plainElem_not_nil hRv)
        | some v =>
          rw [hf] at hkey2
          obtain ⟨d, p, hd, hd2⟩ := hkey2
          have e : yd = d := (hat .nil).symm.trans (hd2 .nil)
          subst e
          have hv : e1.val = v := plainElem_inj hRv hd
          refine ⟨hv, f, ?_, by rw [hf]; rfl⟩
          rw [setBlock_self hb]
          exact hF.mono (by omega)
      · exact absurd hk0 (hno e0 he0)
  obtain ⟨rfl, hf1⟩ := hv0
  refine ⟨st, setBlock w b (.map es1 clock1), hr1, ⟨_, _, _, _, hb, rfl⟩, hf1, fun v d p hv => ?_⟩
  obtain ⟨es', clock', hr2, hup⟩ := hst (setBlock w b (.map es1 clock1)) v (heap_setBlock_same hb _)
  rw [setBlock_twice] at hr2
  obtain ⟨w', hrun, hg, ht'⟩ := hS.store law ht hn hkey hv
  rw [hup] at hrun
  cases hrun
  exact ⟨_, hr2, hg, ht'⟩
/-- 'delete(m, k)'. -/
theorem MapF.drop (h : MapF P K E w b n f) (law : Keyed P K) (ht : P.underlying T = some (.map K E)) {key : Value} {kl : Lit} (hkey : keyOf P K key = some kl) (ty : TypeId) :
    ∃ w', (Builtin.delete_ #[T, K] ty #[.map (some b), key]).run P w = .ok (.tuple #[]) w' ∧ (∀ g : Value → Option Value, g key = none → (∀ k, k ≠ key → g k = f k) → MapF P K E w' b n g) ∧ w.mapTurned w' b := by
  obtain ⟨D, h1, h2⟩ := h
  obtain ⟨w', hrun, hown, hgr⟩ := h1.drop law ht hkey ty
  refine ⟨w', hrun, fun g hg1 hg2 => ⟨_, hown, fun k kl' hk => ?_⟩, hgr⟩
  by_cases e : k = key
  · subst e
    rw [hkey] at hk
    cases hk
    rw [hg1]
    exact fun z => Maps.atKey_del_same z
  · rw [hg2 k e]
    have hne : kl' ≠ kl := fun e2 => e (law.inj (by rw [e2] at hk; exact hk) hkey)
    have h3 := h2 k kl' hk
    cases hf : f k with
    | none =>
      rw [hf] at h3
      exact fun z => (Maps.atKey_del_other hne z).trans (h3 z)
    | some v' =>
      rw [hf] at h3
      obtain ⟨d', p', h4, h5⟩ := h3
      exact ⟨d', p', h4, fun z => (Maps.atKey_del_other hne z).trans (h5 z)⟩
end
end Go.Proofs.YtghigiapfmlkbaaGreatDoor
