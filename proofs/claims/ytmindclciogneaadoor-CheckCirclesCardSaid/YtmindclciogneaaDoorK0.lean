/- What check computes, said as plain functions. -/
import Derived.Test.YtmindclciogneaaDoorMI
import Derived.Test.YtmindclciogneaaDoorI21
import Derived.Test.YtmindclciogneaaDoorMF
namespace Go.Proofs.YtmindclciogneaaDoor
open Go.RowKit

/-- The kids at even places. -/
def evs : List Nat → List Nat
  | [] => []
  | [a] => [a]
  | a :: _ :: t => a :: evs t
/-- Of each key its mapping, in order. -/
def keysFrom : Nat → List Nd → List (Nat × Nat)
  | _, [] => []
  | i, x :: t => (if x.kind = 3 then (evs x.kids).map (·, i) else []) ++ keysFrom (i + 1) t
abbrev keysL (m : List Nd) : List (Nat × Nat) := keysFrom 0 m
/-- The last pair that has a key. -/
def lastAt (ps : List (Nat × Nat)) (k : Nat) : Option Nat := ps.reverse.lookup k
/-- Check from a node on: anchors and keys that were met. -/
def checkGo (ks : List (Nat × Nat)) : List Nd → Nat → List Bs → List (Nat × Bs × Bs) → Nat × Nat
  | [], _, _, _ => (0, 0)
  | x :: t, i, anc, met =>
    if x.kind = 4 ∧ ¬ x.value ∈ anc then (4, x.start)
    else if x.anchor ≠ [] ∧ x.anchor ∈ anc then (5, x.start)
    else
      match lastAt ks i with
      | none => checkGo ks t (i + 1) (if x.anchor = [] then anc else x.anchor :: anc) met
      | some p => if (p, x.tag, x.value) ∈ met then (5, x.start) else checkGo ks t (i + 1) (if x.anchor = [] then anc else x.anchor :: anc) ((p, x.tag, x.value) :: met)
def checkM (m : List Nd) : Nat × Nat := checkGo (keysL m) m 0 [] []
/-- A thing of a graph. -/
structure Th where
  kind : Nat
  tag : Bs
  value : Bs
  kids : List Nat
  deriving DecidableEq
/-- The first node that has a name as its anchor. -/
def anchorAt (m : List Nd) (name : Bs) : Option Nat := if name = [] then none else m.findIdx? (fun y => y.anchor == name)
/-- The node that an alias means. -/
def targetAt (m : List Nd) (i : Nat) : Option Nat := if (m.getD i nd0).kind = 4 then anchorAt m (m.getD i nd0).value else none
/-- Of each node its thing. -/
def numGo (tg : Nat → Option Nat) : List Nd → List Nat → Nat → List Nat × Nat
  | [], acc, th => (acc, th)
  | x :: t, acc, th => if x.kind = 4 then numGo tg t (acc ++ [acc.getD ((tg acc.length).getD 0) 0]) th else numGo tg t (acc ++ [th]) (th + 1)
/-- The targets of the first nodes. -/
def tgTo (m : List Nd) (k i : Nat) : Option Nat := if i < k then targetAt m i else none
def numL (m : List Nd) : List Nat := (numGo (tgTo m m.length) m [] 0).1
def thingOf (num : List Nat) (x : Nd) : Th := ⟨if x.kind = 0 then 1 else x.kind, x.tag, x.value, x.kids.map fun k => num.getD k 0⟩
def thingsL (m : List Nd) : List Th := (m.filter fun x => x.kind != 4).map (thingOf (numL m))
def composeM (m : List Nd) : List Th × Nat := if (checkM m).1 ≠ 0 then ([], (checkM m).1) else (thingsL m, 0)
theorem lastAt_snoc (ps : List (Nat × Nat)) (a b k : Nat) : lastAt (ps ++ [(a, b)]) k = if k = a then some b else lastAt ps k := by
  unfold lastAt
  rw [List.reverse_append, List.reverse_singleton, List.singleton_append, List.lookup_cons]
  by_cases h : k = a
  · simp [h]
  · have : (k == a) = false := by simpa using h
    rw [this, if_neg h]
/-- Pairs as a map over ints. -/
def intF (f : Nat → Option Nat) : Value → Option Value
  | .int .i64 z => if 0 ≤ z then (f z.toNat).map fun n => .int .i64 (n : Nat) else none
  | _ => none
theorem intF_at (f : Nat → Option Nat) (k : Nat) : intF f (.int .i64 (k : Nat)) = (f k).map fun n => Value.int .i64 (n : Nat) := by simp [intF]
theorem evs_take (l : List Nat) : ∀ n, n < l.length → evs (l.take (n + 1)) = evs (l.take n) ++ (if n % 2 = 0 then [l.getD n 0] else []) := by
  have key : ∀ (k : Nat) (l : List Nat) (n : Nat), l.length ≤ k → n < l.length → evs (l.take (n + 1)) = evs (l.take n) ++ (if n % 2 = 0 then [l.getD n 0] else []) := by
    intro k
    induction k with
    | zero => intro l n h1 h2; omega
    | succ k ih =>
      intro l n h1 h2
      match l, n, h1, h2 with
      | [a], 0, _, _ => simp [evs]
      | a :: b :: t, 0, _, _ => simp [evs]
      | a :: b :: t, 1, _, _ => simp [evs]
      | a :: b :: t, n + 2, h1, h2 =>
        have := ih t n (by simp at h1; omega) (by simp at h2; omega)
        rw [List.take_succ_cons, List.take_succ_cons, List.take_succ_cons, List.take_succ_cons, evs, evs, this, show (n + 2) % 2 = n % 2 by omega]
        simp
      | [a], n + 1, _, h2 => simp at h2
  exact fun n hn => key l.length l n (Nat.le_refl _) hn
theorem keysFrom_take (m : List Nd) : ∀ (k i : Nat) (y : Nd), m[i]? = some y → keysFrom k (m.take (i + 1)) = keysFrom k (m.take i) ++ (if y.kind = 3 then (evs y.kids).map (·, k + i) else []) := by
  induction m with
  | nil => intro k i y h; simp at h
  | cons x t ih =>
    intro k i y h
    cases i with
    | zero =>
      simp only [List.getElem?_cons_zero, Option.some.injEq] at h
      subst h
      simp [keysFrom]
    | succ i =>
      rw [List.take_succ_cons, keysFrom, ih (k + 1) i y (by simpa using h), List.take_succ_cons, keysFrom, List.append_assoc, show k + 1 + i = k + (i + 1) by omega]
/-- How many kids all have. -/
def sumK (m : List Nd) : Nat := (m.map fun y => y.kids.length).sum
theorem sumK_take (m : List Nd) (i : Nat) (y : Nd) (h : m[i]? = some y) : sumK (m.take (i + 1)) = sumK (m.take i) + y.kids.length := by
  unfold sumK
  have hi : i < m.length := (List.getElem?_eq_some_iff.1 h).1
  have e : m[i] = y := (List.getElem?_eq_some_iff.1 h).2
  rw [List.take_succ_eq_append_getElem hi, List.map_append, List.sum_append, e]
  simp
theorem sumK_le (m : List Nd) (i : Nat) : sumK (m.take i) ≤ sumK m := by
  unfold sumK
  conv => rhs; rw [← List.take_append_drop i m]
  rw [List.map_append, List.sum_append]
  omega
end Go.Proofs.YtmindclciogneaaDoor

/- Lists of nodes, read; check.keys. -/
namespace Go.Proofs.YtmindclciogneaaDoor
open Go.RowKit
open Go.Maps (Keyed)

/-- A slice of ints that reads as l. -/
def IntsR (w : World) (v : Value) (l : List Nat) : Prop := (l = [] ∧ ∃ A c, v = .slice A 0 c) ∨ ∃ g o c, v = .slice (some ⟨g, o, none⟩) l.length c ∧ ∀ n, n < l.length → w.cell? ⟨g, o + n, none⟩ = some (.int .i64 (l.getD n 0 : Nat))
theorem IntsR.below {w w1 : World} {v : Value} {l : List Nat} (h : IntsR w v l) (hb : Below w.heap.size w w1) : IntsR w1 v l := by
  rcases h with h | ⟨g, o, c, h1, h2⟩
  · exact .inl h
  · exact .inr ⟨g, o, c, h1, fun n hn => pw_cell hb (h2 n hn)⟩
theorem IntsR.turned {w w1 : World} {b : Nat} {v : Value} {l : List Nat} (h : IntsR w v l) (ht : w.mapTurned w1 b) : IntsR w1 v l := by
  rcases h with h | ⟨g, o, c, h1, h2⟩
  · exact .inl h
  · exact .inr ⟨g, o, c, h1, fun n hn => (turned_cell ht _).trans (h2 n hn)⟩
theorem IntsR.shape {w : World} {v : Value} {l : List Nat} (h : IntsR w v l) : ∃ A c, v = .slice A l.length c := by
  rcases h with ⟨rfl, A, c, rfl⟩ | ⟨g, o, c, rfl, h2⟩
  · exact ⟨A, c, rfl⟩
  · exact ⟨_, c, rfl⟩
/-- A slice of nodes that reads as m. -/
def TreeR (w : World) (v : Value) (m : List Nd) : Prop := (m = [] ∧ ∃ A c, v = .slice A 0 c) ∨
  ∃ g c, v = .slice (some ⟨g, 0, none⟩) m.length c ∧ m.length ≤ c ∧ ∀ i y, m[i]? = some y → ∃ kv, (∀ j, j < 10 → w.cell? ⟨g, i * 10 + j, none⟩ = (ndCells y kv)[j]?) ∧ IntsR w kv y.kids
theorem TreeR.below {w w1 : World} {v : Value} {m : List Nd} (h : TreeR w v m) (hb : Below w.heap.size w w1) : TreeR w1 v m := by
  rcases h with h | ⟨g, c, h1, h2, h3⟩
  · exact .inl h
  · refine .inr ⟨g, c, h1, h2, fun i y hy => ?_⟩
    obtain ⟨kv, h4, h5⟩ := h3 i y hy
    refine ⟨kv, fun j hj => ?_, h5.below hb⟩
    obtain ⟨u, hu⟩ : ∃ u, (ndCells y kv)[j]? = some u := ⟨_, List.getElem?_eq_getElem (by rw [ndCells_len]; exact hj)⟩
    rw [hu]
    exact pw_cell hb ((h4 j hj).trans hu)
theorem TreeR.shape {w : World} {v : Value} {m : List Nd} (h : TreeR w v m) : ∃ A c, v = .slice A m.length c := by
  rcases h with ⟨rfl, A, c, rfl⟩ | ⟨g, c, rfl, _, _⟩
  · exact ⟨A, c, rfl⟩
  · exact ⟨_, c, rfl⟩
theorem NL.tree {w : World} {B : Nat} {v : Value} {m : List Nd} (h : NL w B v m) : TreeR w v m := by
  obtain ⟨l, rfl, ⟨hl, h2⟩, ho⟩ := h
  rcases h2 with ⟨rfl, h0⟩ | ⟨g, cap, cur, rfl, hg, hc, hn, hmx, hs, ht⟩
  · left
    have : l = [] := List.length_eq_zero_iff.1 h0
    subst this
    exact ⟨rfl, none, 0, rfl⟩
  · right
    refine ⟨g, cap, by rw [List.length_map], by rw [List.length_map]; exact hn, fun i y hy => ?_⟩
    rw [List.getElem?_map, Option.map_eq_some_iff] at hy
    obtain ⟨p, hp, rfl⟩ := hy
    refine ⟨p.2, fun j hj => ?_, ?_⟩
    · have hi : i < l.length := (List.getElem?_eq_some_iff.1 hp).1
      rw [cell_of_row _ _ _ _ _ (0, 0) hc, ← flat_get l i j p hp hj, ← ht, List.getElem?_take, if_pos (by omega)]
      simp
    · obtain ⟨hl2, h3⟩ := ho.row p (List.mem_of_getElem? hp)
      rcases h3 with ⟨h4, h5⟩ | ⟨g2, cap2, cur2, h4, hg2, hc2, hn2, hm2, hs2, ht2⟩
      · left
        exact ⟨List.length_eq_zero_iff.1 h5, none, 0, h4⟩
      · right
        refine ⟨g2, 0, cap2, h4, fun n hn3 => ?_⟩
        rw [cell_of_row _ _ _ _ _ (0, 0) hc2]
        have e : cur2.toList[n]? = (p.1.kids.map fun k : Nat => Value.int .i64 (k : Int))[n]? := by
          rw [← ht2, List.getElem?_take, if_pos (by omega)]
        rw [← Array.getElem?_toList, Nat.zero_add, e, List.getElem?_map, List.getElem?_eq_getElem hn3]
        simp [List.getD_eq_getElem?_getD, List.getElem?_eq_getElem hn3]

theorem intLaw : Keyed Tryd.prog 3 := Maps.int_keyed Tryd.underlying3
theorem intZero (w : World) : (zeroValue 3).run Tryd.prog w = .ok (.int .i64 0) w := by kernel_rfl
theorem intKey (k : Nat) (h : k ≤ 1000000000) : keyOf Tryd.prog 3 (.int .i64 (k : Nat)) = some (.int .i64 (k : Nat)) := Maps.keyOf_int_mk Tryd.underlying3 (WalkArith.wf_i64 (by omega))
theorem intElem (k : Nat) (h : k ≤ 1000000000) : plainElem (H := Unit) Tryd.prog 3 (.int .i64 (k : Nat)) = some (.lit (.int .i64 (k : Nat)), []) := plainElem_int Tryd.underlying3 (WalkArith.wf_i64 (by omega))
theorem intKey_inv {key : Value} {kl : Lit} (h : keyOf Tryd.prog 3 key = some kl) : ∃ z : Int, key = .int .i64 z := by
  obtain ⟨x, rfl, _⟩ := Maps.keyOf_int_inv Tryd.underlying3 h
  exact ⟨x, rfl⟩
/-- A store into a map of pairs. -/
theorem intF_store {ps : List (Nat × Nat)} (a b : Nat) : (intF (lastAt (ps ++ [(a, b)]))) (.int .i64 (a : Nat)) = some (.int .i64 (b : Nat)) ∧ ∀ k, k ≠ .int .i64 (a : Nat) → intF (lastAt (ps ++ [(a, b)])) k = intF (lastAt ps) k := by
  constructor
  · rw [intF_at, lastAt_snoc, if_pos rfl]
    rfl
  · intro k hk
    cases k with
    | int q z =>
      cases q <;> try rfl
      simp only [intF]
      split
      · rename_i hz
        rw [lastAt_snoc, if_neg]
        intro e
        apply hk
        congr 1
        omega
      · rfl
    | _ => rfl

set_option maxRecDepth 100000 in
set_option maxHeartbeats 2000000 in
theorem keys_any (v : Value) (m : List Nd) (w : World) (h : TreeR w v m) (hm : m.length ≤ 1000000) (hs : sumK m ≤ 1000000) (hkb : ∀ y ∈ m, ∀ k ∈ y.kids, k ≤ 1000000) :
    Calls Tryd.prog 39 #[v] w fun e w' => ∃ n, e = .returned (.map (some w.heap.size)) ∧ n ≤ 1000000 ∧ MapF Tryd.prog 3 3 w' w.heap.size n (intF (lastAt (keysL m))) ∧ Below w.heap.size w w' := by
  obtain ⟨A, c, rfl⟩ := h.shape
  have hmm := @run_makeMap Tryd.prog
  have H0 := Lib.hid h
  have HK := Lib.hid hkb
  clear h hkb
  go_enter Tryd.func39, Tryd.ntmps39
  go_wp2_with fail
  have hmf := MapF.made w Tryd.prog 3 3
  have hb0 : Below w.heap.size w (w.alloc (.map #[] 0)) := (Below.refl _ _).alloc (Nat.le_refl _) _
  generalize w.alloc _ = w0 at hmf hb0 ⊢
  clear hmm
  go_loopw [11] (fun i wr => ∃ k n : Nat, i = .int .i64 k ∧ k ≤ m.length ∧ n ≤ sumK (m.take k) ∧ MapF Tryd.prog 3 3 wr w.heap.size n (intF (lastAt (keysFrom 0 (m.take k)))) ∧ Below w.heap.size w wr) (fun i _ => m.length - (intOf i).toNat)
  case atStart => exact ⟨0, 0, rfl, Nat.zero_le _, Nat.zero_le _, hmf.ext (fun key kl hk => by obtain ⟨z, rfl⟩ := intKey_inv hk; simp [intF, keysFrom, lastAt]), hb0⟩
  case round =>
    obtain ⟨k, n, rfl, hk, hn, hmf1, hb1⟩ := hrel
    clear hmf hb0
    have hsk := sumK_le m k
    by_cases hlt : k < m.length
    · obtain ⟨y, hy⟩ : ∃ y, m[k]? = some y := ⟨_, List.getElem?_eq_getElem hlt⟩
      have hsk1 := sumK_take m k y hy
      have hsk2 := sumK_le m (k + 1)
      have HS1 := Lib.hid hsk1
      have hkl : y.kids.length ≤ 1000000 := by omega
      have HKF := Lib.hid (keysFrom_take m 0 k y hy)
      rcases H0.out.below hb1 with ⟨h0, _⟩ | ⟨g, c2, hv, hc2, htr⟩
      · subst h0; simp at hlt
      · cases hv
        obtain ⟨kv, hcl, hkr⟩ := htr k y hy
        have q0 : wr.cell? ⟨g, k * 10, none⟩ = some (.int .i64 y.kind) := hcl 0 (by omega)
        have q1 : wr.cell? ⟨g, k * 10 + 1, none⟩ = some (.int .i64 y.style) := hcl 1 (by omega)
        have q2 : wr.cell? ⟨g, k * 10 + 2, none⟩ = some (.string ⟨y.tag.toArray⟩) := hcl 2 (by omega)
        have q3 : wr.cell? ⟨g, k * 10 + 3, none⟩ = some (.string ⟨y.anchor.toArray⟩) := hcl 3 (by omega)
        have q4 : wr.cell? ⟨g, k * 10 + 4, none⟩ = some (.string ⟨y.value.toArray⟩) := hcl 4 (by omega)
        have q5 : wr.cell? ⟨g, k * 10 + 5, none⟩ = some (.int .i64 y.start) := hcl 5 (by omega)
        have q6 : wr.cell? ⟨g, k * 10 + 6, none⟩ = some (.int .i64 y.stop) := hcl 6 (by omega)
        have q7 : wr.cell? ⟨g, k * 10 + 7, none⟩ = some (.int .i64 y.head) := hcl 7 (by omega)
        have q8 : wr.cell? ⟨g, k * 10 + 8, none⟩ = some (.int .i64 y.mark) := hcl 8 (by omega)
        have q9 : wr.cell? ⟨g, k * 10 + 9, none⟩ = some kv := hcl 9 (by omega)
        obtain ⟨A2, c3, rfl⟩ := hkr.shape
        have hkmem : ∀ j, j < y.kids.length → y.kids.getD j 0 ≤ 1000000 := fun j hj => HK.out y (List.mem_of_getElem? hy) _ (by rw [List.getD_eq_getElem?_getD, List.getElem?_eq_getElem hj]; exact List.getElem_mem hj)
        have HKM := Lib.hid hkmem
        have HR := Lib.hid hkr
        clear htr hcl hkr hsk1 hkmem
        go_wp2_with fail
        have c0 : (wr.alloc (.cells #[.int .i64 y.kind, .int .i64 y.style, .string ⟨y.tag.toArray⟩, .string ⟨y.anchor.toArray⟩, .string ⟨y.value.toArray⟩, .int .i64 y.start, .int .i64 y.stop, .int .i64 y.head, .int .i64 y.mark, .slice A2 y.kids.length c3] 42)).cell? ⟨wr.heap.size, 0, none⟩ = some (.int .i64 y.kind) := by rw [World.cell?_alloc_at _ _ _ _ rfl]; rfl
        have hA4 := hmf1.alloc (.cells #[.int .i64 y.kind, .int .i64 y.style, .string ⟨y.tag.toArray⟩, .string ⟨y.anchor.toArray⟩, .string ⟨y.value.toArray⟩, .int .i64 y.start, .int .i64 y.stop, .int .i64 y.head, .int .i64 y.mark, .slice A2 y.kids.length c3] 42)
        have hb4 := hb1.alloc hb1.size (.cells #[.int .i64 y.kind, .int .i64 y.style, .string ⟨y.tag.toArray⟩, .string ⟨y.anchor.toArray⟩, .string ⟨y.value.toArray⟩, .int .i64 y.start, .int .i64 y.stop, .int .i64 y.head, .int .i64 y.mark, .slice A2 y.kids.length c3] 42)
        have hR4 : IntsR (wr.alloc (.cells #[.int .i64 y.kind, .int .i64 y.style, .string ⟨y.tag.toArray⟩, .string ⟨y.anchor.toArray⟩, .string ⟨y.value.toArray⟩, .int .i64 y.start, .int .i64 y.stop, .int .i64 y.head, .int .i64 y.mark, .slice A2 y.kids.length c3] 42)) (.slice A2 y.kids.length c3) y.kids := HR.out.below ((Below.refl _ _).alloc (Nat.le_refl _) _)
        clear q0 q1 q2 q3 q4 q5 q6 q7 q8 q9 hmf1 hb1 HR
        generalize wr.alloc _ = w4 at c0 hA4 hb4 hR4 ⊢
        generalize wr.heap.size = B at c0 ⊢
        obtain ⟨wo, rfl⟩ : ∃ wo : World, wo = wr := ⟨_, rfl⟩
        go_loopw [19, 6, 7] (fun j _ _ wi => ∃ q n2 : Nat, j = .int .i64 q ∧ q ≤ y.kids.length ∧ n2 ≤ sumK (m.take k) + q ∧ MapF Tryd.prog 3 3 wi w.heap.size n2 (intF (lastAt (keysFrom 0 (m.take k) ++ (if y.kind = 3 then (evs (y.kids.take q)).map (·, k) else [])))) ∧ wi.cell? ⟨B, 0, none⟩ = some (.int .i64 y.kind) ∧ Below w.heap.size w wi ∧ IntsR wi (.slice A2 y.kids.length c3) y.kids) (fun j _ _ _ => y.kids.length - (intOf j).toNat)
        case atStart => exact ⟨0, n, rfl, Nat.zero_le _, by omega, by simpa [evs] using hA4, c0, hb4, hR4⟩
        case round =>
          obtain ⟨q, n2, rfl, hq, hn2, hmf2, e0, hb5, hR5⟩ := hrel
          clear c0 hA4 hb4 hR4
          have HR5 := Lib.hid hR5
          have hb5' := hb5.size
          by_cases hql : q < y.kids.length
          · have hkid := HKM.out q hql
            have HE := Lib.hid (evs_take y.kids q hql)
            rcases hR5 with ⟨h0, _⟩ | ⟨g2, o2, c4, hv, hkc⟩
            · rw [h0] at hql; simp at hql
            · simp only [Value.slice.injEq] at hv
              obtain ⟨rfl, _, rfl⟩ := hv
              have hcell := hkc q hql
              clear hkc
              generalize y.kids.getD q 0 = kid at *
              have hqi : (q : Int) < y.kids.length := by omega
              by_cases hk3 : y.kind = 3
              · have hkb : ((y.kind : Int) == 3) = true := by rw [hk3]; rfl
                by_cases hq2 : q % 2 = 0
                · have hqb : ((q : Int) % 2 == 0) = true := by simp; omega
                  have hqc : ((q : Int).tmod 2 == 0) = true := by rw [Int.tmod_eq_emod_of_nonneg (by omega)]; simp; omega
                  have HN : Hid (keysFrom 0 (m.take k) ++ (if y.kind = 3 then (evs (y.kids.take (q + 1))).map (·, k) else []) = (keysFrom 0 (m.take k) ++ (if y.kind = 3 then (evs (y.kids.take q)).map (·, k) else [])) ++ [(kid, k)]) := Lib.hid (by
                    rw [if_pos hk3, if_pos hk3, HE.out, if_pos hq2, List.map_append, List.append_assoc]
                    rfl)
                  have HK3 := Lib.hid hk3
                  clear hk3 hq2 HE
                  obtain ⟨w5, hrun, hst, ht⟩ := hmf2.store (T := 71) intLaw Tryd.underlying71 (by unfold maxLen; omega) (intKey kid (by omega)) (intElem k (by omega))
                  have hmf3 := hst _ (intF_store kid k).1 (intF_store kid k).2
                  rw [← HN.out] at hmf3
                  have hb6 := turned_below hb5 ht hb5' (Nat.le_refl _)
                  have f0 := (turned_cell ht ⟨B, 0, none⟩).trans e0
                  have hR6 := HR5.out.turned ht
                  clear hst ht hmf2 hb5 HR5 HN
                  go_wp2
                  go_roundw
                  case rel => exact ⟨q + 1, n2 + 1, by go_num, by omega, by omega, hmf3, f0, hb6, hR6⟩
                  case measure => simp [intOf]; omega
                · have hqb : ((q : Int) % 2 == 0) = false := by simp; omega
                  have hqc : ((q : Int).tmod 2 == 0) = false := by rw [Int.tmod_eq_emod_of_nonneg (by omega)]; simp; omega
                  have HN : Hid ((if y.kind = 3 then (evs (y.kids.take (q + 1))).map (·, k) else []) = (if y.kind = 3 then (evs (y.kids.take q)).map (·, k) else [])) := Lib.hid (by
                    rw [if_pos hk3, if_pos hk3, HE.out, if_neg hq2, List.append_nil])
                  clear hk3 hq2 HE
                  go_wp2
                  go_roundw
                  case rel => exact ⟨q + 1, n2, by go_num, by omega, by omega, by rw [HN.out]; exact hmf2, e0, hb5, HR5.out⟩
                  case measure => simp [intOf]; omega
              · have hkb : ((y.kind : Int) == 3) = false := by simp; omega
                have HN : Hid ((if y.kind = 3 then (evs (y.kids.take (q + 1))).map (·, k) else []) = (if y.kind = 3 then (evs (y.kids.take q)).map (·, k) else [])) := Lib.hid (by
                  rw [if_neg hk3, if_neg hk3])
                clear hk3 HE
                go_wp2
                go_roundw
                case rel => exact ⟨q + 1, n2, by go_num, by omega, by omega, by rw [HN.out]; exact hmf2, e0, hb5, HR5.out⟩
                case measure => simp [intOf]; omega
          · have hge : (y.kids.length : Int) ≤ q := by omega
            have hmf3 : MapF Tryd.prog 3 3 wr w.heap.size n2 (intF (lastAt (keysFrom 0 (m.take (k + 1))))) := by
              rw [HKF.out, Nat.zero_add]
              rw [List.take_of_length_le (l := y.kids) (by omega)] at hmf2
              exact hmf2
            have hn3 : n2 ≤ sumK (m.take (k + 1)) := by rw [HS1.out]; omega
            clear hmf2 HR5 hR5
            go_wp2
            go_roundw
            case rel => exact ⟨k + 1, n2, by go_num, by omega, hn3, hmf3, hb5⟩
            case measure => simp [intOf]; omega
    · have hge : (m.length : Int) ≤ k := by omega
      have hmf3 : MapF Tryd.prog 3 3 wr w.heap.size n (intF (lastAt (keysL m))) := by
        rw [List.take_of_length_le (by omega)] at hmf1
        exact hmf1
      clear hmf1
      go_wp2
      go_ret
      exact ⟨n, rfl, by omega, hmf3, hb1⟩
end Go.Proofs.YtmindclciogneaaDoor
