/- render: the writer; deep. -/
import Derived.Test.YtghigiapfmlkbaaGreatDoorR7
import Derived.Test.YtghigiapfmlkbaaGreatDoorR1
namespace Go.Proofs.YtghigiapfmlkbaaGreatDoor
open Go.RowKit
attribute [local go_sem ↓] Go.wp_at_zero Go.wp_at_succ

theorem nodup_len : ∀ (n : Nat) (l : List Nat), l.Nodup → (∀ x ∈ l, x < n) → l.length ≤ n := by
  intro n
  induction n with
  | zero =>
    intro l _ h2
    cases l with
    | nil => simp
    | cons a l => exact absurd (h2 a (by simp)) (by omega)
  | succ n ih =>
    intro l h1 h2
    have h3 := ih (l.erase n) (h1.erase n) (fun x hx => by
      have := (h1.mem_erase_iff).1 hx
      have := h2 x this.2
      omega)
    by_cases h : n ∈ l
    · rw [List.length_erase_of_mem h] at h3
      omega
    · rw [List.erase_of_not_mem h] at h3
      omega
/-- What was met, as a map of bools. -/
def metF (met : List Nat) : Value → Option Value
  | .int .i64 z => if 0 ≤ z ∧ z.toNat ∈ met then some (.bool true) else none
  | _ => none
theorem metF_at (met : List Nat) (k : Nat) : metF met (.int .i64 (k : Nat)) = if k ∈ met then some (.bool true) else none := by simp [metF]
def insN (i : Nat) (met : List Nat) : List Nat := if i ∈ met then met else i :: met
theorem insN_mem (i : Nat) (met : List Nat) (k : Nat) : k ∈ insN i met ↔ k = i ∨ k ∈ met := by
  unfold insN
  split
  · constructor
    · exact .inr
    · rintro (rfl | h)
      · assumption
      · exact h
  · simp
theorem insN_nodup {i : Nat} {met : List Nat} (h : met.Nodup) : (insN i met).Nodup := by
  unfold insN
  split
  · exact h
  · rename_i hi
    exact List.nodup_cons.2 ⟨hi, h⟩
theorem boolElem (b : Bool) : plainElem (H := Unit) Tryz.prog 4 (.bool b) = some (.lit (.bool b), []) := by
  unfold plainElem
  rw [Tryz.underlying4]
theorem boolZero (w : World) : (zeroValue 4).run Tryz.prog w = .ok (.bool false) w := by kernel_rfl
/-- Block b is the map of what was met. -/
structure MetAt (w : World) (b : Nat) (n : Nat) (met : List Nat) : Prop where
  map : MapS Tryz.prog 3 4 w b met.length (metF met) met.length
  nodup : met.Nodup
  lt : ∀ x ∈ met, x < n
theorem MetAt.made (w : World) (n : Nat) : MetAt (w.alloc (.map #[] 0)) w.heap.size n [] :=
  ⟨by
    have := MapS.made w Tryz.prog 3 4
    have e : metF [] = fun _ => none := by
      funext v
      cases v <;> try rfl
      rename_i q z
      cases q <;> simp [metF]
    rw [e]
    exact this, List.nodup_nil, fun x hx => by cases hx⟩
theorem MetAt.kept {w w' : World} {b n : Nat} {met : List Nat} {row : Option Nat} (h : MetAt w b n met) (hg : w.grownBy w' row) (hne : some b ≠ row) : MetAt w' b n met := ⟨h.map.kept hg hne, h.nodup, h.lt⟩
theorem MetAt.below {w w' : World} {b n : Nat} {met : List Nat} (h : MetAt w b n met) (hb : Below w.heap.size w w') : MetAt w' b n met := ⟨h.map.below hb, h.nodup, h.lt⟩
theorem MetAt.block {w : World} {b n : Nat} {met : List Nat} (h : MetAt w b n met) : b < w.heap.size := h.map.mapF.lt
theorem MetAt.look {w : World} {b n : Nat} {met : List Nat} (h : MetAt w b n met) (i : Nat) (hi : i ≤ 1000000000) :
    (Instr.lookup 66 (.map (some b)) (.int .i64 (i : Nat)) false).run Tryz.prog w = .ok (.bool (decide (i ∈ met))) w := by
  have := h.map.mapF.look_at (T := 66) intLaw Tryz.underlying66 (boolZero w) (intKey i hi) _ (metF_at met i)
  rw [this]
  by_cases hm : i ∈ met <;> simp [hm]
theorem MetAt.store {w : World} {b n : Nat} {met : List Nat} (h : MetAt w b n met) (i : Nat) (hi : i < n) (hn : n ≤ 100000000) :
    ∃ w', (Instr.mapUpdate 66 (.map (some b)) (.int .i64 (i : Nat)) (.bool true)).run Tryz.prog w = .ok () w' ∧ MetAt w' b n (insN i met) ∧ w.mapTurned w' b := by
  have hl := nodup_len n met h.nodup h.lt
  obtain ⟨w', hrun, hst, ht⟩ := h.map.store (T := 66) intLaw Tryz.underlying66 (by unfold maxLen; omega) (intKey i (by omega)) (boolElem true)
  refine ⟨w', hrun, ⟨?_, insN_nodup h.nodup, fun x hx => by rcases (insN_mem i met x).1 hx with rfl | h1; exact hi; exact h.lt x h1⟩, ht⟩
  have h2 := (hst (metF (insN i met)) (by rw [metF_at, if_pos ((insN_mem i met i).2 (.inl rfl))]) (fun k hk => by
    cases k <;> try rfl
    rename_i q z
    cases q <;> try rfl
    simp only [metF]
    by_cases hz : 0 ≤ z
    · have hne : z.toNat ≠ i := fun e => hk (by rw [← e, Int.toNat_of_nonneg hz])
      have : z.toNat ∈ insN i met ↔ z.toNat ∈ met := by
        rw [insN_mem]
        exact ⟨fun h => h.resolve_left hne, .inr⟩
      simp [hz, this]
    · simp [hz])).tight
  rw [metF_at] at h2
  have e : (if (if i ∈ met then some (Value.bool true) else none).isSome then met.length else met.length + 1) = (insN i met).length := by
    unfold insN
    by_cases hm : i ∈ met <;> simp [hm]
  rw [e] at h2
  exact h2
theorem turned_grown {w w' : World} {b : Nat} (h : w.mapTurned w' b) : w.grownBy w' (some b) := h.grown
/-- The writer at block b. -/
structure WrAt (w0 w : World) (b bA bM : Nat) (vc : Value) (c : List Th) (flow : Bool) : Prop where
  blk : ∃ p buf, w.heap[b]? = some (.cells #[vc, .map (some bA), .map (some bM), .bool flow, p, buf] 77 (0, 0))
  gr : GR w0 vc c
  frame : Below w0.heap.size w0 w
theorem WrAt.grown {w0 w w' : World} {b bA bM : Nat} {vc : Value} {c : List Th} {flow : Bool} {row : Option Nat} (h : WrAt w0 w b bA bM vc c flow) (hg : w.grownBy w' row) (h1 : row ≠ some b) (h2 : ∀ k, row = some k → w0.heap.size ≤ k) : WrAt w0 w' b bA bM vc c flow := by
  obtain ⟨⟨p, buf, hb⟩, hgr, hf⟩ := h
  exact ⟨⟨p, buf, (hg.block b (lt_of_block hb) (fun e => h1 e.symm)).trans hb⟩, hgr, below_row hf hf.size hg h2⟩
theorem WrAt.below {w0 w w' : World} {b bA bM : Nat} {vc : Value} {c : List Th} {flow : Bool} (h : WrAt w0 w b bA bM vc c flow) (hb : Below w.heap.size w w') : WrAt w0 w' b bA bM vc c flow :=
  h.grown (below_grown hb) (by simp) (fun k hk => by cases hk)
theorem WrAt.cells {w0 w : World} {b bA bM : Nat} {vc : Value} {c : List Th} {flow : Bool} (h : WrAt w0 w b bA bM vc c flow) :
    w.cell? ⟨b, 0, none⟩ = some vc ∧ w.cell? ⟨b, 1, none⟩ = some (.map (some bA)) ∧ w.cell? ⟨b, 2, none⟩ = some (.map (some bM)) ∧ w.cell? ⟨b, 3, none⟩ = some (.bool flow) := by
  obtain ⟨⟨p, buf, hb⟩, _, _⟩ := h
  refine ⟨?_, ?_, ?_, ?_⟩ <;> rw [cell_of_row _ _ _ _ _ (0, 0) hb] <;> rfl
theorem grown_trans {w w1 w2 : World} {row : Option Nat} (h : w.grownBy w1 row) (k : w1.grownBy w2 row) : w.grownBy w2 row :=
  ⟨k.os.trans h.os, k.tape.trans h.tape, k.output.trans h.output, Nat.le_trans h.size k.size, fun i hi hne => (k.block i (Nat.lt_of_lt_of_le hi h.size) hne).trans (h.block i hi hne)⟩
theorem grown_refl (w : World) (row : Option Nat) : w.grownBy w row := ⟨rfl, rfl, rfl, Nat.le_refl _, fun _ _ _ => rfl⟩
theorem grown_row {w w' : World} {row : Option Nat} (h : w.grownBy w' none) : w.grownBy w' row := ⟨h.os, h.tape, h.output, h.size, fun i hi _ => h.block i hi (by simp)⟩
/-- A thing of the writer's graph. -/
theorem WrAt.thing {w0 w : World} {b bA bM : Nat} {vc : Value} {c : List Th} {flow : Bool} (h : WrAt w0 w b bA bM vc c flow) {i : Nat} {t : Th} (ht : c[i]? = some t) :
    ∃ g cap A2 c2, vc = .slice (some ⟨g, 0, none⟩) c.length cap ∧ w.cell? ⟨g, i * 4, none⟩ = some (.int .i64 t.kind) ∧ w.cell? ⟨g, i * 4 + 1, none⟩ = some (.string ⟨t.tag.toArray⟩) ∧
      w.cell? ⟨g, i * 4 + 2, none⟩ = some (.string ⟨t.value.toArray⟩) ∧ w.cell? ⟨g, i * 4 + 3, none⟩ = some (.slice A2 t.kids.length c2) ∧ IntsR w0 (.slice A2 t.kids.length c2) t.kids := by
  have hi : i < c.length := (List.getElem?_eq_some_iff.1 ht).1
  rcases h.gr with ⟨h0, _⟩ | ⟨g, cap, hv, hc, hr⟩
  · rw [h0] at hi; simp at hi
  · obtain ⟨kv, hcl, hk⟩ := hr i t ht
    obtain ⟨A2, c2, rfl⟩ := hk.shape
    exact ⟨g, cap, A2, c2, hv, pw_cell h.frame (hcl 0 (by omega)), pw_cell h.frame (hcl 1 (by omega)), pw_cell h.frame (hcl 2 (by omega)), pw_cell h.frame (hcl 3 (by omega)), hk⟩
/-- A kid that is read. -/
theorem kid_cell {w0 w : World} {A : Option Addr} {n c : Nat} {ks : List Nat} (h : IntsR w0 (.slice A n c) ks) (hb : Below w0.heap.size w0 w) (q : Nat) (hq : q < ks.length) : ∃ g o, A = some ⟨g, o, none⟩ ∧ w.cell? ⟨g, o + q, none⟩ = some (.int .i64 (ks.getD q 0 : Nat)) := by
  rcases h with ⟨h0, _⟩ | ⟨g, o, c', hv, hc⟩
  · rw [h0] at hq; simp at hq
  · simp only [Value.slice.injEq] at hv
    obtain ⟨rfl, _, rfl⟩ := hv
    exact ⟨g, o, rfl, pw_cell hb (hc q hq)⟩
abbrev stepM (c : List Th) (f : Nat) : Nat × List Nat → Nat → Option (Nat × List Nat) := fun p k => (deepM c f k p.2).map fun q => (max p.1 q.1, q.2)
theorem deepM_le (c : List Th) : ∀ (f i : Nat) (met : List Nat) (d : Nat) (met' : List Nat), deepM c f i met = some (d, met') → d ≤ f := by
  intro f
  induction f with
  | zero => intro i met d met' h; simp [deepM] at h
  | succ f ih =>
    intro i met d met' h
    rw [deepM] at h
    split at h
    · cases h; omega
    · rw [Option.map_eq_some_iff] at h
      obtain ⟨⟨m, mt⟩, h1, h2⟩ := h
      simp only [Prod.mk.injEq] at h2
      obtain ⟨rfl, rfl⟩ := h2
      have key : ∀ (l : List Nat) (p r : Nat × List Nat), p.1 ≤ f → l.foldlM (stepM c f) p = some r → r.1 ≤ f := by
        intro l
        induction l with
        | nil => intro p r hp h; simp at h; rw [← h]; exact hp
        | cons a l ihl =>
          intro p r hp h
          rw [List.foldlM_cons] at h
          obtain ⟨s, hs, h⟩ := Option.bind_eq_some_iff.1 h
          obtain ⟨q, hq, rfl⟩ := Option.map_eq_some_iff.1 hs
          have := ih a p.2 q.1 q.2 hq
          exact ihl _ r (by dsimp only; omega) h
      have := key _ _ _ (by simp) h1
      simp at this
      omega

set_option maxRecDepth 100000 in
set_option maxHeartbeats 4000000 in
theorem deep_any (w0 : World) (b bA bM bD : Nat) (vc : Value) (c : List Th) (flow : Bool) (hbD : bD ≠ b) (hD0 : w0.heap.size ≤ bD) (hcl : c.length ≤ 100000000) (hks : ∀ t ∈ c, ∀ k ∈ t.kids, k < c.length) (hkn : ∀ t ∈ c, t.kids.length ≤ 1000000) :
    ∀ (f : Nat), f ≤ 1000000000 → ∀ (i : Nat) (met : List Nat) (d : Nat) (met' : List Nat) (w : World), deepM c f i met = some (d, met') → i < c.length → WrAt w0 w b bA bM vc c flow → MetAt w bD c.length met →
    Calls Tryz.prog 29 #[.pointer (some ⟨b, 0, none⟩), .int .i64 (i : Nat), .map (some bD)] w fun e w' => e = .returned (.int .i64 (d : Nat)) ∧ MetAt w' bD c.length met' ∧ w.grownBy w' (some bD) := by
  intro f
  induction f with
  | zero => intro _ i met d met' w h; simp [deepM] at h
  | succ f ih =>
    intro hf i met d met' w h hi hW hM
    obtain ⟨t, ht⟩ : ∃ t, c[i]? = some t := ⟨_, List.getElem?_eq_getElem hi⟩
    have htd : c.getD i th0 = t := by rw [List.getD_eq_getElem?_getD, ht]; rfl
    rw [deepM, htd] at h
    obtain ⟨v0, v1, v2, v3⟩ := hW.cells
    obtain ⟨g, cap, A2, c2, rfl, q0, q1, q2, q3, hkr⟩ := hW.thing ht
    have hlk := hM.look i (by omega)
    have hi2 : (i : Int) < c.length := by omega
    have ih := ih (by omega)
    by_cases hm : i ∈ met
    · rw [if_pos (.inl hm)] at h
      cases h
      rw [decide_eq_true hm] at hlk
      clear ih htd
      go_enter Tryz.func29, Tryz.ntmps29
      go_wp2_with fail
      go_ret
      exact ⟨rfl, hM, grown_refl _ _⟩
    · rw [decide_eq_false hm] at hlk
      by_cases hk1 : t.kind = 1
      · rw [if_pos (.inr hk1)] at h
        cases h
        have hkb : ((t.kind : Int) == 1) = true := by rw [hk1]; rfl
        clear ih htd hk1
        go_enter Tryz.func29, Tryz.ntmps29
        go_wp2_with fail
        go_ret
        exact ⟨rfl, hM, grown_refl _ _⟩
      · rw [if_neg (by rintro (h1 | h1); exact hm h1; exact hk1 h1)] at h
        have hkb : ((t.kind : Int) == 1) = false := by simp; omega
        rw [Option.map_eq_some_iff] at h
        obtain ⟨⟨dm, mt⟩, hfo, h2⟩ := h
        simp only [Prod.mk.injEq] at h2
        obtain ⟨rfl, rfl⟩ := h2
        obtain ⟨w1, hrun, hM1, ht1⟩ := hM.store i hi hcl
        have hW1 := hW.grown (turned_grown ht1) (by simp; exact hbD) (fun k hk => by cases hk; exact hD0)
        have hins : insN i met = i :: met := by unfold insN; rw [if_neg hm]
        rw [hins] at hM1
        have hg1 := turned_grown ht1
        obtain ⟨x0, x1, x2, x3⟩ := hW1.cells
        obtain ⟨g', cap', A2', c2', hve, y0, y1, y2, y3, hkr'⟩ := hW1.thing ht
        cases hve
        have HF := Lib.hid hfo
        have HW1 := Lib.hid hW1
        have hkt := hks t (List.mem_of_getElem? ht)
        have hktn := hkn t (List.mem_of_getElem? ht)
        clear hfo ht1 hW hM htd hk1 q1 q2 y1 y2 hm hins
        go_enter Tryz.func29, Tryz.ntmps29
        go_wp2_with fail
        go_loopw [35, 7] (fun j mo wr => ∃ (q most : Nat) (metq : List Nat), j = .int .i64 q ∧ q ≤ t.kids.length ∧ mo = .int .i64 most ∧ most ≤ f ∧ (t.kids.drop q).foldlM (stepM c f) (most, metq) = some (dm, mt) ∧ MetAt wr bD c.length metq ∧ w.grownBy wr (some bD) ∧ w1.grownBy wr (some bD)) (fun j _ _ => t.kids.length - (intOf j).toNat)
        case atStart => exact ⟨0, 0, i :: met, rfl, Nat.zero_le _, rfl, Nat.zero_le _, by rw [List.drop_zero]; exact HF.out, hM1, hg1, grown_refl _ _⟩
        case round =>
          obtain ⟨q, most, metq, rfl, hq, rfl, hmo, hfo, hMq, hgq, hg1q⟩ := hrel
          clear hM1 hg1 HF
          have hWq := HW1.out.grown hg1q (by simp; exact hbD) (fun k hk => by cases hk; exact hD0)
          by_cases hql : q < t.kids.length
          · rw [List.drop_eq_getElem_cons hql, List.foldlM_cons] at hfo
            obtain ⟨s1, hs1, hfo⟩ := Option.bind_eq_some_iff.1 hfo
            obtain ⟨⟨dk, mk⟩, hdk, rfl⟩ := Option.map_eq_some_iff.1 hs1
            have hge : t.kids[q] = t.kids.getD q 0 := by simp [List.getD_eq_getElem?_getD, List.getElem?_eq_getElem hql]
            rw [hge] at hdk
            have hkid := hkt (t.kids.getD q 0) (by rw [← hge]; exact List.getElem_mem hql)
            obtain ⟨g6, o6, rfl, hcell⟩ := kid_cell hkr' hWq.frame q hql
            have hdle := deepM_le c f _ _ _ _ hdk
            generalize t.kids.getD q 0 = kid at *
            have ihk := ih kid metq dk mk wr hdk hkid hWq hMq
            have hq2 : (q : Int) < t.kids.length := by omega
            have HF2 := Lib.hid hfo
            clear hfo hs1 hge hdk hWq hMq
            go_wp2_with fail
            refine ihk.mono ?_
            rintro e w3 ⟨rfl, hM3, hg3⟩
            have hgq3 := grown_trans hgq hg3
            have hg1q3 := grown_trans hg1q hg3
            have hmx : ((max most dk : Nat) : Int) = max (most : Int) (dk : Int) := by omega
            have hmxl : max most dk ≤ f := by omega
            have HF3 : Hid ((t.kids.drop (q + 1)).foldlM (stepM c f) (max most dk, mk) = some (dm, mt)) := Lib.hid HF2.out
            clear ihk HF2 hgq hg1q hg3 hcell
            go_wp2
            go_roundw
            case rel => exact ⟨q + 1, max most dk, mk, by go_num, by omega, by rw [hmx], hmxl, HF3.out, hM3, hgq3, hg1q3⟩
            case measure => simp [intOf]; omega
          · rw [List.drop_of_length_le (by omega)] at hfo
            simp at hfo
            obtain ⟨rfl, rfl⟩ := hfo
            have hge2 : (t.kids.length : Int) ≤ q := by omega
            have hm2 : (most : Int) ≤ 1000000000 := by omega
            clear hWq
            go_wp2
            go_ret
            exact ⟨rfl, hMq, hgq⟩
end Go.Proofs.YtghigiapfmlkbaaGreatDoor
