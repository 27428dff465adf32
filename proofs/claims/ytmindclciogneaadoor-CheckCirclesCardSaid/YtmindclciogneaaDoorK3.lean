/- check.Anchors, Targets. -/
import Derived.Test.YtmindclciogneaaDoorK2
namespace Go.Proofs.YtmindclciogneaaDoor
open Go.RowKit
open Go.Maps (Keyed)

/-- Names as a map of strings. -/
def strF (g : Bs → Option Nat) : Value → Option Value
  | .string s => (g s.data.toList).map fun n => .int .i64 (n : Nat)
  | _ => none
theorem strF_at (g : Bs → Option Nat) (l : Bs) : strF g (.string ⟨l.toArray⟩) = (g l).map fun n => Value.int .i64 (n : Nat) := by simp [strF]
theorem strF_congr {g h : Bs → Option Nat} (e : ∀ l, g l = h l) : strF g = strF h := by
  have : g = h := funext e
  rw [this]
theorem anchor_step (m : List Nd) (k : Nat) (y : Nd) (hy : m[k]? = some y) (l : Bs) :
    anchorAt (m.take (k + 1)) l = if anchorAt (m.take k) l = none ∧ y.anchor = l ∧ l ≠ [] then some k else anchorAt (m.take k) l := by
  have hk : k < m.length := (List.getElem?_eq_some_iff.1 hy).1
  have e : m[k] = y := (List.getElem?_eq_some_iff.1 hy).2
  unfold anchorAt
  by_cases hl : l = []
  · simp [hl]
  · rw [if_neg hl, if_neg hl, List.take_succ_eq_append_getElem hk, e, List.findIdx?_append]
    cases h : (m.take k).findIdx? (fun y => y.anchor == l) with
    | some j => simp
    | none =>
      by_cases ha : y.anchor = l
      · simp [ha, hl, List.findIdx?_cons]
        omega
      · simp [ha, List.findIdx?_cons]
theorem anchor_lt {m : List Nd} {l : Bs} {j : Nat} (h : anchorAt m l = some j) : j < m.length := by
  unfold anchorAt at h
  split at h
  · cases h
  · exact (List.findIdx?_eq_some_iff_findIdx_eq.1 h).1
theorem strF_store {g h : Bs → Option Nat} (s : Bs) (k : Nat) (h1 : h s = some k) (h2 : ∀ l, l ≠ s → h l = g l) : strF h (.string ⟨s.toArray⟩) = some (.int .i64 (k : Nat)) ∧ ∀ q, q ≠ .string ⟨s.toArray⟩ → strF h q = strF g q := by
  constructor
  · rw [strF_at, h1]
    rfl
  · intro q hq
    cases q with
    | string t =>
      simp only [strF]
      rw [h2]
      intro e
      apply hq
      rw [← e]
    | _ => rfl
theorem tg_step (m : List Nd) (k i : Nat) : tgTo m (k + 1) i = if i = k then targetAt m k else tgTo m k i := by
  unfold tgTo
  by_cases h : i = k
  · subst h
    rw [if_pos rfl, if_pos (by omega)]
  · rw [if_neg h]
    by_cases h2 : i < k
    · rw [if_pos h2, if_pos (by omega)]
    · rw [if_neg h2, if_neg (by omega)]
theorem intF_store2 {g h : Nat → Option Nat} (a b : Nat) (h1 : h a = some b) (h2 : ∀ k, k ≠ a → h k = g k) : intF h (.int .i64 (a : Nat)) = some (.int .i64 (b : Nat)) ∧ ∀ k, k ≠ .int .i64 (a : Nat) → intF h k = intF g k := by
  constructor
  · rw [intF_at, h1]
    rfl
  · intro k hk
    cases k with
    | int q z =>
      cases q <;> try rfl
      simp only [intF]
      split
      · rename_i hz
        rw [h2]
        intro e
        apply hk
        congr 1
        omega
      · rfl
    | _ => rfl
theorem target_at (m : List Nd) (k : Nat) (y : Nd) (hy : m[k]? = some y) : targetAt m k = if y.kind = 4 then anchorAt m y.value else none := by
  unfold targetAt
  rw [List.getD_eq_getElem?_getD, hy]
  rfl
-- the walks (k3.py)
set_option maxRecDepth 100000 in
set_option maxHeartbeats 4000000 in
theorem anchors_any (v : Value) (m : List Nd) (w : World) (h : TreeR w v m) (hm : m.length ≤ 1000000) (hst : ∀ y ∈ m, y.tag.length ≤ 1000000 ∧ y.anchor.length ≤ 1000000 ∧ y.value.length ≤ 1000000) :
    Calls Tryd.prog 81 #[v] w fun e w' => ∃ n, e = .returned (.map (some w.heap.size)) ∧ n ≤ 1000000 ∧ MapF Tryd.prog 9 3 w' w.heap.size n (strF (anchorAt m)) ∧ Below w.heap.size w w' := by
  obtain ⟨A, c, rfl⟩ := h.shape
  have hmm := @run_makeMap Tryd.prog
  have H0 := Lib.hid h
  have HS := Lib.hid hst
  clear h hst
  go_enter Tryd.func81, Tryd.ntmps81
  go_wp2_with fail
  have hA0 := MapF.made w Tryd.prog 9 3
  have hb0 : Below w.heap.size w (w.alloc (.map #[] 0)) := (Below.refl _ _).alloc (Nat.le_refl _) _
  generalize w.alloc _ = w1 at hA0 hb0 ⊢
  go_loopw [11] (fun i wr => ∃ k n : Nat, i = .int .i64 k ∧ k ≤ m.length ∧ n ≤ k ∧ MapF Tryd.prog 9 3 wr w.heap.size n (strF (anchorAt (m.take k))) ∧ Below w.heap.size w wr) (fun i _ => m.length - (intOf i).toNat)
  case atStart => exact ⟨0, 0, rfl, Nat.zero_le _, Nat.le_refl _, hA0.ext (fun key kl _ => by cases key <;> simp [strF, anchorAt]), hb0⟩
  case round =>
    obtain ⟨k, n, rfl, hk, hn, hA, hbw⟩ := hrel
    clear hA0 hb0 hmm
    by_cases hlt : k < m.length
    · obtain ⟨y, hy⟩ : ∃ y, m[k]? = some y := ⟨_, List.getElem?_eq_getElem hlt⟩
      have HST := Lib.hid (anchor_step m k y hy)
      have hs := HS.out y (List.mem_of_getElem? hy)
      rcases H0.out.below hbw with ⟨h0, _⟩ | ⟨g, c2, hv, hc2, htr⟩
      · subst h0; simp at hlt
      · cases hv
        obtain ⟨kv, hcl, hkr⟩ := htr k y hy
        obtain ⟨A2, cp3, rfl⟩ := hkr.shape
        have q0 : wr.cell? ⟨g, k * 10, none⟩ = some (.int .i64 y.kind) := hcl 0 (by omega)
        have q1 : wr.cell? ⟨g, k * 10 + 1, none⟩ = some (.int .i64 y.style) := hcl 1 (by omega)
        have q2 : wr.cell? ⟨g, k * 10 + 2, none⟩ = some (.string ⟨y.tag.toArray⟩) := hcl 2 (by omega)
        have q3 : wr.cell? ⟨g, k * 10 + 3, none⟩ = some (.string ⟨y.anchor.toArray⟩) := hcl 3 (by omega)
        have q4 : wr.cell? ⟨g, k * 10 + 4, none⟩ = some (.string ⟨y.value.toArray⟩) := hcl 4 (by omega)
        have q5 : wr.cell? ⟨g, k * 10 + 5, none⟩ = some (.int .i64 y.start) := hcl 5 (by omega)
        have q6 : wr.cell? ⟨g, k * 10 + 6, none⟩ = some (.int .i64 y.stop) := hcl 6 (by omega)
        have q7 : wr.cell? ⟨g, k * 10 + 7, none⟩ = some (.int .i64 y.head) := hcl 7 (by omega)
        have q8 : wr.cell? ⟨g, k * 10 + 8, none⟩ = some (.int .i64 y.mark) := hcl 8 (by omega)
        have q9 : wr.cell? ⟨g, k * 10 + 9, none⟩ = some (.slice A2 y.kids.length cp3) := hcl 9 (by omega)
        clear htr hcl hkr
        go_wp2_with fail
        have c3 : (wr.alloc (.cells #[.int .i64 y.kind, .int .i64 y.style, .string ⟨y.tag.toArray⟩, .string ⟨y.anchor.toArray⟩, .string ⟨y.value.toArray⟩, .int .i64 y.start, .int .i64 y.stop, .int .i64 y.head, .int .i64 y.mark, .slice A2 y.kids.length cp3] 42)).cell? ⟨wr.heap.size, 3, none⟩ = some (.string ⟨y.anchor.toArray⟩) := by rw [World.cell?_alloc_at _ _ _ _ rfl]; rfl
        have hA4 := hA.alloc (.cells #[.int .i64 y.kind, .int .i64 y.style, .string ⟨y.tag.toArray⟩, .string ⟨y.anchor.toArray⟩, .string ⟨y.value.toArray⟩, .int .i64 y.start, .int .i64 y.stop, .int .i64 y.head, .int .i64 y.mark, .slice A2 y.kids.length cp3] 42)
        have hb4 := hbw.alloc hbw.size (.cells #[.int .i64 y.kind, .int .i64 y.style, .string ⟨y.tag.toArray⟩, .string ⟨y.anchor.toArray⟩, .string ⟨y.value.toArray⟩, .int .i64 y.start, .int .i64 y.stop, .int .i64 y.head, .int .i64 y.mark, .slice A2 y.kids.length cp3] 42)
        have hBB : wr.heap.size < (wr.alloc (.cells #[.int .i64 y.kind, .int .i64 y.style, .string ⟨y.tag.toArray⟩, .string ⟨y.anchor.toArray⟩, .string ⟨y.value.toArray⟩, .int .i64 y.start, .int .i64 y.stop, .int .i64 y.head, .int .i64 y.mark, .slice A2 y.kids.length cp3] 42)).heap.size := by simp
        clear q0 q1 q2 q3 q4 q5 q6 q7 q8 q9 hbw hA
        generalize wr.alloc _ = w4 at c3 hb4 hBB hA4 ⊢
        generalize wr.heap.size = B at c3 hBB ⊢
        cases hr : anchorAt (m.take k) y.anchor
        case some j =>
          have HE : Hid (strF (anchorAt (m.take (k + 1))) = strF (anchorAt (m.take k))) := Lib.hid (strF_congr fun l => by
            rw [HST.out l]
            split
            · rename_i hq
              obtain ⟨h1, rfl, _⟩ := hq
              rw [hr] at h1
              cases h1
            · rfl)
          by_cases han : y.anchor = []
          case' pos =>
            have hae : y.anchor.isEmpty = true := by rw [han]; rfl
            have hae2 : (⟨y.anchor.toArray⟩ : ByteArray).toList.isEmpty = true := by rw [sl_empty, sl_mk]; exact hae
          case' neg =>
            have hae : y.anchor.isEmpty = false := by simpa using han
            have hae2 : (⟨y.anchor.toArray⟩ : ByteArray).toList.isEmpty = false := by rw [sl_empty, sl_mk]; exact hae
          all_goals
            have hlk := MapF.look_ok (T := 31) hA4 strLaw Tryd.underlying31 (intZero _) (strKey _ hs.2.1) (some (.int .i64 (j : Nat))) (by rw [strF_at, hr]; rfl); simp only [hlk, Result.andThen]; clear hlk
            clear hr han
            go_wp2
            go_roundw
            case rel => exact ⟨k + 1, n, by go_num, by omega, by omega, by rw [HE.out]; exact hA4, hb4⟩
            case measure => simp [intOf]; omega
        case none =>
          by_cases han : y.anchor = []
          · have hae : y.anchor.isEmpty = true := by rw [han]; rfl
            have hae2 : (⟨y.anchor.toArray⟩ : ByteArray).toList.isEmpty = true := by rw [sl_empty, sl_mk]; exact hae
            have HE : Hid (strF (anchorAt (m.take (k + 1))) = strF (anchorAt (m.take k))) := Lib.hid (strF_congr fun l => by
              rw [HST.out l, if_neg]
              rintro ⟨_, h2, h3⟩
              exact h3 (by rw [← h2, han]))
            have hlk := MapF.look_ok (T := 31) hA4 strLaw Tryd.underlying31 (intZero _) (strKey _ hs.2.1) none (by rw [strF_at, hr]; rfl); simp only [hlk, Result.andThen]; clear hlk
            clear hr han
            go_wp2
            go_roundw
            case rel => exact ⟨k + 1, n, by go_num, by omega, by omega, by rw [HE.out]; exact hA4, hb4⟩
            case measure => simp [intOf]; omega
          · have hae : y.anchor.isEmpty = false := by simpa using han
            have hae2 : (⟨y.anchor.toArray⟩ : ByteArray).toList.isEmpty = false := by rw [sl_empty, sl_mk]; exact hae
            obtain ⟨w5, hrun, hst, ht⟩ := hA4.store (T := 31) strLaw Tryd.underlying31 (by unfold maxLen; omega) (strKey y.anchor hs.2.1) (intElem k (by omega))
            have hst2 := strF_store (g := anchorAt (m.take k)) (h := anchorAt (m.take (k + 1))) y.anchor k (by rw [HST.out, if_pos ⟨hr, rfl, han⟩]) (fun l hl => by rw [HST.out, if_neg (fun h => hl h.2.1.symm)])
            have hA5 := hst _ hst2.1 hst2.2
            have hb5 := turned_below hb4 ht hb4.size (Nat.le_refl _)
            clear hst ht hst2
            have hlk := MapF.look_ok (T := 31) hA4 strLaw Tryd.underlying31 (intZero _) (strKey _ hs.2.1) none (by rw [strF_at, hr]; rfl); simp only [hlk, Result.andThen]; clear hlk
            clear hr han hA4
            go_wp2
            go_roundw
            case rel => exact ⟨k + 1, n + 1, by go_num, by omega, by omega, hA5, hb5⟩
            case measure => simp [intOf]; omega
    · have hge : (m.length : Int) ≤ k := by omega
      have hA5 : MapF Tryd.prog 9 3 wr w.heap.size n (strF (anchorAt m)) := by
        rw [List.take_of_length_le (by omega)] at hA
        exact hA
      clear hA
      go_wp2
      go_ret
      exact ⟨n, rfl, by omega, hA5, hbw⟩

set_option maxRecDepth 100000 in
set_option maxHeartbeats 4000000 in
theorem targets_any (v : Value) (m : List Nd) (w : World) (h : TreeR w v m) (hm : m.length ≤ 1000000) (hst : ∀ y ∈ m, y.tag.length ≤ 1000000 ∧ y.anchor.length ≤ 1000000 ∧ y.value.length ≤ 1000000) :
    Calls Tryd.prog 40 #[v] w fun e w' => ∃ b n, e = .returned (.map (some b)) ∧ w.heap.size ≤ b ∧ n ≤ 1000000 ∧ MapF Tryd.prog 3 3 w' b n (intF (tgTo m m.length)) ∧ Below w.heap.size w w' := by
  obtain ⟨A, c, rfl⟩ := h.shape
  have hmm := @run_makeMap Tryd.prog
  have ca := anchors_any _ m w h hm hst
  have H0 := Lib.hid h
  have HS := Lib.hid hst
  clear h hst
  go_enter Tryd.func40, Tryd.ntmps40
  go_wp2_with fail
  refine ca.mono ?_
  rintro e w1 ⟨nA, rfl, hnA, hA0, hb1⟩
  clear ca
  go_wp2_with fail
  have hT0 := MapF.made w1 Tryd.prog 3 3
  have hA1 := hA0.alloc (.map #[] 0)
  have hb0 : Below w.heap.size w (w1.alloc (.map #[] 0)) := hb1.alloc hb1.size _
  have hl1 := hA0.lt
  clear hA0 hb1
  generalize w1.alloc _ = w2 at hT0 hA1 hb0 ⊢
  generalize w1.heap.size = bT at hT0 hl1 ⊢
  go_loopw [14] (fun i wr => ∃ k n : Nat, i = .int .i64 k ∧ k ≤ m.length ∧ n ≤ k ∧ MapF Tryd.prog 9 3 wr w.heap.size nA (strF (anchorAt m)) ∧ MapF Tryd.prog 3 3 wr bT n (intF (tgTo m k)) ∧ Below w.heap.size w wr) (fun i _ => m.length - (intOf i).toNat)
  case atStart => exact ⟨0, 0, rfl, Nat.zero_le _, Nat.le_refl _, hA1, hT0.ext (fun key kl hk => by obtain ⟨z, rfl⟩ := intKey_inv hk; simp [intF, tgTo]), hb0⟩
  case round =>
    obtain ⟨k, n, rfl, hk, hn, hA, hT, hbw⟩ := hrel
    clear hA1 hT0 hb0 hmm
    by_cases hlt : k < m.length
    · obtain ⟨y, hy⟩ : ∃ y, m[k]? = some y := ⟨_, List.getElem?_eq_getElem hlt⟩
      have HST := Lib.hid (tg_step m k)
      have HTA := Lib.hid (target_at m k y hy)
      have hs := HS.out y (List.mem_of_getElem? hy)
      rcases H0.out.below hbw with ⟨h0, _⟩ | ⟨g, c2, hv, hc2, htr⟩
      · subst h0; simp at hlt
      · cases hv
        obtain ⟨kv, hcl, hkr⟩ := htr k y hy
        obtain ⟨A2, cp3, rfl⟩ := hkr.shape
        have q0 : wr.cell? ⟨g, k * 10, none⟩ = some (.int .i64 y.kind) := hcl 0 (by omega)
        have q1 : wr.cell? ⟨g, k * 10 + 1, none⟩ = some (.int .i64 y.style) := hcl 1 (by omega)
        have q2 : wr.cell? ⟨g, k * 10 + 2, none⟩ = some (.string ⟨y.tag.toArray⟩) := hcl 2 (by omega)
        have q3 : wr.cell? ⟨g, k * 10 + 3, none⟩ = some (.string ⟨y.anchor.toArray⟩) := hcl 3 (by omega)
        have q4 : wr.cell? ⟨g, k * 10 + 4, none⟩ = some (.string ⟨y.value.toArray⟩) := hcl 4 (by omega)
        have q5 : wr.cell? ⟨g, k * 10 + 5, none⟩ = some (.int .i64 y.start) := hcl 5 (by omega)
        have q6 : wr.cell? ⟨g, k * 10 + 6, none⟩ = some (.int .i64 y.stop) := hcl 6 (by omega)
        have q7 : wr.cell? ⟨g, k * 10 + 7, none⟩ = some (.int .i64 y.head) := hcl 7 (by omega)
        have q8 : wr.cell? ⟨g, k * 10 + 8, none⟩ = some (.int .i64 y.mark) := hcl 8 (by omega)
        have q9 : wr.cell? ⟨g, k * 10 + 9, none⟩ = some (.slice A2 y.kids.length cp3) := hcl 9 (by omega)
        clear htr hcl hkr
        go_wp2_with fail
        have c0 : (wr.alloc (.cells #[.int .i64 y.kind, .int .i64 y.style, .string ⟨y.tag.toArray⟩, .string ⟨y.anchor.toArray⟩, .string ⟨y.value.toArray⟩, .int .i64 y.start, .int .i64 y.stop, .int .i64 y.head, .int .i64 y.mark, .slice A2 y.kids.length cp3] 42)).cell? ⟨wr.heap.size, 0, none⟩ = some (.int .i64 y.kind) := by rw [World.cell?_alloc_at _ _ _ _ rfl]; rfl
        have c4 : (wr.alloc (.cells #[.int .i64 y.kind, .int .i64 y.style, .string ⟨y.tag.toArray⟩, .string ⟨y.anchor.toArray⟩, .string ⟨y.value.toArray⟩, .int .i64 y.start, .int .i64 y.stop, .int .i64 y.head, .int .i64 y.mark, .slice A2 y.kids.length cp3] 42)).cell? ⟨wr.heap.size, 4, none⟩ = some (.string ⟨y.value.toArray⟩) := by rw [World.cell?_alloc_at _ _ _ _ rfl]; rfl
        have hA4 := hA.alloc (.cells #[.int .i64 y.kind, .int .i64 y.style, .string ⟨y.tag.toArray⟩, .string ⟨y.anchor.toArray⟩, .string ⟨y.value.toArray⟩, .int .i64 y.start, .int .i64 y.stop, .int .i64 y.head, .int .i64 y.mark, .slice A2 y.kids.length cp3] 42)
        have hT4 := hT.alloc (.cells #[.int .i64 y.kind, .int .i64 y.style, .string ⟨y.tag.toArray⟩, .string ⟨y.anchor.toArray⟩, .string ⟨y.value.toArray⟩, .int .i64 y.start, .int .i64 y.stop, .int .i64 y.head, .int .i64 y.mark, .slice A2 y.kids.length cp3] 42)
        have hb4 := hbw.alloc hbw.size (.cells #[.int .i64 y.kind, .int .i64 y.style, .string ⟨y.tag.toArray⟩, .string ⟨y.anchor.toArray⟩, .string ⟨y.value.toArray⟩, .int .i64 y.start, .int .i64 y.stop, .int .i64 y.head, .int .i64 y.mark, .slice A2 y.kids.length cp3] 42)
        have hBB : wr.heap.size < (wr.alloc (.cells #[.int .i64 y.kind, .int .i64 y.style, .string ⟨y.tag.toArray⟩, .string ⟨y.anchor.toArray⟩, .string ⟨y.value.toArray⟩, .int .i64 y.start, .int .i64 y.stop, .int .i64 y.head, .int .i64 y.mark, .slice A2 y.kids.length cp3] 42)).heap.size := by simp
        clear q0 q1 q2 q3 q4 q5 q6 q7 q8 q9 hbw hA hT
        generalize wr.alloc _ = w4 at c0 c4 hb4 hBB hA4 hT4 ⊢
        generalize wr.heap.size = B at c0 c4 hBB ⊢
        by_cases hk4 : y.kind = 4
        · have hkb : ((y.kind : Int) == 4) = true := by rw [hk4]; rfl
          cases hr : anchorAt m y.value
          case none =>
            have HE : Hid (∀ i, tgTo m (k + 1) i = tgTo m k i) := Lib.hid (fun i => by
              rw [HST.out i]
              split
              · rename_i e
                subst e
                rw [HTA.out, if_pos hk4, hr]
                simp [tgTo]
              · rfl)
            have hlk := MapF.look_ok (T := 31) hA4 strLaw Tryd.underlying31 (intZero _) (strKey _ hs.2.2) none (by rw [strF_at, hr]; rfl); simp only [hlk, Result.andThen]; clear hlk
            clear hr hk4
            go_wp2
            go_roundw
            case rel => exact ⟨k + 1, n, by go_num, by omega, by omega, hA4, by rw [show tgTo m (k + 1) = tgTo m k from funext HE.out]; exact hT4, hb4⟩
            case measure => simp [intOf]; omega
          case some j =>
            have hjl := anchor_lt hr
            obtain ⟨w5, hrun, hst, ht⟩ := hT4.store (T := 71) intLaw Tryd.underlying71 (by unfold maxLen; omega) (intKey k (by omega)) (intElem j (by omega))
            have hst2 := intF_store2 (g := tgTo m k) (h := tgTo m (k + 1)) k j (by rw [HST.out, if_pos rfl, HTA.out, if_pos hk4, hr]) (fun i hi => by rw [HST.out, if_neg hi])
            have hT5 := hst _ hst2.1 hst2.2
            have hA5 := hA4.kept ht.grown (by simp only [ne_eq, Option.some.injEq]; omega)
            have hb5 := turned_below hb4 ht hb4.size (by omega)
            clear hst ht hst2
            have hlk := MapF.look_ok (T := 31) hA4 strLaw Tryd.underlying31 (intZero _) (strKey _ hs.2.2) (some (.int .i64 (j : Nat))) (by rw [strF_at, hr]; rfl); simp only [hlk, Result.andThen]; clear hlk
            clear hr hk4 hA4 hT4
            go_wp2
            go_roundw
            case rel => exact ⟨k + 1, n + 1, by go_num, by omega, by omega, hA5, hT5, hb5⟩
            case measure => simp [intOf]; omega
        · have hkb : ((y.kind : Int) == 4) = false := by simp; omega
          have HE : Hid (∀ i, tgTo m (k + 1) i = tgTo m k i) := Lib.hid (fun i => by
            rw [HST.out i]
            split
            · rename_i e
              subst e
              rw [HTA.out, if_neg hk4]
              simp [tgTo]
            · rfl)
          have hlk := MapF.look_ok (T := 31) hA4 strLaw Tryd.underlying31 (intZero _) (strKey _ hs.2.2) _ rfl; simp only [hlk, Result.andThen]; clear hlk
          clear hk4
          go_wp2
          go_roundw
          case rel => exact ⟨k + 1, n, by go_num, by omega, by omega, hA4, by rw [show tgTo m (k + 1) = tgTo m k from funext HE.out]; exact hT4, hb4⟩
          case measure => simp [intOf]; omega
    · have hge : (m.length : Int) ≤ k := by omega
      obtain rfl : k = m.length := by omega
      clear hA
      go_wp2
      go_ret
      exact ⟨bT, n, rfl, by omega, by omega, hT, hbw⟩
end Go.Proofs.YtmindclciogneaaDoor

/- check.Compose: its words. -/
namespace Go.Proofs.YtmindclciogneaaDoor
open Go.RowKit
open Go.Maps (Keyed)

theorem numGo_len (tg : Nat → Option Nat) : ∀ (l : List Nd) (acc : List Nat) (th : Nat), (numGo tg l acc th).1.length = acc.length + l.length ∧ (numGo tg l acc th).2 ≤ th + l.length
  | [], acc, th => by simp [numGo]
  | x :: t, acc, th => by
    rw [numGo]
    split
    · have := numGo_len tg t (acc ++ [acc.getD ((tg acc.length).getD 0) 0]) th
      simp at this ⊢
      omega
    · have := numGo_len tg t (acc ++ [th]) (th + 1)
      simp at this ⊢
      omega
theorem numGo_snoc (tg : Nat → Option Nat) (x : Nd) : ∀ (l : List Nd) (acc : List Nat) (th : Nat), numGo tg (l ++ [x]) acc th =
    if x.kind = 4 then ((numGo tg l acc th).1 ++ [(numGo tg l acc th).1.getD ((tg (numGo tg l acc th).1.length).getD 0) 0], (numGo tg l acc th).2) else ((numGo tg l acc th).1 ++ [(numGo tg l acc th).2], (numGo tg l acc th).2 + 1)
  | [], acc, th => by
    simp only [List.nil_append, numGo]
  | y :: t, acc, th => by
    rw [List.cons_append, numGo, numGo]
    split
    · exact numGo_snoc tg x t _ _
    · exact numGo_snoc tg x t _ _
theorem numGo_step (tg : Nat → Option Nat) (m : List Nd) (k : Nat) (y : Nd) (hy : m[k]? = some y) : numGo tg (m.take (k + 1)) [] 0 =
    if y.kind = 4 then ((numGo tg (m.take k) [] 0).1 ++ [(numGo tg (m.take k) [] 0).1.getD ((tg k).getD 0) 0], (numGo tg (m.take k) [] 0).2) else ((numGo tg (m.take k) [] 0).1 ++ [(numGo tg (m.take k) [] 0).2], (numGo tg (m.take k) [] 0).2 + 1) := by
  have hk : k < m.length := (List.getElem?_eq_some_iff.1 hy).1
  have e : m[k] = y := (List.getElem?_eq_some_iff.1 hy).2
  have hl := (numGo_len tg (m.take k) [] 0).1
  rw [List.length_take, List.length_nil, Nat.zero_add, Nat.min_eq_left (by omega)] at hl
  rw [List.take_succ_eq_append_getElem hk, e, numGo_snoc, hl]
/-- Block N holds these numbers. -/
def NumAt (w : World) (N : Nat) (l : List Nat) : Prop := w.heap[N]? = some (.cells (l.map fun n : Nat => Value.int .i64 (n : Int)).toArray 3 (0, 0))
theorem NumAt.cell {w : World} {N : Nat} {l : List Nat} (h : NumAt w N l) (i : Nat) (hi : i < l.length) : w.cell? ⟨N, i, none⟩ = some (.int .i64 (l.getD i 0 : Nat)) := by
  rw [cell_of_row _ _ _ _ _ (0, 0) h]
  simp [List.getD_eq_getElem?_getD, List.getElem?_eq_getElem hi]
theorem NumAt.free {w : World} {N : Nat} {l : List Nat} (h : NumAt w N l) (i : Nat) : w.frozen? ⟨N, i, none⟩ = false := by
  unfold NumAt at h
  simp [World.frozen?, h]
theorem NumAt.lt {w : World} {N : Nat} {l : List Nat} (h : NumAt w N l) : N < w.heap.size := lt_of_block h
theorem NumAt.kept {w w' : World} {N : Nat} {l : List Nat} {row : Option Nat} (h : NumAt w N l) (hg : w.grownBy w' row) (hne : some N ≠ row) : NumAt w' N l := (hg.block N h.lt hne).trans h
theorem NumAt.alloc {w : World} {N : Nat} {l : List Nat} (h : NumAt w N l) (o : Obj) : NumAt (w.alloc o) N l := h.kept (World.grownBy_alloc w o none) (by simp)
theorem NumAt.other {w : World} {N : Nat} {l : List Nat} (h : NumAt w N l) {a : Addr} (ha : N ≠ a.block) (u : Value) : NumAt (w.setCell a u) N l := by
  unfold NumAt
  rw [heap_setCell_other _ _ _ _ ha]
  exact h
theorem NumAt.set {w : World} {N : Nat} {l : List Nat} (h : NumAt w N l) (i v : Nat) : NumAt (w.setCell ⟨N, i, none⟩ (.int .i64 (v : Int))) N (l.set i v) := by
  unfold NumAt
  rw [heap_setCell_same _ _ _ _ _ _ h]
  simp [List.map_set]
theorem NumAt.made (w : World) (n : Nat) : NumAt (w.alloc (.cells (madeCells #[.int .i64 0] n) 3)) w.heap.size (List.replicate n 0) := by
  unfold NumAt
  rw [heap_alloc_new]
  congr 2
  apply Array.ext
  · simp [madeCells]
  · intro i h1 h2
    simp [madeCells, Nat.mod_one]
/-- The four cells of a thing. -/
def thCells (t : Th) (v : Value) : List Value := [.int .i64 t.kind, .string ⟨t.tag.toArray⟩, .string ⟨t.value.toArray⟩, v]
def flatT : List (Th × Value) → List Value
  | [] => []
  | p :: t => thCells p.1 p.2 ++ flatT t
theorem flatT_len : ∀ l : List (Th × Value), (flatT l).length = l.length * 4
  | [] => rfl
  | p :: t => by rw [flatT, List.length_append, flatT_len t, List.length_cons]; simp [thCells]; omega
theorem flatT_app : ∀ l m : List (Th × Value), flatT (l ++ m) = flatT l ++ flatT m
  | [], _ => rfl
  | p :: t, m => by rw [List.cons_append, flatT, flatT, flatT_app t m, List.append_assoc]
theorem flatT_get : ∀ (l : List (Th × Value)) (i j : Nat) (p : Th × Value), l[i]? = some p → j < 4 → (flatT l)[i * 4 + j]? = (thCells p.1 p.2)[j]?
  | [], _, _, _, h, _ => by simp at h
  | q :: t, 0, j, p, h, hj => by
    simp only [List.getElem?_cons_zero, Option.some.injEq] at h
    subst h
    rw [flatT, List.getElem?_append_left (by simp [thCells]; omega), Nat.zero_mul, Nat.zero_add]
  | q :: t, i + 1, j, p, h, hj => by
    rw [flatT, List.getElem?_append_right (by simp [thCells]; omega), show (thCells q.1 q.2).length = 4 from rfl, show (i + 1) * 4 + j - 4 = i * 4 + j by omega]
    exact flatT_get t i j p (by simpa using h) hj
/-- A row of ints for these kids. -/
abbrev KRow (w : World) (B : Nat) (v : Value) (ks : List Nat) : Prop := w.ownsRow B 3 1 v ks.length (ks.map fun k : Nat => Value.int .i64 (k : Int))
/-- Things of the call's own. -/
structure OutAt (w : World) (B : Nat) (v : Value) (l : List (Th × Value)) : Prop where
  row : w.ownsRow B 53 4 v l.length (flatT l)
  kids : ∀ p ∈ l, KRow w B p.2 p.1.kids
  apart : l.Pairwise fun p q => ∀ k, p.2.ownBlock = some k → q.2.ownBlock ≠ some k
theorem OutAt.nil (w : World) (B : Nat) : OutAt w B (.slice none 0 0) [] := ⟨World.ownsRow_nil _ _ _ _, fun p hp => (by cases hp), List.Pairwise.nil⟩
theorem own_neT {w : World} {B n g : Nat} {v : Value} {xs : List Value} {cs : Array Value} (h : w.ownsRow B 3 1 v n xs) (hg : w.heap[g]? = some (.cells cs 53 (0, 0))) : v.ownBlock ≠ some g := by
  obtain ⟨_, ⟨rfl, _⟩ | ⟨k, cap, cur, rfl, _, hc, _⟩⟩ := h
  · intro e; cases e
  · intro e
    simp only [Value.ownBlock, Option.some.injEq] at e
    subst e
    rw [hc] at hg
    simp at hg
theorem row_neT {w : World} {B n m : Nat} {v u : Value} {xs ys : List Value} (h : w.ownsRow B 3 1 v n xs) (hu : w.ownsRow B 53 4 u m ys) : v.ownBlock = none ∨ v.ownBlock ≠ u.ownBlock := by
  obtain ⟨_, ⟨rfl, _⟩ | ⟨k, cap, cur, rfl, _, hc, _⟩⟩ := hu
  · cases hv : v.ownBlock
    · exact .inl rfl
    · exact .inr (by intro e; cases e)
  · exact .inr (own_neT h hc)
theorem row_neT2 {w : World} {B n m : Nat} {v u : Value} {xs ys : List Value} (h : w.ownsRow B 3 1 v n xs) (hu : w.ownsRow B 53 4 u m ys) : u.ownBlock = none ∨ u.ownBlock ≠ v.ownBlock := by
  rcases row_neT h hu with h1 | h1
  · cases hk : u.ownBlock
    · exact .inl rfl
    · exact .inr (by rw [h1]; intro e; cases e)
  · exact .inr (fun e => h1 e.symm)
/-- A world that grew by another row. -/
theorem OutAt.kept {w w' : World} {B : Nat} {v : Value} {l : List (Th × Value)} {row : Option Nat} (h : OutAt w B v l) (hg : w.grownBy w' row) (hv : v.ownBlock = none ∨ v.ownBlock ≠ row) (hk : ∀ p ∈ l, p.2.ownBlock = none ∨ p.2.ownBlock ≠ row) : OutAt w' B v l :=
  ⟨World.ownsRow.kept h.row hg hv, fun p hp => World.ownsRow.kept (h.kids p hp) hg (hk p hp), h.apart⟩
theorem OutAt.alloc {w : World} {B : Nat} {v : Value} {l : List (Th × Value)} (h : OutAt w B v l) (o : Obj) : OutAt (w.alloc o) B v l :=
  h.kept (World.grownBy_alloc w o none) (by cases v.ownBlock <;> simp) (fun p _ => by cases p.2.ownBlock <;> simp)
theorem OutAt.below {w w' : World} {B : Nat} {v : Value} {l : List (Th × Value)} (h : OutAt w B v l) (hb : Below w.heap.size w w') : OutAt w' B v l :=
  ⟨own_below h.row hb, fun p hp => own_below (h.kids p hp) hb, h.apart⟩
theorem own_neB {w : World} {B n e size : Nat} {v : Value} {xs : List Value} (h : w.ownsRow B e size v n xs) {a : Nat} (ha : a < B) : v.ownBlock ≠ some a := fun e2 => by
  have := (World.ownsRow.lt h a e2).1
  omega
/-- A store elsewhere. -/
theorem OutAt.other {w : World} {B : Nat} {v : Value} {l : List (Th × Value)} (h : OutAt w B v l) {a : Addr} (hv : v.ownBlock ≠ some a.block) (hk : ∀ p ∈ l, p.2.ownBlock ≠ some a.block) (u : Value) : OutAt (w.setCell a u) B v l :=
  ⟨ownsRow_setCell_other h.row hv u, fun p hp => ownsRow_setCell_other (h.kids p hp) (hk p hp) u, h.apart⟩
/-- One thing more. -/
theorem OutAt.snoc {w w' : World} {B : Nat} {v v' : Value} {l : List (Th × Value)} {p : Th × Value} (h : OutAt w B v l) (hp : KRow w B p.2 p.1.kids) (hap : ∀ q ∈ l, ∀ k, q.2.ownBlock = some k → p.2.ownBlock ≠ some k) (hg : w.grownBy w' v.ownBlock)
    (hrow : w'.ownsRow B 53 4 v' (l.length + 1) (flatT l ++ thCells p.1 p.2)) : OutAt w' B v' (l ++ [p]) := by
  refine ⟨?_, fun q hq => ?_, ?_⟩
  · rw [List.length_append, flatT_app]
    simpa [flatT] using hrow
  · rcases List.mem_append.1 hq with hq | hq
    · exact World.ownsRow.kept (h.kids q hq) hg (row_neT (h.kids q hq) h.row)
    · rw [List.mem_singleton] at hq
      subst hq
      exact World.ownsRow.kept hp hg (row_neT hp h.row)
  · rw [List.pairwise_append]
    refine ⟨h.apart, List.pairwise_singleton _ _, fun q hq r hr => ?_⟩
    rw [List.mem_singleton] at hr
    subst hr
    exact hap q hq
theorem OutAt.shape {w : World} {B : Nat} {v : Value} {l : List (Th × Value)} (h : OutAt w B v l) : ∃ A c, v = .slice A l.length c := by
  obtain ⟨_, ⟨rfl, h0⟩ | ⟨g, cap, cur, rfl, _⟩⟩ := h.row
  · exact ⟨none, 0, by rw [h0]⟩
  · exact ⟨_, _, rfl⟩
theorem KRow.shape {w : World} {B : Nat} {v : Value} {ks : List Nat} (h : KRow w B v ks) : ∃ A c, v = .slice A ks.length c := by
  obtain ⟨_, ⟨rfl, h0⟩ | ⟨g, cap, cur, rfl, _⟩⟩ := h
  · exact ⟨none, 0, by rw [h0]⟩
  · exact ⟨_, _, rfl⟩
theorem info_thing : (Tryd.prog.info? 53).map (fun i => (i.zero, i.size, i.bytes)) = some (some (.agg #[.int .i64 0, .string ⟨#[]⟩, .string ⟨#[]⟩, .slice none 0 0]), 4, 64) := by kernel_rfl
end Go.Proofs.YtmindclciogneaaDoor
