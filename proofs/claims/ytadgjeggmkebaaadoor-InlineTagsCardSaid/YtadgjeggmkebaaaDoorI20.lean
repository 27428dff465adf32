/- bytes.ContainsAny at "\r\n". -/
import Derived.Test.YtadgjeggmkebaaaDoorI14
import Derived.Test.YtadgjeggmkebaaaDoorC7
namespace Go.Proofs.YtadgjeggmkebaaaDoor
open Go.RowKit

def crlfB (l : Bs) : Bool := l.any fun c => c == 13 || c == 10
theorem crlf_has (x : UInt8) : ([13, 10] : Bs).contains x = (x == 13 || x == 10) := by
  rw [Bool.eq_iff_iff]
  simp
theorem zeroSet : ∀ w, (zeroValue 140).run Tryd.prog w = .ok (.agg (Array.replicate 256 (.bool false))) w := fun w => by kernel_rfl
theorem zeroCellsSet : Tryd.zeroCells140 = Array.replicate 256 (.bool false) := by kernel_rfl
theorem infoSet : (Tryd.prog.info? 140).map (·.size) = some 256 := by kernel_rfl
theorem mkset_any (w : World) : Calls Tryd.prog 110 #[.string ⟨#[13, 10]⟩] w fun e w' => e = .returned (.tuple #[.agg (Lib.setCells [13, 10]), .bool true]) ∧ w' = w.alloc (.cells (Lib.setCells [13, 10]) 140) :=
  Any.bytes_makeASCIISet { Tryd.lays_bytes_TrimLeft with } zeroSet infoSet ⟨#[13, 10]⟩ w (by decide) (by
    intro j b h
    match j with
    | 0 => simp at h; subst h; decide
    | 1 => simp at h; subst h; decide
    | j + 2 => simp at h)
theorem has_any (b : Nat) (x : UInt8) (v : Bool) (w : World) (hc : w.cell? ⟨b, x.toNat, none⟩ = some (.bool v)) :
    Calls Tryd.prog 111 #[.pointer (some ⟨b, 0, none⟩), .int .u8 x.toNat] w fun e w' => e = .returned (.bool v) ∧ w' = w :=
  Any.bytes_asciiSet_contains { Tryd.lays_bytes_TrimLeft with } b x v w hc
theorem should_yes (n : Int) (w : World) (h : 8 < n) : Calls Tryd.prog 109 #[.int .i64 n] w fun e w' => e = .returned (.bool true) ∧ w' = w := by
  go_enter Tryd.func109, Tryd.ntmps109
  go_wp2
  go_ret
  exact ⟨rfl, rfl⟩
theorem should_no (n : Int) (w : World) (h : n ≤ 8) : Calls Tryd.prog 109 #[.int .i64 n] w fun e w' => e = .returned (.bool false) ∧ w' = w := by
  go_enter Tryd.func109, Tryd.ntmps109
  go_wp2
  go_ret
  exact ⟨ret_bool (a := decide (8 < n)) (by simp; omega), rfl⟩
/-- Is a byte of the first k a break? -/
theorem crlf_take (l : Bs) (k : Nat) (h : k < l.length) : crlfB (l.take (k + 1)) = (crlfB (l.take k) || (l.getD k 0 == 13 || l.getD k 0 == 10)) := by
  unfold crlfB
  rw [List.take_succ_eq_append_getElem h, List.any_append]
  simp [List.getD_eq_getElem?_getD, List.getElem?_eq_getElem h]
theorem crlf_mono (l : Bs) (k : Nat) (h : crlfB (l.take k) = true) : crlfB l = true := by
  unfold crlfB at *
  rw [List.any_eq_true] at *
  obtain ⟨x, hx, h2⟩ := h
  exact ⟨x, List.mem_of_mem_take hx, h2⟩

set_option maxRecDepth 20000 in
set_option maxHeartbeats 1000000 in
theorem iany_long (A : Option Addr) (c : Nat) (l : Bs) (w : World) (h : BA w A l) (_hlc : l.length ≤ c) (hl : l.length ≤ 1000000) (h8 : 8 < l.length) :
    Calls Tryd.prog 85 #[.slice A l.length c, .string ⟨#[13, 10]⟩] w fun e w' => (∃ z : Int, e = .returned (.int .i64 z) ∧ -1 ≤ z ∧ z ≤ 1000000 ∧ decide (z ≥ 0) = crlfB l) ∧ Below w.heap.size w w' := by
  have hM := mkset_any w
  have hsc : (storeCells ⟨w.heap.size + 1, 0, none⟩ (Lib.setCells [13, 10]).toList 0).run Tryd.prog ((w.alloc (.cells (Lib.setCells [13, 10]) 140)).alloc (.cells (Array.replicate 256 (.bool false)) 140)) = .ok () ((w.alloc (.cells (Lib.setCells [13, 10]) 140)).alloc (.cells (Lib.setCells [13, 10]) 140)) := by
    have := run_storeCells_new (P := Tryd.prog) (w.alloc (.cells (Lib.setCells [13, 10]) 140)) 140 (Array.replicate 256 (.bool false)) (Lib.setCells [13, 10]) (by rw [Lib.setCells_size]; exact infoSet) (by rw [Lib.setCells_size, Array.size_replicate]) (Lib.setCells_one _)
    simpa using this
  have hsz := Lib.setCells_size [13, 10]
  have hcellAt : ∀ x : UInt8, ((w.alloc (.cells (Lib.setCells [13, 10]) 140)).alloc (.cells (Lib.setCells [13, 10]) 140)).cell? ⟨w.heap.size + 1, x.toNat, none⟩ = some (.bool (([13, 10] : Bs).contains x)) := fun x => by
    rw [World.cell?_alloc_at _ _ _ _ (by simp), Lib.setCells_at]
  have hB2 : Below w.heap.size w ((w.alloc (.cells (Lib.setCells [13, 10]) 140)).alloc (.cells (Lib.setCells [13, 10]) 140)) := ((Below.refl _ _).alloc (Nat.le_refl _) _).alloc (by simp) _
  have h1 := h.below hB2
  have hn1 : ((l.length : Int) == 1) = false := beq_eq_false_iff_ne.2 (by omega)
  have hn8 : (8 : Int) < l.length := by omega
  have HC := Lib.hid hcellAt
  clear hcellAt
  go_enter Tryd.func85, Tryd.ntmps85
  go_wp2_with (go_at_call 109; refine (should_yes _ _ hn8).mono ?_; rintro e w' ⟨rfl, hw⟩; rw [hw])
  refine hM.mono ?_
  rintro e w' ⟨rfl, hw⟩
  rw [hw]
  go_wp2_with fail
  simp only [Result.andThen, zeroCellsSet, hsc]
  rw [Oper.upon_skip]
  clear hM hsc hw h
  obtain ⟨w1, hw1⟩ : ∃ w1, (w.alloc (.cells (Lib.setCells [13, 10]) 140)).alloc (.cells (Lib.setCells [13, 10]) 140) = w1 := ⟨_, rfl⟩
  rw [hw1] at h1 hB2 HC ⊢
  clear hw1
  go_wp2_with fail
  go_loop [62] (fun i => ∃ k : Nat, i = .int .i64 k ∧ k ≤ l.length ∧ crlfB (l.take k) = false) (fun i => l.length - (intOf i).toNat)
  case atStart => exact ⟨0, rfl, Nat.zero_le _, rfl⟩
  case round =>
    obtain ⟨k, rfl, hk, hK⟩ := hrel
    by_cases hlt : k < l.length
    · have hltb : (k : Int) < l.length := by omega
      obtain ⟨g, o, rfl, hcell⟩ := h1.at k hlt
      have ht := crlf_take l k hlt
      rw [hK, Bool.false_or, ← crlf_has] at ht
      have hc2 := HC.out (l.getD k 0)
      have ch := has_any (w.heap.size + 1) (l.getD k 0) _ w1 hc2
      have HT := Lib.hid ht
      have HM : Hid (crlfB (l.take (k + 1)) = true → crlfB l = true) := Lib.hid (crlf_mono l (k + 1))
      clear hK ht hc2 h1
      generalize l.getD k 0 = x at *
      generalize ([13, 10] : Bs).contains x = q at *
      cases q
      · go_wp2_with fail
        refine ch.mono ?_
        rintro e w' ⟨rfl, hw⟩
        rw [hw]
        go_wp2
        go_round
        case rel => exact ⟨k + 1, by go_num, by omega, HT.out⟩
        case measure => simp [intOf]; omega
      · have HF := Lib.hid (HM.out HT.out)
        go_wp2_with fail
        refine ch.mono ?_
        rintro e w' ⟨rfl, hw⟩
        rw [hw]
        go_wp2
        go_ret
        exact ⟨⟨k, rfl, by omega, by omega, by rw [HF.out]; simp⟩, hB2⟩
    · have hltb : (l.length : Int) ≤ k := by omega
      have HF : Hid (crlfB l = false) := Lib.hid (by rw [← hK, List.take_of_length_le (by omega)])
      clear hK h1
      go_wp2
      go_ret
      exact ⟨⟨-1, rfl, by omega, by omega, by rw [HF.out]; rfl⟩, hB2⟩

theorem run_ibs (s : ByteArray) (x : UInt8) (w : World) : (callFunc 107 #[.string s, .int .u8 (x.toNat : Int)]).run Tryd.prog w = .ok (.value (.int .i64 (Lib.indexByte s.data.toList x))) w := by
  have e : ((x.toNat : Int).toNat.toUInt8) = x := by simp
  have h : (callFunc 107 #[.string s, .int .u8 (x.toNat : Int)]).run Tryd.prog w = .ok (.value (.int .i64 (Lib.indexByte s.data.toList (x.toNat : Int).toNat.toUInt8))) w := by
    refine (run_callFunc_extern Tryd.lays217.f266 (by kernel_rfl) (by kernel_rfl) (by kernel_rfl) (e := Extern.BytealgIndexByte.indexByte) (by kernel_rfl) _ w).trans ?_
    rw [Lib.run_indexByteString]
    rfl
  rw [h, e]

set_option maxRecDepth 20000 in
set_option maxHeartbeats 1000000 in
theorem iany_short (A : Option Addr) (c : Nat) (l : Bs) (w : World) (h : BA w A l) (hlc : l.length ≤ c) (h8 : l.length ≤ 8) (ha : ∀ k, k < l.length → (l.getD k 0).toNat < 128) :
    Calls Tryd.prog 85 #[.slice A l.length c, .string ⟨#[13, 10]⟩] w fun e w' => (∃ z : Int, e = .returned (.int .i64 z) ∧ -1 ≤ z ∧ z ≤ 1000000 ∧ decide (z ≥ 0) = crlfB l) ∧ Below w.heap.size w w' := by
  have hn8 : (l.length : Int) ≤ 8 := by omega
  by_cases h1 : l.length = 1
  · obtain ⟨x, rfl⟩ : ∃ x, l = [x] := by
      match l, h1 with
      | [x], _ => exact ⟨x, rfl⟩
    obtain ⟨g, o, rfl, hcell⟩ := h.at 0 (by simp)
    have hx := ha 0 (by simp)
    have hcell : w.cell? ⟨g, o, none⟩ = some (.int .u8 x.toNat) := hcell
    have hx : x.toNat < 128 := hx
    have hx2 : (x.toNat : Int) < 128 := by omega
    have hib : ∀ W, (callFunc 107 #[.string ⟨#[13, 10]⟩, .int .u8 (x.toNat : Int)]).run Tryd.prog W = .ok (.value (.int .i64 (Lib.indexByte [13, 10] x))) W := fun W => run_ibs ⟨#[13, 10]⟩ x W
    have ht : crlfB [x] = decide (0 ≤ Lib.indexByte [13, 10] x) := by
      rw [← Lib.contains_iff_indexByte, crlf_has]
      simp [crlfB]
    have HT := Lib.hid ht
    clear h1 ha h ht hx hn8 h8 hlc
    generalize Lib.indexByte [13, 10] x = z at *
    go_enter Tryd.func85, Tryd.ntmps85
    by_cases hz : 0 ≤ z
    · have HF : Hid (crlfB [x] = true) := Lib.hid (by rw [HT.out]; exact decide_eq_true hz)
      go_wp2
      go_ret
      exact ⟨⟨0, rfl, by omega, by omega, by rw [HF.out]; rfl⟩, Below.refl _ _⟩
    · have HF : Hid (crlfB [x] = false) := Lib.hid (by rw [HT.out]; exact decide_eq_false hz)
      have hz2 : z < 0 := by omega
      clear hz
      go_wp2
      go_ret
      exact ⟨⟨-1, rfl, by omega, by omega, by rw [HF.out]; rfl⟩, Below.refl _ _⟩
  · have hn1 : ((l.length : Int) == 1) = false := beq_eq_false_iff_ne.2 (by omega)
    have HA := Lib.hid ha
    clear h1 ha
    go_enter Tryd.func85, Tryd.ntmps85
    go_wp2_with (go_at_call 109; refine (should_no _ _ hn8).mono ?_; rintro e w' ⟨rfl, hw⟩; rw [hw])
    go_loop [12, 11] (fun i wd => ∃ k : Nat, i = .int .i64 k ∧ k ≤ l.length ∧ crlfB (l.take k) = false) (fun i _ => l.length - (intOf i).toNat)
    case atStart => exact ⟨0, rfl, Nat.zero_le _, rfl⟩
    case round =>
      obtain ⟨k, rfl, hk, hK⟩ := hrel
      by_cases hlt : k < l.length
      · have hltb : (k : Int) < l.length := by omega
        obtain ⟨g, o, rfl, hcell⟩ := h.at k hlt
        have hx := HA.out k hlt
        have hx2 : ((l.getD k 0).toNat : Int) < 128 := by omega
        have ht := crlf_take l k hlt
        rw [hK, Bool.false_or, ← crlf_has, Lib.contains_iff_indexByte] at ht
        have HT := Lib.hid ht
        have HM : Hid (crlfB (l.take (k + 1)) = true → crlfB l = true) := Lib.hid (crlf_mono l (k + 1))
        clear hK ht h hx
        have hib := fun W => run_ibs ⟨#[13, 10]⟩ (l.getD k 0) W
        have hL : Lib.indexByte ([13, 10] : Bs) (l.getD k 0) < 1000 := by have h1 := indexByte_lt [13, 10] (l.getD k 0); have h2 : (([13, 10] : Bs).length : Int) = 2 := rfl; omega
        have hG := Lib.indexByte_ge ([13, 10] : Bs) (l.getD k 0)
        generalize l.getD k 0 = x at *
        have hib : ∀ W, (callFunc 107 #[.string ⟨#[13, 10]⟩, .int .u8 (x.toNat : Int)]).run Tryd.prog W = .ok (.value (.int .i64 (Lib.indexByte [13, 10] x))) W := hib
        generalize Lib.indexByte [13, 10] x = z at *
        by_cases hz : 0 ≤ z
        · have HF : Hid (crlfB l = true) := Lib.hid (HM.out (by rw [HT.out]; exact decide_eq_true hz))
          go_wp2
          go_ret
          exact ⟨⟨k, rfl, by omega, by omega, by rw [HF.out]; simp⟩, Below.refl _ _⟩
        · have HF : Hid (crlfB (l.take (k + 1)) = false) := Lib.hid (by rw [HT.out]; exact decide_eq_false hz)
          have hz2 : z < 0 := by omega
          clear hz
          go_wp2
          go_round
          case rel => exact ⟨k + 1, by go_num, by omega, HF.out⟩
          case measure => simp [intOf]; omega
      · have hltb : (l.length : Int) ≤ k := by omega
        have HF : Hid (crlfB l = false) := Lib.hid (by rw [← hK, List.take_of_length_le (by omega)])
        clear hK h
        go_wp2
        go_ret
        exact ⟨⟨-1, rfl, by omega, by omega, by rw [HF.out]; rfl⟩, Below.refl _ _⟩
theorem cany_any (A : Option Addr) (c : Nat) (l : Bs) (w : World) (h : BA w A l) (hlc : l.length ≤ c) (hl : l.length ≤ 1000000) (h8 : 8 < l.length ∨ ∀ k, k < l.length → (l.getD k 0).toNat < 128) :
    Calls Tryd.prog 52 #[.slice A l.length c, .string ⟨#[13, 10]⟩] w fun e w' => e = .returned (.bool (crlfB l)) ∧ Below w.heap.size w w' := by
  have ci : Calls Tryd.prog 85 #[.slice A l.length c, .string ⟨#[13, 10]⟩] w fun e w' => (∃ z : Int, e = .returned (.int .i64 z) ∧ -1 ≤ z ∧ z ≤ 1000000 ∧ decide (z ≥ 0) = crlfB l) ∧ Below w.heap.size w w' := by
    by_cases h9 : 8 < l.length
    · exact iany_long A c l w h hlc hl h9
    · exact iany_short A c l w h hlc (by omega) (h8.resolve_left h9)
  clear h h8
  generalize crlfB l = V at *
  go_enter Tryd.func52, Tryd.ntmps52
  go_wp2_with fail
  refine ci.mono ?_
  rintro e w1 ⟨⟨z, rfl, hz1, hz2, hz3⟩, hb⟩
  have HZ := Lib.hid hz3
  clear hz3 ci
  go_wp2
  go_ret
  exact ⟨ret_bool (a := decide (0 ≤ z)) HZ.out, hb⟩
end Go.Proofs.YtadgjeggmkebaaaDoor
