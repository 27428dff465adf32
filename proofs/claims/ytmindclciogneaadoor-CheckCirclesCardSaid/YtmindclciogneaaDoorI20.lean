/- bytes.ContainsAny at "\r\n". -/
import Derived.Test.YtmindclciogneaaDoorI14
import Derived.Test.YtmindclciogneaaDoorC7
import Derived.Test.YtmindclciogneaaDoorC5
import Derived.Test.YtmindclciogneaaDoorD1
import Derived.Lib.MapLaws
import Derived.Lib.TrimUEq
import Derived.Lib.IndexEntry
import Derived.Shelf.Vars
namespace Go.Proofs.YtmindclciogneaaDoor
open Go.RowKit

def crlfB (l : Bs) : Bool := l.any fun c => c == 13 || c == 10
theorem crlf_has (x : UInt8) : ([13, 10] : Bs).contains x = (x == 13 || x == 10) := by
  rw [Bool.eq_iff_iff]
  simp
theorem zeroSet : ∀ w, (zeroValue 152).run Tryd.prog w = .ok (.agg (Array.replicate 256 (.bool false))) w := fun w => by kernel_rfl
theorem zeroCellsSet : Tryd.zeroCells152 = Array.replicate 256 (.bool false) := by kernel_rfl
theorem infoSet : (Tryd.prog.info? 152).map (·.size) = some 256 := by kernel_rfl
theorem mkset_any (w : World) : Calls Tryd.prog 112 #[.string ⟨#[13, 10]⟩] w fun e w' => e = .returned (.tuple #[.agg (Lib.setCells [13, 10]), .bool true]) ∧ w' = w.alloc (.cells (Lib.setCells [13, 10]) 152) :=
  Any.bytes_makeASCIISet { Tryd.lays_bytes_TrimLeft with } zeroSet infoSet ⟨#[13, 10]⟩ w (by decide) (by
    intro j b h
    match j with
    | 0 => simp at h; subst h; decide
    | 1 => simp at h; subst h; decide
    | j + 2 => simp at h)
theorem has_any (b : Nat) (x : UInt8) (v : Bool) (w : World) (hc : w.cell? ⟨b, x.toNat, none⟩ = some (.bool v)) :
    Calls Tryd.prog 113 #[.pointer (some ⟨b, 0, none⟩), .int .u8 x.toNat] w fun e w' => e = .returned (.bool v) ∧ w' = w :=
  Any.bytes_asciiSet_contains { Tryd.lays_bytes_TrimLeft with } b x v w hc
theorem should_yes (n : Int) (w : World) (h : 8 < n) : Calls Tryd.prog 111 #[.int .i64 n] w fun e w' => e = .returned (.bool true) ∧ w' = w := by
  go_enter Tryd.func111, Tryd.ntmps111
  go_wp2
  go_ret
  exact ⟨rfl, rfl⟩
theorem should_no (n : Int) (w : World) (h : n ≤ 8) : Calls Tryd.prog 111 #[.int .i64 n] w fun e w' => e = .returned (.bool false) ∧ w' = w := by
  go_enter Tryd.func111, Tryd.ntmps111
  go_wp2
  go_ret
  exact ⟨ret_bool (a := decide (8 < n)) (by simp; omega), rfl⟩
/-- Is a byte of the first k a break? -/
theorem crlf_take (l : Bs) (k : Nat) (h : k < l.length) : crlfB (l.take (k + 1)) = (crlfB (l.take k) || (l.getD k 0 == 13 || l.getD k 0 == 10)) := by
  unfold crlfB
  rw [List.take_succ_eq_append_getElem h, List.any_append]
  simp [List.getD_eq_getElem?_getD, List.getElem?_eq_getElem h]
theorem crlf_mono (l : Bs) (k : Nat) (h : crlfB (l.take k) = true) : crlfB l = true := by
  unfold crlfB at *
  rw [List.any_eq_true] at *
  obtain ⟨x, hx, h2⟩ := h
  exact ⟨x, List.mem_of_mem_take hx, h2⟩

set_option maxRecDepth 20000 in
set_option maxHeartbeats 1000000 in
theorem iany_long (A : Option Addr) (c : Nat) (l : Bs) (w : World) (h : BA w A l) (_hlc : l.length ≤ c) (hl : l.length ≤ 1000000) (h8 : 8 < l.length) :
    Calls Tryd.prog 74 #[.slice A l.length c, .string ⟨#[13, 10]⟩] w fun e w' => (∃ z : Int, e = .returned (.int .i64 z) ∧ -1 ≤ z ∧ z ≤ 1000000 ∧ decide (z ≥ 0) = crlfB l) ∧ Below w.heap.size w w' := by
  have hM := mkset_any w
  have hsc : (storeCells ⟨w.heap.size + 1, 0, none⟩ (Lib.setCells [13, 10]).toList 0).run Tryd.prog ((w.alloc (.cells (Lib.setCells [13, 10]) 152)).alloc (.cells (Array.replicate 256 (.bool false)) 152)) = .ok () ((w.alloc (.cells (Lib.setCells [13, 10]) 152)).alloc (.cells (Lib.setCells [13, 10]) 152)) := by
    have := run_storeCells_new (P := Tryd.prog) (w.alloc (.cells (Lib.setCells [13, 10]) 152)) 152 (Array.replicate 256 (.bool false)) (Lib.setCells [13, 10]) (by rw [Lib.setCells_size]; exact infoSet) (by rw [Lib.setCells_size, Array.size_replicate]) (Lib.setCells_one _)
    simpa using this
  have hsz := Lib.setCells_size [13, 10]
  have hcellAt : ∀ x : UInt8, ((w.alloc (.cells (Lib.setCells [13, 10]) 152)).alloc (.cells (Lib.setCells [13, 10]) 152)).cell? ⟨w.heap.size + 1, x.toNat, none⟩ = some (.bool (([13, 10] : Bs).contains x)) := fun x => by
    rw [World.cell?_alloc_at _ _ _ _ (by simp), Lib.setCells_at]
  have hB2 : Below w.heap.size w ((w.alloc (.cells (Lib.setCells [13, 10]) 152)).alloc (.cells (Lib.setCells [13, 10]) 152)) := ((Below.refl _ _).alloc (Nat.le_refl _) _).alloc (by simp) _
  have h1 := h.below hB2
  have hn1 : ((l.length : Int) == 1) = false := beq_eq_false_iff_ne.2 (by omega)
  have hn8 : (8 : Int) < l.length := by omega
  have HC := Lib.hid hcellAt
  clear hcellAt
  go_enter Tryd.func74, Tryd.ntmps74
  go_wp2_with (go_at_call 111; refine (should_yes _ _ hn8).mono ?_; rintro e w' ⟨rfl, hw⟩; rw [hw])
  refine hM.mono ?_
  rintro e w' ⟨rfl, hw⟩
  rw [hw]
  go_wp2_with fail
  simp only [Result.andThen, zeroCellsSet, hsc]
  rw [Oper.upon_skip]
  clear hM hsc hw h
  obtain ⟨w1, hw1⟩ : ∃ w1, (w.alloc (.cells (Lib.setCells [13, 10]) 152)).alloc (.cells (Lib.setCells [13, 10]) 152) = w1 := ⟨_, rfl⟩
  rw [hw1] at h1 hB2 HC ⊢
  clear hw1
  go_wp2_with fail
  go_loop [62] (fun i => ∃ k : Nat, i = .int .i64 k ∧ k ≤ l.length ∧ crlfB (l.take k) = false) (fun i => l.length - (intOf i).toNat)
  case atStart => exact ⟨0, rfl, Nat.zero_le _, rfl⟩
  case round =>
    obtain ⟨k, rfl, hk, hK⟩ := hrel
    by_cases hlt : k < l.length
    · have hltb : (k : Int) < l.length := by omega
      obtain ⟨g, o, rfl, hcell⟩ := h1.at k hlt
      have ht := crlf_take l k hlt
      rw [hK, Bool.false_or, ← crlf_has] at ht
      have hc2 := HC.out (l.getD k 0)
      have ch := has_any (w.heap.size + 1) (l.getD k 0) _ w1 hc2
      have HT := Lib.hid ht
      have HM : Hid (crlfB (l.take (k + 1)) = true → crlfB l = true) := Lib.hid (crlf_mono l (k + 1))
      clear hK ht hc2 h1
      generalize l.getD k 0 = x at *
      generalize ([13, 10] : Bs).contains x = q at *
      cases q
      · go_wp2_with fail
        refine ch.mono ?_
        rintro e w' ⟨rfl, hw⟩
        rw [hw]
        go_wp2
        go_round
        case rel => exact ⟨k + 1, by go_num, by omega, HT.out⟩
        case measure => simp [intOf]; omega
      · have HF := Lib.hid (HM.out HT.out)
        go_wp2_with fail
        refine ch.mono ?_
        rintro e w' ⟨rfl, hw⟩
        rw [hw]
        go_wp2
        go_ret
        exact ⟨⟨k, rfl, by omega, by omega, by rw [HF.out]; simp⟩, hB2⟩
    · have hltb : (l.length : Int) ≤ k := by omega
      have HF : Hid (crlfB l = false) := Lib.hid (by rw [← hK, List.take_of_length_le (by omega)])
      clear hK h1
      go_wp2
      go_ret
      exact ⟨⟨-1, rfl, by omega, by omega, by rw [HF.out]; rfl⟩, hB2⟩

theorem run_ibs (s : ByteArray) (x : UInt8) (w : World) : (callFunc 109 #[.string s, .int .u8 (x.toNat : Int)]).run Tryd.prog w = .ok (.value (.int .i64 (Lib.indexByte s.data.toList x))) w := by
  have e : ((x.toNat : Int).toNat.toUInt8) = x := by simp
  have h : (callFunc 109 #[.string s, .int .u8 (x.toNat : Int)]).run Tryd.prog w = .ok (.value (.int .i64 (Lib.indexByte s.data.toList (x.toNat : Int).toNat.toUInt8))) w := by
    refine (run_callFunc_extern Tryd.lays217.f266 (by kernel_rfl) (by kernel_rfl) (by kernel_rfl) (e := Extern.BytealgIndexByte.indexByte) (by kernel_rfl) _ w).trans ?_
    rw [Lib.run_indexByteString]
    rfl
  rw [h, e]

set_option maxRecDepth 20000 in
set_option maxHeartbeats 1000000 in
theorem iany_short (A : Option Addr) (c : Nat) (l : Bs) (w : World) (h : BA w A l) (hlc : l.length ≤ c) (h8 : l.length ≤ 8) (ha : ∀ k, k < l.length → (l.getD k 0).toNat < 128) :
    Calls Tryd.prog 74 #[.slice A l.length c, .string ⟨#[13, 10]⟩] w fun e w' => (∃ z : Int, e = .returned (.int .i64 z) ∧ -1 ≤ z ∧ z ≤ 1000000 ∧ decide (z ≥ 0) = crlfB l) ∧ Below w.heap.size w w' := by
  have hn8 : (l.length : Int) ≤ 8 := by omega
  by_cases h1 : l.length = 1
  · obtain ⟨x, rfl⟩ : ∃ x, l = [x] := by
      match l, h1 with
      | [x], _ => exact ⟨x, rfl⟩
    obtain ⟨g, o, rfl, hcell⟩ := h.at 0 (by simp)
    have hx := ha 0 (by simp)
    have hcell : w.cell? ⟨g, o, none⟩ = some (.int .u8 x.toNat) := hcell
    have hx : x.toNat < 128 := hx
    have hx2 : (x.toNat : Int) < 128 := by omega
    have hib : ∀ W, (callFunc 109 #[.string ⟨#[13, 10]⟩, .int .u8 (x.toNat : Int)]).run Tryd.prog W = .ok (.value (.int .i64 (Lib.indexByte [13, 10] x))) W := fun W => run_ibs ⟨#[13, 10]⟩ x W
    have ht : crlfB [x] = decide (0 ≤ Lib.indexByte [13, 10] x) := by
      rw [← Lib.contains_iff_indexByte, crlf_has]
      simp [crlfB]
    have HT := Lib.hid ht
    clear h1 ha h ht hx hn8 h8 hlc
    generalize Lib.indexByte [13, 10] x = z at *
    go_enter Tryd.func74, Tryd.ntmps74
    by_cases hz : 0 ≤ z
    · have HF : Hid (crlfB [x] = true) := Lib.hid (by rw [HT.out]; exact decide_eq_true hz)
      go_wp2
      go_ret
      exact ⟨⟨0, rfl, by omega, by omega, by rw [HF.out]; rfl⟩, Below.refl _ _⟩
    · have HF : Hid (crlfB [x] = false) := Lib.hid (by rw [HT.out]; exact decide_eq_false hz)
      have hz2 : z < 0 := by omega
      clear hz
      go_wp2
      go_ret
      exact ⟨⟨-1, rfl, by omega, by omega, by rw [HF.out]; rfl⟩, Below.refl _ _⟩
  · have hn1 : ((l.length : Int) == 1) = false := beq_eq_false_iff_ne.2 (by omega)
    have HA := Lib.hid ha
    clear h1 ha
    go_enter Tryd.func74, Tryd.ntmps74
    go_wp2_with (go_at_call 111; refine (should_no _ _ hn8).mono ?_; rintro e w' ⟨rfl, hw⟩; rw [hw])
    go_loop [12, 11] (fun i wd => ∃ k : Nat, i = .int .i64 k ∧ k ≤ l.length ∧ crlfB (l.take k) = false) (fun i _ => l.length - (intOf i).toNat)
    case atStart => exact ⟨0, rfl, Nat.zero_le _, rfl⟩
    case round =>
      obtain ⟨k, rfl, hk, hK⟩ := hrel
      by_cases hlt : k < l.length
      · have hltb : (k : Int) < l.length := by omega
        obtain ⟨g, o, rfl, hcell⟩ := h.at k hlt
        have hx := HA.out k hlt
        have hx2 : ((l.getD k 0).toNat : Int) < 128 := by omega
        have ht := crlf_take l k hlt
        rw [hK, Bool.false_or, ← crlf_has, Lib.contains_iff_indexByte] at ht
        have HT := Lib.hid ht
        have HM : Hid (crlfB (l.take (k + 1)) = true → crlfB l = true) := Lib.hid (crlf_mono l (k + 1))
        clear hK ht h hx
        have hib := fun W => run_ibs ⟨#[13, 10]⟩ (l.getD k 0) W
        have hL : Lib.indexByte ([13, 10] : Bs) (l.getD k 0) < 1000 := by have h1 := indexByte_lt [13, 10] (l.getD k 0); have h2 : (([13, 10] : Bs).length : Int) = 2 := rfl; omega
        have hG := Lib.indexByte_ge ([13, 10] : Bs) (l.getD k 0)
        generalize l.getD k 0 = x at *
        have hib : ∀ W, (callFunc 109 #[.string ⟨#[13, 10]⟩, .int .u8 (x.toNat : Int)]).run Tryd.prog W = .ok (.value (.int .i64 (Lib.indexByte [13, 10] x))) W := hib
        generalize Lib.indexByte [13, 10] x = z at *
        by_cases hz : 0 ≤ z
        · have HF : Hid (crlfB l = true) := Lib.hid (HM.out (by rw [HT.out]; exact decide_eq_true hz))
          go_wp2
          go_ret
          exact ⟨⟨k, rfl, by omega, by omega, by rw [HF.out]; simp⟩, Below.refl _ _⟩
        · have HF : Hid (crlfB (l.take (k + 1)) = false) := Lib.hid (by rw [HT.out]; exact decide_eq_false hz)
          have hz2 : z < 0 := by omega
          clear hz
          go_wp2
          go_round
          case rel => exact ⟨k + 1, by go_num, by omega, HF.out⟩
          case measure => simp [intOf]; omega
      · have hltb : (l.length : Int) ≤ k := by omega
        have HF : Hid (crlfB l = false) := Lib.hid (by rw [← hK, List.take_of_length_le (by omega)])
        clear hK h
        go_wp2
        go_ret
        exact ⟨⟨-1, rfl, by omega, by omega, by rw [HF.out]; rfl⟩, Below.refl _ _⟩
theorem cany_any (A : Option Addr) (c : Nat) (l : Bs) (w : World) (h : BA w A l) (hlc : l.length ≤ c) (hl : l.length ≤ 1000000) (h8 : 8 < l.length ∨ ∀ k, k < l.length → (l.getD k 0).toNat < 128) :
    Calls Tryd.prog 36 #[.slice A l.length c, .string ⟨#[13, 10]⟩] w fun e w' => e = .returned (.bool (crlfB l)) ∧ Below w.heap.size w w' := by
  have ci : Calls Tryd.prog 74 #[.slice A l.length c, .string ⟨#[13, 10]⟩] w fun e w' => (∃ z : Int, e = .returned (.int .i64 z) ∧ -1 ≤ z ∧ z ≤ 1000000 ∧ decide (z ≥ 0) = crlfB l) ∧ Below w.heap.size w w' := by
    by_cases h9 : 8 < l.length
    · exact iany_long A c l w h hlc hl h9
    · exact iany_short A c l w h hlc (by omega) (h8.resolve_left h9)
  clear h h8
  generalize crlfB l = V at *
  go_enter Tryd.func36, Tryd.ntmps36
  go_wp2_with fail
  refine ci.mono ?_
  rintro e w1 ⟨⟨z, rfl, hz1, hz2, hz3⟩, hb⟩
  have HZ := Lib.hid hz3
  clear hz3 ci
  go_wp2
  go_ret
  exact ⟨ret_bool (a := decide (0 ≤ z)) HZ.out, hb⟩
end Go.Proofs.YtmindclciogneaaDoor

/- bytes.IndexAny at "\r\n" of short texts, runes beyond ASCII too. -/
namespace Go.Proofs.YtmindclciogneaaDoor
open Go.RowKit

/-- internal/bytealg.MaxLen holds some number. -/
def Maxl (w : World) : Prop := ∃ m : Int, w.cell? ⟨2, 0, none⟩ = some (.int .i64 m)
theorem Maxl.below {w w1 : World} (h : Maxl w) (hb : Below w.heap.size w w1) : Maxl w1 := by
  obtain ⟨m, hm⟩ := h
  exact ⟨m, pw_cell hb hm⟩
theorem maxl_of_shaped {w : World} (h : w.ShapedOpen Tryd.prog) : Maxl w :=
  cell_of_shapedOpen_int (t := 3) (zero := #[.int .i64 0]) h (of_decide_eq_true (by kernel_rfl)) (by kernel_rfl) rfl (by kernel_rfl) (by kernel_rfl) Tryd.underlying3
/-- A rune's bytes beyond ASCII are none of ASCII. -/
theorem rune_high (l : Bs) (h0 : 0 < l.length) (hx : 128 ≤ (l.getD 0 0).toNat) : ∀ c ∈ l.take (dec l).2, 128 ≤ c.toNat := by
  have k1 := (l.getD 1 0).toNat_lt
  have k2 := (l.getD 2 0).toNat_lt
  have k3 := (l.getD 3 0).toNat_lt
  intro c hc
  unfold dec at hc
  rcases Lib.decodeN_shape l.length (l.getD 0 0).toNat (l.getD 1 0).toNat (l.getD 2 0).toNat (l.getD 3 0).toNat with ⟨c0, e⟩ | ⟨c1, c2, c3, cv, e⟩ | ⟨c1, c2, c3, c4, cv, cs, e⟩ | ⟨c1, c2, c3, c4, c5, cv, cw, e⟩ | e
  · omega
  · rw [e] at hc
    dsimp only at hc
    rw [Lib.takeB l (by omega)] at hc
    simp only [List.mem_cons, List.not_mem_nil, or_false] at hc
    rcases hc with rfl | rfl <;> omega
  · rw [e] at hc
    dsimp only at hc
    rw [Lib.takeC l (by omega)] at hc
    simp only [List.mem_cons, List.not_mem_nil, or_false] at hc
    rcases hc with rfl | rfl | rfl <;> omega
  · rw [e] at hc
    dsimp only at hc
    rw [Lib.takeD l (by omega)] at hc
    simp only [List.mem_cons, List.not_mem_nil, or_false] at hc
    rcases hc with rfl | rfl | rfl | rfl <;> omega
  · rw [e] at hc
    dsimp only at hc
    rw [Lib.takeA l h0] at hc
    simp only [List.mem_cons, List.not_mem_nil, or_false] at hc
    subst hc
    exact hx
theorem crlf_skip (l : Bs) (k n : Nat) (h : crlfB (l.take k) = false) (h2 : ∀ c ∈ (l.drop k).take n, 128 ≤ c.toNat) : crlfB (l.take (k + n)) = false := by
  unfold crlfB at *
  rw [List.take_add, List.any_append, h, Bool.false_or, List.any_eq_false]
  intro c hc
  have := h2 c hc
  simp only [Bool.or_eq_true, beq_iff_eq, not_or]
  constructor
  · rintro rfl; exact absurd this (by decide)
  · rintro rfl; exact absurd this (by decide)
/-- A rune's width beyond ASCII: the rune, or none. -/
theorem rune_width (l : Bs) (h0 : 0 < l.length) (hx : 128 ≤ (l.getD 0 0).toNat) : 128 ≤ (dec l).1 ∧ ((dec l).1 ≠ 65533 → (dec l).2 = (enc (dec l).1).length ∧ 2 ≤ (dec l).2 ∧ ∀ c ∈ enc (dec l).1, 128 ≤ c.toNat) := by
  have k1 := (l.getD 1 0).toNat_lt
  have k2 := (l.getD 2 0).toNat_lt
  have k3 := (l.getD 3 0).toNat_lt
  have he := fun hb => Lib.encode_decode l (by cases l <;> simp_all) hb
  rw [show Lib.decodeL l = dec l from Lib.decodeL_N l] at he
  have hle := dec_le l h0
  have hw : 128 ≤ (dec l).1 ∧ ((dec l).1 ≠ 65533 → 2 ≤ (dec l).2) := by
    unfold dec
    rcases Lib.decodeN_shape l.length (l.getD 0 0).toNat (l.getD 1 0).toNat (l.getD 2 0).toNat (l.getD 3 0).toNat with ⟨c0, e⟩ | ⟨c1, c2, c3, cv, e⟩ | ⟨c1, c2, c3, c4, cv, cs, e⟩ | ⟨c1, c2, c3, c4, c5, cv, cw, e⟩ | e
    all_goals (rw [e]; dsimp only; omega)
  refine ⟨hw.1, fun h => ?_⟩
  have := he (fun hb => h hb.1)
  unfold enc
  rw [this, List.length_take]
  exact ⟨by omega, hw.2 h, rune_high l h0 hx⟩
theorem decode_crlf0 : Utf8.decode ⟨#[13, 10]⟩ 0 = (13, 1) := by decide
theorem decode_crlf1 : Utf8.decode ⟨#[13, 10]⟩ 1 = (10, 1) := by decide
theorem run_is (X : Bs) (w : World) (m : Int) (hm : w.cell? ⟨2, 0, none⟩ = some (.int .i64 m)) (h3 : 3 ≤ X.length) (hl : (X.length : Int) ≤ m) : (callFunc 114 #[.string ⟨#[13, 10]⟩, .string ⟨X.toArray⟩]).run Tryd.prog w = .ok (.value (.int .i64 (-1))) w := by
  have hs : (⟨X.toArray⟩ : ByteArray).size = X.length := by rw [← sl_len, sl_mk]
  have hx : Lib.index ([13, 10] : Bs) X = -1 := by
    match X, h3 with
    | a :: b :: c :: t, _ => simp [Lib.index, List.isPrefixOf]
  refine (run_callFunc_extern Tryd.func114 (by kernel_rfl) (by kernel_rfl) (by kernel_rfl) (e := Extern.BytealgIndex.index) (by kernel_rfl) _ w).trans ?_
  rw [Lib.run_indexString ⟨#[13, 10]⟩ ⟨X.toArray⟩ w 2 m (by kernel_rfl) hm (by rw [hs]; omega) (by rw [hs]; exact hl) (by decide)]
  have e1 : (⟨X.toArray⟩ : ByteArray).data.toList = X := by simp
  have e2 : (⟨#[13, 10]⟩ : ByteArray).data.toList = [13, 10] := rfl
  rw [e1, e2, hx]
  rfl

set_option maxRecDepth 20000 in
set_option maxHeartbeats 1000000 in
theorem iany_one (A : Option Addr) (c : Nat) (x : UInt8) (w : World) (h : BA w A [x]) (_h1 : 1 ≤ c) (hx : 128 ≤ x.toNat) :
    Calls Tryd.prog 74 #[.slice A 1 c, .string ⟨#[13, 10]⟩] w fun e w' => e = .returned (.int .i64 (-1)) ∧ Below w.heap.size w w' := by
  obtain ⟨g, o, rfl, hcell⟩ := h.at 0 (by simp)
  have hcell : w.cell? ⟨g, o, none⟩ = some (.int .u8 x.toNat) := hcell
  have hx2 : (128 : Int) ≤ (x.toNat : Int) := by omega
  have hx3 : (x.toNat : Int) < 256 := by have := x.toNat_lt; omega
  generalize (x.toNat : Int) = y at *
  clear h hx
  go_enter Tryd.func74, Tryd.ntmps74
  go_wp2
  go_loopw [5] (fun _ wi => ∃ p : Nat, p ≤ 2 ∧ wi.heap[w.heap.size]? = some (.stringIter ⟨#[13, 10]⟩ p) ∧ Below w.heap.size w wi) (fun _ wi => 2 - wi.iterPos w.heap.size)
  case atStart => exact ⟨0, by omega, World.iter_heap w _ 0, (Below.refl _ w).alloc (Nat.le_refl _) _⟩
  case round =>
    obtain ⟨p, hp, hit, hbw⟩ := hrel
    have hj := Lib.iterAt_heap wr w.heap.size ⟨#[13, 10]⟩ p (p + 1) hit
    have hbj := Lib.below_iterAt hbw (k := w.heap.size) (by omega) ⟨#[13, 10]⟩ (p + 1)
    rcases (by omega : p = 0 ∨ p = 1 ∨ p = 2) with rfl | rfl | rfl
    · have hnx : ∀ ty, (Instr.next (.pointer (some ⟨w.heap.size, 0, none⟩)) true ty).run Tryd.prog wr = _ := fun ty => Lib.run_next_any_at wr w.heap.size ⟨#[13, 10]⟩ 0 ty hit (by decide)
      rw [decode_crlf0] at hnx
      go_wp2
      go_roundw
      case rel => exact ⟨1, by omega, hj, hbj⟩
      case measure => simp only [World.iterPos, hj, hit]; omega
    · have hnx : ∀ ty, (Instr.next (.pointer (some ⟨w.heap.size, 0, none⟩)) true ty).run Tryd.prog wr = _ := fun ty => Lib.run_next_any_at wr w.heap.size ⟨#[13, 10]⟩ 1 ty hit (by decide)
      rw [decode_crlf1] at hnx
      go_wp2
      go_roundw
      case rel => exact ⟨2, by omega, hj, hbj⟩
      case measure => simp only [World.iterPos, hj, hit]; omega
    · have hnx : ∀ ty, (Instr.next (.pointer (some ⟨w.heap.size, 0, none⟩)) true ty).run Tryd.prog wr = _ := fun ty => Lib.run_next_end_at wr w.heap.size ⟨#[13, 10]⟩ 2 ty hit (by decide)
      go_wp2
      go_ret
      exact ⟨rfl, hbw⟩

set_option maxRecDepth 20000 in
set_option maxHeartbeats 1000000 in
theorem iany_gen (A : Option Addr) (c : Nat) (l : Bs) (w : World) (hT : Tabs w) (hM : Maxl w) (h : BA w A l) (hlc : l.length ≤ c) (h8 : l.length ≤ 8) (h1 : l.length ≠ 1) :
    Calls Tryd.prog 74 #[.slice A l.length c, .string ⟨#[13, 10]⟩] w fun e w' => (∃ z : Int, e = .returned (.int .i64 z) ∧ -1 ≤ z ∧ z ≤ 1000000 ∧ decide (z ≥ 0) = crlfB l) ∧ Below w.heap.size w w' := by
  have hn8 : (l.length : Int) ≤ 8 := by omega
  have hn1 : ((l.length : Int) == 1) = false := beq_eq_false_iff_ne.2 (by omega)
  have HT := Lib.hid hT
  have HMX := Lib.hid hM
  have HB := Lib.hid h
  clear h1 hT hM
  go_enter Tryd.func74, Tryd.ntmps74
  go_wp2_with (go_at_call 111; refine (should_no _ _ hn8).mono ?_; rintro e w' ⟨rfl, hw⟩; rw [hw])
  go_loopw [12, 11, 13, 15] (fun i _ _ _ wr => ∃ k : Nat, i = .int .i64 k ∧ k ≤ l.length ∧ crlfB (l.take k) = false ∧ Below w.heap.size w wr) (fun i _ _ _ _ => l.length - (intOf i).toNat)
  case atStart => exact ⟨0, rfl, Nat.zero_le _, rfl, Below.refl _ _⟩
  case round =>
    obtain ⟨k, rfl, hk, hK, hbw⟩ := hrel
    by_cases hlt : k < l.length
    · have hltb : (k : Int) < l.length := by omega
      have hbr := h.below hbw
      obtain ⟨g, o, hA, hcell⟩ := hbr.at k hlt
      have hHK := Lib.hid hK
      have hhd : (l.drop k).getD 0 0 = l.getD k 0 := by simp [List.getD_eq_getElem?_getD, List.getElem?_drop]
      by_cases hx : (l.getD k 0).toNat < 128
      · have hx2 : ((l.getD k 0).toNat : Int) < 128 := by omega
        have ht := crlf_take l k hlt
        rw [hK, Bool.false_or, ← crlf_has, Lib.contains_iff_indexByte] at ht
        have HT2 := Lib.hid ht
        have HM : Hid (crlfB (l.take (k + 1)) = true → crlfB l = true) := Lib.hid (crlf_mono l (k + 1))
        subst hA
        clear hK ht h hx hbr hhd hHK
        have hib := fun W => run_ibs ⟨#[13, 10]⟩ (l.getD k 0) W
        have hL : Lib.indexByte ([13, 10] : Bs) (l.getD k 0) < 1000 := by have h1 := indexByte_lt [13, 10] (l.getD k 0); have h2 : (([13, 10] : Bs).length : Int) = 2 := rfl; omega
        have hG := Lib.indexByte_ge ([13, 10] : Bs) (l.getD k 0)
        generalize l.getD k 0 = x at *
        have hib : ∀ W, (callFunc 109 #[.string ⟨#[13, 10]⟩, .int .u8 (x.toNat : Int)]).run Tryd.prog W = .ok (.value (.int .i64 (Lib.indexByte [13, 10] x))) W := hib
        generalize Lib.indexByte [13, 10] x = z at *
        by_cases hz : 0 ≤ z
        · have HF : Hid (crlfB l = true) := Lib.hid (HM.out (by rw [HT2.out]; exact decide_eq_true hz))
          go_wp2
          go_ret
          exact ⟨⟨k, rfl, by omega, by omega, by rw [HF.out]; simp⟩, hbw⟩
        · have HF : Hid (crlfB (l.take (k + 1)) = false) := Lib.hid (by rw [HT2.out]; exact decide_eq_false hz)
          have hz2 : z < 0 := by omega
          clear hz
          go_wp2
          go_roundw
          case rel => exact ⟨k + 1, by go_num, by omega, HF.out, hbw⟩
          case measure => simp [intOf]; omega
      · have hx2 : (128 : Int) ≤ ((l.getD k 0).toNat : Int) := by omega
        have hx3 : ((l.getD k 0).toNat : Int) < 256 := by have := (l.getD k 0).toNat_lt; omega
        have hhi := rune_high (l.drop k) (by rw [List.length_drop]; omega) (by rw [hhd]; omega)
        have hwd := rune_width (l.drop k) (by rw [List.length_drop]; omega) (by rw [hhd]; omega)
        have HS : Hid (crlfB (l.take (k + (dec (l.drop k)).2)) = false) := Lib.hid (crlf_skip l k _ hK hhi)
        have hle := dec_le (l.drop k) (by rw [List.length_drop]; omega)
        have hpos := dec_pos (l.drop k)
        have hw4 := dec_w (l.drop k)
        have hlt2 := dec_lt (l.drop k)
        have cd := decodeRune_any (cutA A c k) (c - k) (l.drop k) wr (HT.out.below hbw) (hbr.drop k hlc) (by rw [List.length_drop]; omega)
        have hcf := fun W => cut_from (P := Tryd.prog) 51 5 .i64 Tryd.underlying51 Tryd.sizeOf5 A l.length c k hk W
        have hdl : (l.drop k).length = l.length - k := List.length_drop
        rw [hdl] at cd hle
        rw [hA] at cd hcf ⊢
        clear hhi hK hhd h hbr hx hHK hdl hA HB
        generalize cutA (some ⟨g, o, none⟩) c k = A1 at *
        generalize ((l.getD k 0).toNat : Int) = y at *
        generalize dec (l.drop k) = D at *
        obtain ⟨r, n⟩ := D
        dsimp only at HS hle hpos hw4 hlt2 cd hwd
        obtain ⟨hr128, hwn⟩ := hwd
        have HWN := Lib.hid hwn
        clear hwn
        have hkn : (k : Int) + n ≤ 1000000 := by omega
        go_wp2_with fail
        refine cd.mono ?_
        rintro e w1 ⟨rfl, hb1⟩
        have hb1' := hbw.trans (hb1.mono hbw.size)
        clear cd hcf
        obtain ⟨m, hm⟩ := HMX.out.below hb1'
        have hcase : r = 65533 ∨ (r ≠ 65533 ∧ n = 2) ∨ (r ≠ 65533 ∧ n ≠ 2 ∧ (n : Int) ≤ m) ∨ (r ≠ 65533 ∧ n ≠ 2 ∧ m < (n : Int)) := by omega
        rcases hcase with hq | ⟨hq, hn2⟩ | ⟨hq, hn2, hq3⟩ | ⟨hq, hn2, hq3⟩
        case inr.inl =>
          have hrb : ((r : Int) != 65533) = true := by simp; omega
          have hen := encode_enc (r : Int) (by omega) (by omega)
          obtain ⟨he1, he2, he3⟩ := HWN.out hq
          subst hn2
          have HE := Lib.hid he3
          clear he1 he2 he3 HWN hq HT
          generalize enc (r : Int) = X at *
          have hne : (X == [13, 10]) = false := by
            rw [beq_eq_false_iff_ne]
            intro e
            have := HE.out 13 (by rw [e]; simp)
            exact absurd this (by decide)
          have hne2 : (([13, 10] : Bs) == X) = false := by
            rw [beq_eq_false_iff_ne]
            intro e
            have := HE.out 13 (by rw [← e]; simp)
            exact absurd this (by decide)
          clear HE
          go_wp2
          go_roundw
          case rel => exact ⟨k + 2, by go_num, by omega, HS.out, hb1'⟩
          case measure => simp [intOf]; omega
        case inr.inr.inl =>
          have hrb : ((r : Int) != 65533) = true := by simp; omega
          have hnb : ((2 : Int) == (n : Int)) = false := by simp; omega
          have hen := encode_enc (r : Int) (by omega) (by omega)
          obtain ⟨he1, he2, he3⟩ := HWN.out hq
          clear he3 HWN hq HT
          generalize enc (r : Int) = X at *
          have hix := run_is X w1 m hm (by omega) (by omega)
          clear he1 he2 hn2
          go_wp2
          go_roundw
          case rel => exact ⟨k + n, by go_num, by omega, HS.out, hb1'⟩
          case measure => simp [intOf]; omega
        case' inl =>
          have hrb : ((r : Int) != 65533) = false := by simp; omega
        case' inr.inr.inr =>
          have hrb : ((r : Int) != 65533) = true := by simp; omega
          have hnb : ((2 : Int) == (n : Int)) = false := by simp; omega
          clear hn2
        all_goals
          have hr13 : ((r : Int) == 13) = false := by simp; omega
          have hr10 : ((r : Int) == 10) = false := by simp; omega
          obtain ⟨wo, rfl⟩ : ∃ wo : World, wo = wr := ⟨_, rfl⟩
          clear HWN hq HT HMX
          go_wp2
          go_loopw [15] (fun _ wi => ∃ p : Nat, p ≤ 2 ∧ wi.heap[w1.heap.size]? = some (.stringIter ⟨#[13, 10]⟩ p) ∧ Below w.heap.size w wi) (fun _ wi => 2 - wi.iterPos w1.heap.size)
          case atStart => exact ⟨0, by omega, World.iter_heap w1 _ 0, hb1'.alloc hb1'.size _⟩
          case round =>
            obtain ⟨p, hp, hit, hbi⟩ := hrel
            have hsz1 := hb1'.size
            have hj := Lib.iterAt_heap wr w1.heap.size ⟨#[13, 10]⟩ p (p + 1) hit
            have hbj := Lib.below_iterAt hbi (k := w1.heap.size) hsz1 ⟨#[13, 10]⟩ (p + 1)
            rcases (by omega : p = 0 ∨ p = 1 ∨ p = 2) with rfl | rfl | rfl
            · have hnx : ∀ ty, (Instr.next (.pointer (some ⟨w1.heap.size, 0, none⟩)) true ty).run Tryd.prog wr = _ := fun ty => Lib.run_next_any_at wr w1.heap.size ⟨#[13, 10]⟩ 0 ty hit (by decide)
              rw [decode_crlf0] at hnx
              go_wp2
              go_roundw
              case rel => exact ⟨1, by omega, hj, hbj⟩
              case measure => simp only [World.iterPos, hj, hit]; omega
            · have hnx : ∀ ty, (Instr.next (.pointer (some ⟨w1.heap.size, 0, none⟩)) true ty).run Tryd.prog wr = _ := fun ty => Lib.run_next_any_at wr w1.heap.size ⟨#[13, 10]⟩ 1 ty hit (by decide)
              rw [decode_crlf1] at hnx
              go_wp2
              go_roundw
              case rel => exact ⟨2, by omega, hj, hbj⟩
              case measure => simp only [World.iterPos, hj, hit]; omega
            · have hnx : ∀ ty, (Instr.next (.pointer (some ⟨w1.heap.size, 0, none⟩)) true ty).run Tryd.prog wr = _ := fun ty => Lib.run_next_end_at wr w1.heap.size ⟨#[13, 10]⟩ 2 ty hit (by decide)
              go_wp2
              go_roundw
              case rel => exact ⟨k + n, by go_num, by omega, HS.out, hbi⟩
              case measure => simp [intOf]; omega
    · have hltb : (l.length : Int) ≤ k := by omega
      have HF : Hid (crlfB l = false) := Lib.hid (by rw [← hK, List.take_of_length_le (by omega)])
      clear hK h
      go_wp2
      go_ret
      exact ⟨⟨-1, rfl, by omega, by omega, by rw [HF.out]; rfl⟩, hbw⟩
theorem iany_all (A : Option Addr) (c : Nat) (l : Bs) (w : World) (hT : Tabs w) (hM : Maxl w) (h : BA w A l) (hlc : l.length ≤ c) (hl : l.length ≤ 1000000) :
    Calls Tryd.prog 74 #[.slice A l.length c, .string ⟨#[13, 10]⟩] w fun e w' => (∃ z : Int, e = .returned (.int .i64 z) ∧ -1 ≤ z ∧ z ≤ 1000000 ∧ decide (z ≥ 0) = crlfB l) ∧ Below w.heap.size w w' := by
  by_cases h9 : 8 < l.length
  · exact iany_long A c l w h hlc hl h9
  · by_cases h1 : l.length = 1
    · obtain ⟨x, rfl⟩ : ∃ x, l = [x] := by
        match l, h1 with
        | [x], _ => exact ⟨x, rfl⟩
      by_cases hx : x.toNat < 128
      · refine iany_short A c [x] w h hlc (by omega) fun k hk => ?_
        obtain rfl : k = 0 := by simp at hk; omega
        exact hx
      · refine (iany_one A c x w h hlc (by omega)).mono ?_
        rintro e w' ⟨rfl, hb⟩
        refine ⟨⟨-1, rfl, by omega, by omega, ?_⟩, hb⟩
        have h13 : (x == 13) = false := by rw [beq_eq_false_iff_ne]; rintro rfl; exact absurd hx (by decide)
        have h10 : (x == 10) = false := by rw [beq_eq_false_iff_ne]; rintro rfl; exact absurd hx (by decide)
        simp [crlfB, h13, h10]
    · exact iany_gen A c l w hT hM h hlc (by omega) h1
theorem cany_all (A : Option Addr) (c : Nat) (l : Bs) (w : World) (hT : Tabs w) (hM : Maxl w) (h : BA w A l) (hlc : l.length ≤ c) (hl : l.length ≤ 1000000) :
    Calls Tryd.prog 36 #[.slice A l.length c, .string ⟨#[13, 10]⟩] w fun e w' => e = .returned (.bool (crlfB l)) ∧ Below w.heap.size w w' := by
  have ci := iany_all A c l w hT hM h hlc hl
  clear h hT hM
  generalize crlfB l = V at *
  go_enter Tryd.func36, Tryd.ntmps36
  go_wp2_with fail
  refine ci.mono ?_
  rintro e w1 ⟨⟨z, rfl, hz1, hz2, hz3⟩, hb⟩
  have HZ := Lib.hid hz3
  clear hz3 ci
  go_wp2
  go_ret
  exact ⟨ret_bool (a := decide (0 ≤ z)) HZ.out, hb⟩
end Go.Proofs.YtmindclciogneaaDoor
