/- Words of this work: bytes that a slice reads, cuts of it; strings; small helps for walks. -/
import Derived.WalkKit
import Derived.WalkSpells
import Derived.WalkLawsBesides
import Derived.Lib.DecodeN
import Derived.Lib.SlBytesConst
import Derived.Lib.ConvBytes
import Derived.Lib.Hide
import Derived.Lib.Strings
namespace Go.Proofs.YtghigiapfmlkbaaGreatDoor
open Go.RowKit

abbrev Bs := List UInt8

/-- What a string holds. -/
abbrev sl (s : ByteArray) : Bs := s.data.toList
theorem sl_len (s : ByteArray) : (sl s).length = s.size := by rw [Array.length_toList]; rfl
theorem sl_mk (l : Bs) : sl ⟨l.toArray⟩ = l := by simp [sl]
theorem mk_sl (s : ByteArray) : (⟨(sl s).toArray⟩ : ByteArray) = s := by cases s; simp [sl]
theorem sl_get (s : ByteArray) (i : Nat) (h : i < s.size) : s[i] = (sl s).getD i 0 := by
  have h' : i < (sl s).length := by rw [sl_len]; exact h
  simp only [List.getD_eq_getElem?_getD, List.getElem?_eq_getElem h', Option.getD_some]
  rfl
theorem sl_get! (s : ByteArray) (i : Nat) (h : i < s.size) : s.get! i = (sl s).getD i 0 := by
  rw [← sl_get s i h]
  simp [ByteArray.get!, getElem!_pos, h]
  rfl
theorem sl_empty (s : ByteArray) : s.toList.isEmpty = (sl s).isEmpty := by rw [Lib.toList_data]
/-- A slice of bytes at A reads as l. -/
def BA (w : World) (A : Option Addr) (l : Bs) : Prop :=
  0 < l.length → ∃ b o, A = some ⟨b, o, none⟩ ∧ ∀ i, i < l.length → w.cell? ⟨b, o + i, none⟩ = some (.int .u8 (l.getD i 0).toNat)

theorem BA.below {w w1 : World} {A : Option Addr} {l : Bs} (h : BA w A l) (hb : Below w.heap.size w w1) : BA w1 A l := fun hn => by
  obtain ⟨b, o, e, hc⟩ := h hn
  refine ⟨b, o, e, fun i hi => ?_⟩
  have := hc i hi
  exact (hb.cell (World.block_lt_of_cell? w _ this)).trans this
theorem BA.nil (w : World) (A : Option Addr) : BA w A [] := fun h => absurd h (by simp)
theorem BA.take {w : World} {A : Option Addr} {l : Bs} (h : BA w A l) (j : Nat) : BA w A (l.take j) := fun hn => by
  rw [List.length_take] at hn
  obtain ⟨b, o, e, hc⟩ := h (by omega)
  refine ⟨b, o, e, fun i hi => ?_⟩
  rw [List.length_take] at hi
  rw [hc i (by omega)]
  simp [List.getD_eq_getElem?_getD, show i < j from by omega]
/-- The address of what is behind i bytes. -/
def cutA (A : Option Addr) (c i : Nat) : Option Addr := if c = i then A else A.map (·.add i)
theorem BA.drop {w : World} {A : Option Addr} {l : Bs} {c : Nat} (h : BA w A l) (i : Nat) (hc : l.length ≤ c) : BA w (cutA A c i) (l.drop i) := fun hn => by
  rw [List.length_drop] at hn
  obtain ⟨b, o, rfl, hcell⟩ := h (by omega)
  unfold cutA
  rw [if_neg (by omega)]
  refine ⟨b, o + i, ?_, fun j hj => ?_⟩
  · simp only [Option.map_some, Addr.add]
    split
    · simp_all
    · simp
  · rw [List.length_drop] at hj
    rw [Nat.add_assoc, hcell (i + j) (by omega)]
    simp [List.getD_eq_getElem?_getD, List.getElem?_drop]
/-- A byte that is read. -/
theorem BA.at {w : World} {A : Option Addr} {l : Bs} (h : BA w A l) (i : Nat) (hi : i < l.length) : ∃ b o, A = some ⟨b, o, none⟩ ∧ w.cell? ⟨b, o + i, none⟩ = some (.int .u8 (l.getD i 0).toNat) := by
  obtain ⟨b, o, e, hc⟩ := h (by omega)
  exact ⟨b, o, e, hc i hi⟩

/-- 'b[i:]', 'b[:j]', 'b[i:j]' of a slice of bytes; laid ahead of a walk. -/
theorem cut_from {P : Program} (t e : TypeId) (kl : IntKind) (ht : P.underlying t = some (.slice e)) (hz : ∀ w, (sizeOf e).run P w = .ok 1 w) (A : Option Addr) (n c i : Nat) (hi : i ≤ n) (W : World) :
    (Instr.slice t (.slice A n c) (some (.int kl (i : Int))) none none).run P W = .ok (.slice (cutA A c i) (n - i) (c - i)) W := by
  have hel : P.elem t = e := by simp [Program.elem, ht]
  have hu : P.underlying t = some (.slice (P.elem t)) := by rw [hel]; exact ht
  rw [run_slice_l W t A n c hu kl (i : Int) (Int.natCast_nonneg _) (by omega), hel, hz]
  simp [sliced, Result.andThen, cutA]
theorem cut_mid {P : Program} (t e : TypeId) (kl kh : IntKind) (ht : P.underlying t = some (.slice e)) (hz : ∀ w, (sizeOf e).run P w = .ok 1 w) (A : Option Addr) (n c i j : Nat) (hi : i ≤ j) (hj : j ≤ c) (W : World) :
    (Instr.slice t (.slice A n c) (some (.int kl (i : Int))) (some (.int kh (j : Int))) none).run P W = .ok (.slice (cutA A c i) (j - i) (c - i)) W := by
  have hel : P.elem t = e := by simp [Program.elem, ht]
  have hu : P.underlying t = some (.slice (P.elem t)) := by rw [hel]; exact ht
  rw [run_slice_lh W t A n c hu kl kh (i : Int) (j : Int) (Int.natCast_nonneg _) (by omega) (by omega), hel, hz]
  simp [sliced, Result.andThen, cutA]
theorem cut_to {P : Program} (t e : TypeId) (kh : IntKind) (ht : P.underlying t = some (.slice e)) (hz : ∀ w, (sizeOf e).run P w = .ok 1 w) (A : Option Addr) (n c j : Nat) (hj : j ≤ c) (W : World) :
    (Instr.slice t (.slice A n c) none (some (.int kh (j : Int))) none).run P W = .ok (.slice A j c) W := by
  have hel : P.elem t = e := by simp [Program.elem, ht]
  have hu : P.underlying t = some (.slice (P.elem t)) := by rw [hel]; exact ht
  have ha : (A.map fun x => x.add 0) = A := by cases A <;> simp [Addr.add]
  rw [run_slice_h W t A n c hu kh (j : Int) (Int.natCast_nonneg _) (by omega), hel, hz]
  simp [sliced, Result.andThen, ha]

/-- 'string(b)'. -/
theorem conv_str {P : Program} (w : World) (src dst e : TypeId) (hs : P.underlying src = some (.slice e)) (he : P.underlying e = some (.int .u8)) (hd : P.underlying dst = some .string) (A : Option Addr) (c : Nat) (l : Bs) (h : BA w A l) :
    (convert src dst (.slice A l.length c)).run P w = .ok (.string ⟨l.toArray⟩) w := by
  by_cases h0 : l = []
  · subst h0
    rw [run_convert_bytes_string w src dst e _ _ c hs he hd]
    cases A <;> simp [Conv.bytesToString, loadCells]
    all_goals rfl
  · obtain ⟨b, o, rfl, hc⟩ := h (by cases l <;> simp_all)
    refine run_convert_bytes_back w src dst e ⟨b, o, none⟩ c l hs he hd (fun j hj => ?_)
    have e1 : (⟨b, o, none⟩ : Addr).add j = ⟨b, o + j, none⟩ := by
      simp only [Addr.add]
      split <;> simp_all
    rw [e1, hc j hj]
    simp [List.getD_eq_getElem?_getD, List.getElem?_eq_getElem hj]
/-- '[]byte(s)': what is laid. -/
theorem BA.conv (w : World) (e : TypeId) (s : ByteArray) : BA (Lib.bytesWorld w e s) (some ⟨w.heap.size, 0, none⟩) (sl s) := fun _ => by
  refine ⟨_, _, rfl, fun i hi => ?_⟩
  rw [Nat.zero_add, Lib.bytesWorld_cell w e s i (by rw [← sl_len]; exact hi)]
theorem below_conv (w : World) (e : TypeId) (s : ByteArray) : Below w.heap.size w (Lib.bytesWorld w e s) :=
  ⟨rfl, rfl, rfl, by rw [Lib.bytesWorld_size]; omega, fun i hi => Lib.bytesWorld_at_old w e s i hi⟩
/-- '[]byte(s)', said with letters: where it lies, its capacity, the world behind it. -/
theorem conv_bytes {P : Program} (w : World) (src dst e : TypeId) {u : TypeDesc} (hs : P.underlying src = some u) (hd : P.underlying dst = some (.slice e)) (he : P.underlying e = some (.int .u8)) (s : ByteArray) :
    ∃ A c w1, (convert src dst (.string s)).run P w = .ok (.slice A (sl s).length c) w1 ∧ (sl s).length ≤ c ∧ BA w1 A (sl s) ∧ Below w.heap.size w w1 := by
  refine ⟨some ⟨w.heap.size, 0, none⟩, grownCap w s.size 0 e, Lib.bytesWorld w e s, ?_, ?_, BA.conv w e s, below_conv w e s⟩
  · rw [sl_len]; exact Lib.run_convert_string_bytes w src dst e s hs hd he
  · rw [sl_len]; exact grownCap_ge _ _ _ _
theorem pw_cell {w w1 : World} (hb : Below w.heap.size w w1) {a : Addr} {v : Value} (h : w.cell? a = some v) : w1.cell? a = some v := (hb.cell (World.block_lt_of_cell? w a h)).trans h
theorem ret_bool {a b : Bool} (h : a = b) : Ending.returned (.bool a) = .returned (.bool b) := by rw [h]
theorem ret_int {k : IntKind} {a b : Int} (h : a = b) : Ending.returned (.int k a) = .returned (.int k b) := by rw [h]
end Go.Proofs.YtghigiapfmlkbaaGreatDoor
