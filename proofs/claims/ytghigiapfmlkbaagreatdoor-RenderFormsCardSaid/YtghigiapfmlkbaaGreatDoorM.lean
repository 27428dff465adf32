/- What the program computes, said as plain functions on lists of bytes: chars, plain, single, double, schema, style. -/
import Derived.Test.YtghigiapfmlkbaaGreatDoorW
namespace Go.Proofs.YtghigiapfmlkbaaGreatDoor
open Go.RowKit

/-! ### chars -/
/-- The rune at the beginning, and how many bytes it has; (65533, 1): none. -/
def dec (l : Bs) : Nat × Nat := Lib.decodeN l.length (l.getD 0 0).toNat (l.getD 1 0).toNat (l.getD 2 0).toNat (l.getD 3 0).toNat
/-- Is there no rune at the beginning? -/
def badRune (l : Bs) : Bool := (dec l).1 == 65533 && decide ((dec l).2 < 2)
/-- The rune that chars.Rune tells. -/
def runeV (l : Bs) : Int := if badRune l then 0 else (dec l).1
def printableB (r : Int) : Bool :=
  if r < 32 then r == 9 || r == 10 || r == 13
  else if 126 < r && r < 160 then r == 133
  else if (55296 ≤ r && r ≤ 57343) || r == 65279 || r == 65534 || r == 65535 then false
  else r ≤ 1114111
def spaceB (c : UInt8) : Bool := c.toNat == 32
def digitB (c : UInt8) : Bool := decide (48 ≤ c.toNat) && decide (c.toNat ≤ 57)
def letterB (c : UInt8) : Bool := decide (97 ≤ c.toNat) && decide (c.toNat ≤ 122) || decide (65 ≤ c.toNat) && decide (c.toNat ≤ 90) || digitB c || c.toNat == 45 || c.toNat == 95
def nameB (l : Bs) : Bool := l.all letterB && !l.isEmpty && decide (l.length ≤ 32)
/-- Check from a place on: where the first rune is that may not be. -/
def checkFrom : Nat → Bs → Nat → Option Nat
  | 0, _, _ => none
  | k + 1, l, at_ =>
    if l.isEmpty then none
    else if badRune l || ((dec l).1 == 13 && (l.length == 1 || (l.getD 1 0).toNat != 10)) || !printableB (dec l).1 then some at_
    else checkFrom k (l.drop (dec l).2) (at_ + (dec l).2)
def markB (l : Bs) : Bool := l.take 3 == [0xef, 0xbb, 0xbf]
def checkRes : Option Nat → Nat × Nat
  | some n => (n, 1)
  | none => (0, 0)
def check (l : Bs) : Nat × Nat :=
  if 65536 < l.length then (65536, 10)
  else checkRes (if markB l then checkFrom l.length (l.drop 3) 3 else checkFrom l.length l 0)

/-! ### plain -/
def blankB (c : UInt8) : Bool := c.toNat == 32 || c.toNat == 9
def bracketB (c : UInt8) : Bool := c.toNat == 44 || c.toNat == 91 || c.toNat == 93 || c.toNat == 123 || c.toNat == 125
def endsB (rest : Bs) (flow : Bool) : Bool := match rest with
  | [] => true
  | c :: _ => blankB c || (flow && bracketB c)
def startsB (l : Bs) (flow : Bool) : Bool := match l with
  | [] => false
  | c :: t =>
    if blankB c then false
    else if l.take 3 == [45, 45, 45] || l.take 3 == [46, 46, 46] then false
    else if c.toNat == 45 || c.toNat == 63 || c.toNat == 58 then !endsB t flow
    else !([44, 91, 93, 123, 125, 35, 38, 42, 33, 124, 62, 39, 34, 37, 64, 96] : Bs).contains c
/-- pb: a blank stands ahead. -/
def stopsB (c : UInt8) (t : Bs) (pb flow : Bool) : Bool :=
  if c.toNat == 9 then true
  else if c.toNat == 58 then endsB t flow
  else if c.toNat == 35 then pb
  else flow && bracketB c
def runLen (flow : Bool) : Bool → Bs → Nat
  | _, [] => 0
  | pb, c :: t => if stopsB c t pb flow then 0 else 1 + runLen flow (blankB c) t
/-- How many bytes are left without the blanks at the end. -/
def trimLen : Bs → Nat
  | [] => 0
  | c :: t => if trimLen t == 0 && c.toNat == 32 then 0 else 1 + trimLen t
def plainLen (l : Bs) (flow : Bool) : Nat := if startsB l flow then trimLen (l.take (runLen flow false l)) else 0
/-- Does a blank stand ahead of a place? -/
def pbAt (l : Bs) (i : Nat) : Bool := decide (0 < i) && blankB (l.getD (i - 1) 0)
theorem runLen_step (flow : Bool) (l : Bs) (i : Nat) (hi : i < l.length) :
    runLen flow (pbAt l i) (l.drop i) = if stopsB (l.getD i 0) (l.drop (i + 1)) (pbAt l i) flow then 0 else 1 + runLen flow (pbAt l (i + 1)) (l.drop (i + 1)) := by
  have hd : l.drop i = l.getD i 0 :: l.drop (i + 1) := by
    rw [List.drop_eq_getElem_cons hi]
    simp [List.getD_eq_getElem?_getD, List.getElem?_eq_getElem hi]
  have hp : pbAt l (i + 1) = blankB (l.getD i 0) := by simp [pbAt]
  rw [hp]
  conv => lhs; rw [hd]
  rw [runLen]
theorem runLen_le (flow : Bool) : ∀ (pb : Bool) (l : Bs), runLen flow pb l ≤ l.length
  | _, [] => by simp [runLen]
  | pb, c :: t => by
    rw [runLen]
    have := runLen_le flow (blankB c) t
    split
    · simp
    · simp; omega
theorem trimLen_le : ∀ l : Bs, trimLen l ≤ l.length
  | [] => by simp [trimLen]
  | c :: t => by
    rw [trimLen]
    have := trimLen_le t
    split
    · simp
    · simp; omega
theorem trimLen_snoc : ∀ (l : Bs) (c : UInt8), trimLen (l ++ [c]) = if c.toNat = 32 then trimLen l else l.length + 1
  | [], c => by simp [trimLen]
  | x :: t, c => by
    rw [List.cons_append, trimLen, trimLen_snoc t c, trimLen]
    by_cases h : c.toNat = 32
    · simp [h]
    · simp [h]; omega
theorem take_succ (l : Bs) (k : Nat) (h : k < l.length) : l.take (k + 1) = l.take k ++ [l.getD k 0] := by
  rw [List.take_succ_eq_append_getElem h]
  simp [List.getD_eq_getElem?_getD, List.getElem?_eq_getElem h]
/-- Printable runes alone, none below 32. -/
def cleanFrom : Nat → Bs → Bool
  | 0, _ => true
  | k + 1, l => if l.isEmpty then true else if badRune l || !printableB (dec l).1 || decide ((dec l).1 < 32) then false else cleanFrom k (l.drop (dec l).2)
def validB (l : Bs) (flow : Bool) : Bool := cleanFrom l.length l && !l.isEmpty && plainLen l flow == l.length

theorem printableB_iff (r : Int) : printableB r = true ↔ (r = 9 ∨ r = 10 ∨ r = 13 ∨ r = 133 ∨ (32 ≤ r ∧ r ≤ 126) ∨ (160 ≤ r ∧ r ≤ 1114111 ∧ ¬ (55296 ≤ r ∧ r ≤ 57343) ∧ ¬ r = 65279 ∧ ¬ r = 65534 ∧ ¬ r = 65535)) := by
  unfold printableB
  by_cases h1 : r < 32
  · simp [h1]; omega
  · by_cases h2 : 126 < r
    · by_cases h3 : r < 160
      · simp [h1, h2, h3]; omega
      · by_cases h4 : (55296 ≤ r ∧ r ≤ 57343) ∨ r = 65279 ∨ r = 65534 ∨ r = 65535
        · rw [if_neg h1, if_neg (by simp [h3]), if_pos (by simp; omega)]; simp; omega
        · rw [if_neg h1, if_neg (by simp [h3]), if_neg (by simp; omega)]; simp; omega
    · rw [if_neg h1, if_neg (by simp [h2]), if_neg (by simp; omega)]; simp; omega
theorem decodeN_pos (n a b c d : Nat) : 1 ≤ (Lib.decodeN n a b c d).2 := by
  unfold Lib.decodeN
  repeat' split
  all_goals simp
theorem decodeN_le (n a b c d : Nat) (h : 0 < n) : (Lib.decodeN n a b c d).2 ≤ n := by
  unfold Lib.decodeN
  repeat' split
  all_goals (simp; try omega)
theorem dec_pos (l : Bs) : 1 ≤ (dec l).2 := decodeN_pos _ _ _ _ _
theorem dec_le (l : Bs) (h : 0 < l.length) : (dec l).2 ≤ l.length := decodeN_le _ _ _ _ _ h
theorem decodeN_lt (n a b c d : Nat) : (Lib.decodeN n a b c d).1 ≤ 1114111 := by
  unfold Lib.decodeN
  repeat' split
  all_goals (simp; try omega)
theorem dec_lt (l : Bs) : (dec l).1 ≤ 1114111 := decodeN_lt _ _ _ _ _
theorem decodeN_w (n a b c d : Nat) : (Lib.decodeN n a b c d).2 ≤ 4 := by
  unfold Lib.decodeN
  repeat' split
  all_goals simp
theorem dec_w (l : Bs) : (dec l).2 ≤ 4 := decodeN_w _ _ _ _ _
end Go.Proofs.YtghigiapfmlkbaaGreatDoor
