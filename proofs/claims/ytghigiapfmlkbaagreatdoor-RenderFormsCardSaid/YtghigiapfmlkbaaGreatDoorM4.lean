/- What double.Take computes, said as plain functions. -/
import Derived.Test.YtghigiapfmlkbaaGreatDoorM3
import Derived.Lib.Bytealg
namespace Go.Proofs.YtghigiapfmlkbaaGreatDoor
open Go.RowKit

def signsL : Bs := [34, 47, 92, 32]
/-- How many digits follow an escape's letter. -/
def digitsB (c : UInt8) : Nat := if c = 120 then 2 else if c = 117 then 4 else if c = 85 then 8 else 0
def upB (c : UInt8) : UInt8 := if 97 ≤ c.toNat ∧ c.toNat ≤ 102 then c - 97 + 65 else c
/-- What a digit says; less than zero where it is none. -/
def hexOf (c : UInt8) : Int := Lib.indexByte sixteen (upB c)
def numB : Nat → Bs → Nat → Option Nat
  | 0, _, a => some a
  | _ + 1, [], _ => none
  | k + 1, c :: t, a => if hexOf c < 0 then none else numB k t (a * 16 + (hexOf c).toNat)
def numOf (n : Nat) (l : Bs) : Option Nat := if l.length < n then none else numB n l 0
/-- The rune behind a backslash, and how many bytes it has. -/
def escB (l : Bs) : Int × Nat × Bool :=
  match l with
  | [] => (0, 0, false)
  | c :: t =>
    if 0 ≤ Lib.indexByte letterL c then (runeL.getD (Lib.indexByte letterL c).toNat 0, 1, true)
    else if 0 ≤ Lib.indexByte signsL c then (c.toNat, 1, true)
    else if digitsB c = 0 then (0, 0, false)
    else match numOf (digitsB c) t with
      | none => (0, 0, false)
      | some u => if 1114111 < u ∨ (55296 ≤ u ∧ u ≤ 57343) then (0, 0, false) else (u, digitsB c + 1, true)
/-- From a place within the quotes on: what stands there, what is read so far, the place. -/
def takeGo : Nat → Bs → Bs → Nat → Bs × Nat × Bool
  | 0, _, _, _ => ([], 0, false)
  | _ + 1, [], _, _ => ([], 0, false)
  | f + 1, c :: t, out, i =>
    if c = 10 ∨ c = 13 then ([], 0, false)
    else if c = 34 then (out, i + 1, true)
    else if c = 92 then if (escB t).2.2 then takeGo f (t.drop (escB t).2.1) (out ++ enc (escB t).1) (i + 1 + (escB t).2.1) else ([], 0, false)
    else takeGo f t (out ++ [c]) (i + 1)
def takeD (l : Bs) : Bs × Nat × Bool :=
  match l with
  | [] => ([], 0, false)
  | c :: t => if c = 34 then takeGo t.length t [] 1 else ([], 0, false)
end Go.Proofs.YtghigiapfmlkbaaGreatDoor
