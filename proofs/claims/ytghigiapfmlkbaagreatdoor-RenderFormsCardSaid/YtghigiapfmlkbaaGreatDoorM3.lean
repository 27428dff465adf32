/- What double, single and style compute, said as plain functions. -/
import Derived.Test.YtghigiapfmlkbaaGreatDoorM2
import Derived.Lib.RuneBytes
import Derived.Lib.ValidU
namespace Go.Proofs.YtghigiapfmlkbaaGreatDoor
open Go.RowKit

/-! ### double: to text -/
abbrev enc (r : Int) : Bs := Lib.encodeRune r
def sixteen : Bs := [48, 49, 50, 51, 52, 53, 54, 55, 56, 57, 65, 66, 67, 68, 69, 70]
/-- The last k digits of n. -/
def hexB : Nat → Nat → Bs
  | 0, _ => []
  | k + 1, n => sixteen.getD (n / 16 ^ k % 16) 0 :: hexB k n
def runeL : List Int := [0, 7, 8, 9, 10, 11, 12, 13, 27, 133, 160, 8232, 8233]
def letterL : Bs := [48, 97, 98, 116, 110, 118, 102, 114, 101, 78, 95, 76, 80]
/-- The letter of a rune that has one. -/
def letterOf (r : Int) : List Int → Bs → Option UInt8
  | x :: xs, c :: cs => if x = r then some c else letterOf r xs cs
  | _, _ => none
def oneB (r : Int) : Bs :=
  match letterOf r runeL letterL with
  | some c => [92, c]
  | none =>
    if r = 34 ∨ r = 92 then 92 :: enc r
    else if printableB r then enc r
    else if r < 256 then [92, 120] ++ hexB 2 r.toNat
    else if r < 65536 then [92, 117] ++ hexB 4 r.toNat
    else [92, 85] ++ hexB 8 r.toNat
/-- The runes of a text, one by one, as they are written. -/
def onesB : Nat → Bs → Bs
  | 0, _ => []
  | k + 1, l => if l.isEmpty then [] else oneB (dec l).1 ++ onesB k (l.drop (dec l).2)
/-- Is it UTF-8, all of it? -/
abbrev utfB (l : Bs) : Bool := Lib.validD l
def putB (l : Bs) : Bs := [34] ++ onesB l.length l ++ [34]

/-! ### style -/
def chooseB (l : Bs) (flow : Bool) : Bs := if validB l flow && resolveB l == tagStr then l else if utfB l then putB l else []
def keyB (l : Bs) (flow : Bool) : Bs × Bool := if (chooseB l flow).isEmpty || decide (128 < (chooseB l flow).length) then ([], false) else (chooseB l flow, true)
def bestB (tag l : Bs) (flow : Bool) : Bs × Bool :=
  if tag == tagStr then (chooseB l flow, !(chooseB l flow).isEmpty)
  else if resolveB l == tag && validB l flow then (l, true)
  else if utfB l then (tag ++ [32] ++ putB l, true) else ([], false)
end Go.Proofs.YtghigiapfmlkbaaGreatDoor
