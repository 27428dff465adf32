/- What schema, single, double and style compute, said as plain functions. -/
import Derived.Test.YtghigiapfmlkbaaGreatDoorM
namespace Go.Proofs.YtghigiapfmlkbaaGreatDoor
open Go.RowKit

/-! ### schema -/
def cutB (l set : Bs) : Bs := l.dropWhile (set.contains ·)
def decs : Bs := [48, 49, 50, 51, 52, 53, 54, 55, 56, 57]
def octs : Bs := [48, 49, 50, 51, 52, 53, 54, 55]
def hexs : Bs := [48, 49, 50, 51, 52, 53, 54, 55, 56, 57, 97, 98, 99, 100, 101, 102, 65, 66, 67, 68, 69, 70]
/-- Signs of a set alone, one at least. -/
def allB (l set : Bs) : Bool := decide (0 < l.length - (cutB l set).length) && (cutB l set).isEmpty
def unsignB : Bs → Bs
  | [] => []
  | c :: t => if c.toNat == 45 || c.toNat == 43 then t else c :: t
def nullB (l : Bs) : Bool := ([[110, 117, 108, 108], [78, 117, 108, 108], [78, 85, 76, 76], [126], []] : List Bs).contains l
def boolB (l : Bs) : Bool := ([[116, 114, 117, 101], [84, 114, 117, 101], [84, 82, 85, 69], [102, 97, 108, 115, 101], [70, 97, 108, 115, 101], [70, 65, 76, 83, 69]] : List Bs).contains l
abbrev prefB (l p : Bs) : Bool := Lib.hasPrefix l p
def intB (l : Bs) : Bool :=
  allB (unsignB l) decs || (prefB l [48, 111] && allB (l.drop 2) octs) || (prefB l [48, 120] && allB (l.drop 2) hexs)
/-- What is left behind a number's digits, of which there are n. -/
def floatTail (n : Nat) (q : Bs) : Bool :=
  match q with
  | [] => decide (0 < n)
  | c :: t => decide (0 < n) && ((c.toNat == 101 || c.toNat == 69) && allB (unsignB t) decs)
def floatMid (u : Bs) : Bool :=
  if Lib.hasPrefix (cutB u decs) [46] then floatTail ((u.length - (cutB u decs).length) + ((Lib.trimPrefix (cutB u decs) [46]).length - (cutB (Lib.trimPrefix (cutB u decs) [46]) decs).length)) (cutB (Lib.trimPrefix (cutB u decs) [46]) decs)
  else floatTail (u.length - (cutB u decs).length) (cutB u decs)
def floatB (l : Bs) : Bool :=
  if ([[46, 110, 97, 110], [46, 78, 97, 78], [46, 78, 65, 78]] : List Bs).contains l then true
  else if ([[46, 105, 110, 102], [46, 73, 110, 102], [46, 73, 78, 70]] : List Bs).contains (unsignB l) then true
  else floatMid (unsignB l)
def tagStr : Bs := [33, 33, 115, 116, 114]
def tagNull : Bs := [33, 33, 110, 117, 108, 108]
def tagBool : Bs := [33, 33, 98, 111, 111, 108]
def tagInt : Bs := [33, 33, 105, 110, 116]
def tagFloat : Bs := [33, 33, 102, 108, 111, 97, 116]
def resolveB (l : Bs) : Bs :=
  if nullB l then tagNull else if boolB l then tagBool else if intB l then tagInt else if floatB l then tagFloat else tagStr

theorem cutB_le (l set : Bs) : (cutB l set).length ≤ l.length := by
  unfold cutB
  induction l with
  | nil => simp
  | cons c t ih =>
    rw [List.dropWhile_cons]
    split
    · rw [List.length_cons]; omega
    · exact Nat.le_refl _
theorem cutB_skip (l set : Bs) (i : Nat) (h : ∀ x ∈ l.take i, set.contains x = true) : cutB l set = cutB (l.drop i) set := by
  unfold cutB
  induction i generalizing l with
  | zero => simp
  | succ i ih =>
    cases l with
    | nil => simp
    | cons c t =>
      rw [List.dropWhile_cons, if_pos (h c (by simp)), List.drop_succ_cons]
      exact ih t (fun x hx => h x (by simp [hx]))
end Go.Proofs.YtghigiapfmlkbaaGreatDoor
