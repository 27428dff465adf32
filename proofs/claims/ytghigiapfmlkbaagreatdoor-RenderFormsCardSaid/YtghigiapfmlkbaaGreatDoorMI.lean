/- What props, single.Take and inline compute, said as plain functions. -/
import Derived.Test.YtghigiapfmlkbaaGreatDoorM4
namespace Go.Proofs.YtghigiapfmlkbaaGreatDoor
open Go.RowKit

/-! ### props -/
def validTagB (s : Bs) : Bool :=
  match s with
  | [] => false
  | c :: t => if c = 33 then t.isEmpty || nameB (match t with | [] => [] | d :: u => if d = 33 then u else t) else false
/-- A word more; none: it may not be. -/
def addB (p : Bs × Bs) (word : Bs) : Option (Bs × Bs) :=
  match word with
  | [] => none
  | c :: t => if c = 38 then if p.2.isEmpty && nameB t then some (p.1, t) else none else if p.1.isEmpty && validTagB word then some (word, p.2) else none
def wordB (l : Bs) : Bs := l.takeWhile (· != 32)
def leftB (l : Bs) : Bs := l.dropWhile (· == 32)
/-- From what is left on: what is taken so far, where it ends, where what is left begins. -/
def propsGo : Nat → Bs → Bs × Bs → Nat → Nat → (Bs × Bs) × Nat × Bool
  | 0, _, p, n, _ => (p, n, true)
  | f + 1, l, p, n, i =>
    match l with
    | [] => (p, n, true)
    | c :: _ =>
      if c = 38 ∨ c = 33 then
        match addB p (wordB l) with
        | none => (([], []), 0, false)
        | some q => propsGo f (leftB (l.drop (wordB l).length)) q (i + (wordB l).length) (i + l.length - (leftB (l.drop (wordB l).length)).length)
      else (p, n, true)
/-- Tag and anchor, where they end; false: not of their form. -/
def propsB (l : Bs) : (Bs × Bs) × Nat × Bool := propsGo l.length l ([], []) 0 0
def takeAliasB (l : Bs) : Bs × Nat × Bool :=
  match l with
  | [] => ([], 0, false)
  | c :: t => if c = 42 then if nameB ((t.take 33).takeWhile letterB) then ((t.take 33).takeWhile letterB, ((t.take 33).takeWhile letterB).length + 1, true) else ([], 0, false) else ([], 0, false)

/-! ### single.Take -/
def singleGo : Nat → Bs → Bs → Nat → Bs × Nat × Bool
  | 0, _, _, _ => ([], 0, false)
  | f + 1, l, out, i =>
    match l with
    | [] => ([], 0, false)
    | c :: t =>
      if c = 10 ∨ c = 13 then ([], 0, false)
      else if c ≠ 39 then singleGo f t (out ++ [c]) (i + 1)
      else match t with
        | [] => (out, i + 1, true)
        | d :: u => if d = 39 then singleGo f u (out ++ [39]) (i + 2) else (out, i + 1, true)
def takeS (l : Bs) : Bs × Nat × Bool :=
  match l with
  | [] => ([], 0, false)
  | c :: t => if c = 39 then singleGo t.length t [] 1 else ([], 0, false)

/-! ### inline -/
structure Nd where
  kind : Nat
  style : Nat
  tag : Bs
  anchor : Bs
  value : Bs
  start : Nat
  stop : Nat
  head : Nat
  mark : Nat
  kids : List Nat
  deriving DecidableEq
def tagB (kind style : Int) (tag value : Bs) : Bs :=
  if !tag.isEmpty && tag != [33] then tag
  else if kind = 2 then [33, 33, 115, 101, 113]
  else if kind = 3 then [33, 33, 109, 97, 112]
  else if kind = 4 then []
  else if kind = 0 && tag.isEmpty then tagNull
  else if kind = 1 && style = 1 && tag.isEmpty then resolveB value
  else tagStr
def skipB (b : Bs) (at_ : Nat) : Nat := at_ + ((b.drop at_).takeWhile (· == 32)).length
def isB (b : Bs) (at_ : Nat) (signs : Bs) : Bool := decide (at_ < b.length) && signs.contains (b.getD at_ 0)
/-- The scalar at a place: its value, its style, how many bytes it has; false: it does not end. -/
def textB (b : Bs) (at_ : Nat) (flow : Bool) : Bs × Nat × Nat × Bool :=
  if isB b at_ [34] then ((takeD (b.drop at_)).1, 3, (takeD (b.drop at_)).2.1, (takeD (b.drop at_)).2.2)
  else if isB b at_ [39] then ((takeS (b.drop at_)).1, 2, (takeS (b.drop at_)).2.1, (takeS (b.drop at_)).2.2)
  else ((b.drop at_).take (plainLen (b.drop at_) flow), 1, plainLen (b.drop at_) flow, true)
/-- The last node's places, and its tag. -/
def Nd.done (y : Nd) : Nd := { y with tag := tagB y.kind y.style y.tag y.value, head := y.start, mark := y.start }
def nd0 : Nd := ⟨0, 0, [], [], [], 0, 0, 0, 0, []⟩
def noneB (y : Nd) : Bool := y.kind == 0 && y.start == y.stop
/-- The key of a pair: its node, and where what is behind the colon begins; none: not of its form. -/
def keyAt (b : Bs) (at_ : Nat) : Option (Nd × Nat) :=
  let t := textB b at_ true
  if !t.2.2.2 || t.2.2.1 == 0 || decide (128 < t.2.2.1) then none
  else
    let mark := skipB b (at_ + t.2.2.1) + 1
    if !isB b (mark - 1) [58] || (decide (mark < b.length) && !isB b mark [32, 44, 125]) then none
    else some (⟨1, t.2.1, tagB 1 t.2.1 [] t.1, [], t.1, at_, at_ + t.2.2.1, at_, at_, []⟩, mark)
mutual
/-- A node at a place: where it ends, the error, the list; none: so much fuel does not do. -/
def nodeM (f : Nat) (b : Bs) (at_ : Nat) (flow : Bool) (depth : Nat) (l : List Nd) : Option (Nat × Nat × List Nd) :=
  match f with
  | 0 => none
  | f + 1 =>
    let p := propsB (b.drop at_)
    if !p.2.2 then some (0, 2, l)
    else
      let n := p.2.1
      let at1 := skipB b (at_ + n)
      let x : Nd := { nd0 with tag := p.1.1, anchor := p.1.2, start := if n = 0 then at1 else at_, stop := at_ + n }
      if isB b at1 [42] then
        let a := takeAliasB (b.drop at1)
        if decide (0 < n) || !a.2.2 then some (0, 2, l ++ [x])
        else
          let y : Nd := { x with kind := 4, value := a.1, stop := at1 + a.2.1 }
          some (y.stop, 0, l ++ [y.done])
      else if isB b at1 [91, 123] then
        match collM f b l.length at1 depth (l ++ [x]) with
        | none => none
        | some (e, m) =>
          if e ≠ 0 then some (0, e, m)
          else
            let y := (m.getD l.length nd0).done
            some (y.stop, 0, m.set l.length y)
      else
        let t := textB b at1 flow
        if !t.2.2.2 then some (0, 2, l ++ [x])
        else
          let y : Nd := if decide (0 < t.2.2.1) then { x with kind := 1, style := t.2.1, value := t.1, stop := at1 + t.2.2.1 } else if n = 0 then { x with start := at_, stop := at_ } else x
          some (y.done.stop, 0, l ++ [y.done])
/-- What begins with a bracket: the error, the list. -/
def collM (f : Nat) (b : Bs) (i at_ depth : Nat) (l : List Nd) : Option (Nat × List Nd) :=
  match f with
  | 0 => none
  | f + 1 =>
    if 64 ≤ depth then some (3, l)
    else
      let mapping := isB b at_ [123]
      let l1 := l.set i { l.getD i nd0 with kind := if mapping then 3 else 2, style := 7 }
      let at1 := skipB b (at_ + 1)
      if isB b at1 (if mapping then [125] else [93]) then some (0, l1.set i { l1.getD i nd0 with stop := at1 + 1 })
      else loopM f b i at1 depth mapping l1
/-- The items, or the pairs, from a place on. -/
def loopM (f : Nat) (b : Bs) (i at_ depth : Nat) (mapping : Bool) (l : List Nd) : Option (Nat × List Nd) :=
  match f with
  | 0 => none
  | f + 1 =>
    match (if mapping then pairM f b i at_ depth l else itemM f b i at_ depth l) with
    | none => none
    | some (at1, e, l1) =>
      if e ≠ 0 then some (e, l1)
      else
        let at2 := skipB b at1
        if isB b at2 (if mapping then [125] else [93]) then some (0, l1.set i { l1.getD i nd0 with stop := at2 + 1 })
        else if !isB b at2 [44] then some (2, l1)
        else loopM f b i (skipB b (at2 + 1)) depth mapping l1
/-- An item of a sequence. -/
def itemM (f : Nat) (b : Bs) (i at_ depth : Nat) (l : List Nd) : Option (Nat × Nat × List Nd) :=
  match f with
  | 0 => none
  | f + 1 =>
    match nodeM f b at_ true (depth + 1) l with
    | none => none
    | some (n, e, m) =>
      if e ≠ 0 then some (0, e, m)
      else if noneB (m.getD l.length nd0) then some (0, 2, m)
      else some (n, 0, m.set i { m.getD i nd0 with kids := (m.getD i nd0).kids ++ [l.length] })
/-- A key and a value. -/
def pairM (f : Nat) (b : Bs) (i at_ depth : Nat) (l : List Nd) : Option (Nat × Nat × List Nd) :=
  match f with
  | 0 => none
  | f + 1 =>
    let t := textB b at_ true
    if !t.2.2.2 || t.2.2.1 == 0 || decide (128 < t.2.2.1) then some (0, 2, l)
    else
      let l1 := l ++ [⟨1, t.2.1, tagB 1 t.2.1 [] t.1, [], t.1, at_, at_ + t.2.2.1, at_, at_, []⟩]
      let mark := skipB b (at_ + t.2.2.1) + 1
      if !isB b (mark - 1) [58] || (decide (mark < b.length) && !isB b mark [32, 44, 125]) then some (0, 2, l1)
      else
        match nodeM f b (skipB b mark) true (depth + 1) l1 with
        | none => none
        | some (n, e, m) =>
          if e ≠ 0 then some (0, e, m)
          else
            let x := m.getD (l.length + 1) nd0
            let y : Nd := if noneB x then { x with start := mark, stop := mark, head := at_, mark := mark } else { x with head := at_, mark := mark }
            let m1 := m.set (l.length + 1) y
            some (n, 0, m1.set i { m1.getD i nd0 with kids := (m1.getD i nd0).kids ++ [l.length, l.length + 1] })
end
/-- Take's answer: the nodes, where they end, the error. -/
def takeM (f : Nat) (b : Bs) (flow : Bool) (depth : Nat) : Option (List Nd × Nat × Nat) :=
  match nodeM f b 0 flow depth [] with
  | none => none
  | some (n, e, l) => if e ≠ 0 then some ([], 0, e) else some (l, n, 0)
def markL : Bs := [239, 187, 191]
/-- Parse's answer: the nodes, the error. -/
def parseM (f : Nat) (s : Bs) (flow : Bool) : Option (List Nd × Nat) :=
  if (check s).2 != 0 || List.isPrefixOf markL s || s.any (fun c => c == 13 || c == 10) then some ([], 1)
  else match takeM f s flow 0 with
    | none => none
    | some (l, n, e) => if e ≠ 0 then some ([], e) else if n ≠ s.length ∨ n = 0 then some ([], 2) else some (l, 0)
end Go.Proofs.YtghigiapfmlkbaaGreatDoor
