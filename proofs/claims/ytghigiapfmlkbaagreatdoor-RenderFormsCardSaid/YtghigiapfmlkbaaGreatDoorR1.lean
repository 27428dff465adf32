/- What render computes, said as plain functions. -/
import Derived.Test.YtghigiapfmlkbaaGreatDoorR0
import Derived.Test.YtghigiapfmlkbaaGreatDoorS1
import Derived.Lib.Join
namespace Go.Proofs.YtghigiapfmlkbaaGreatDoor
open Go.RowKit

/-- Is a thing a mapping's key? -/
def isKeyT (c : List Th) (i : Nat) : Bool := c.any fun t => t.kind == 3 && (evs t.kids).any (· == i)
/-- A number below 100, in digits. -/
def digB (n : Nat) : Bs := if n < 10 then [UInt8.ofNat (48 + n)] else [UInt8.ofNat (48 + n / 10), UInt8.ofNat (48 + n % 10)]
/-- The names of a graph's shared things. -/
def anchorM (c : List Th) (i : Nat) : Option Bs :=
  if isKeyT c i then none else ((sharedM c).findIdx? (· == i)).map fun n => 97 :: digB (n + 1)
def th0 : Th := ⟨0, [], [], []⟩
/-- render.deep: so much fuel; how deep, what was met. -/
def deepM (c : List Th) : Nat → Nat → List Nat → Option (Nat × List Nat)
  | 0, _, _ => none
  | f + 1, i, met => if i ∈ met ∨ (c.getD i th0).kind = 1 then some (0, met) else
      ((c.getD i th0).kids.foldlM (fun (p : Nat × List Nat) k => (deepM c f k p.2).map fun q => (max p.1 q.1, q.2)) (0, i :: met)).map fun p => (p.1 + 1, p.2)
/-- props.Put. -/
def putP (anchor tag : Bs) : Bs :=
  (if anchor = [] then [] else 38 :: anchor) ++ (if anchor ≠ [] ∧ tag ≠ [] then [32] else []) ++ tag
/-- What stands ahead of a collection. -/
def propsM (c : List Th) (an : Nat → Option Bs) (i : Nat) : Bs :=
  let t := c.getD i th0
  putP ((an i).getD []) (if (t.kind = 2 ∧ t.tag = [33, 33, 115, 101, 113]) ∨ (t.kind = 3 ∧ t.tag = [33, 33, 109, 97, 112]) ∨ (t.kind ≠ 2 ∧ t.kind ≠ 3 ∧ t.tag = []) then [] else t.tag)
def aheadM (p s : Bs) : Bs := if p = [] then s else p ++ [32] ++ s
/-- render.small: text, on a line, error; what was met. -/
def smallM (c : List Th) (an : Nat → Option Bs) (flow : Bool) (met : List Nat) (i : Nat) : (Bs × Bool × Nat) × List Nat :=
  let t := c.getD i th0
  if (an i).isSome ∧ i ∈ met then ((42 :: (an i).getD [], true, 0), met)
  else
    let met := if i ∈ met then met else i :: met
    if t.kind = 1 then
      if (bestB t.tag t.value flow).2 then ((aheadM (putP ((an i).getD []) []) (bestB t.tag t.value flow).1, true, 0), met) else (([], false, 11), met)
    else if 0 < t.kids.length then (([], false, 0), met)
    else if t.kind = 2 then ((aheadM (propsM c an i) [91, 93], true, 0), met)
    else ((aheadM (propsM c an i) [123, 125], true, 0), met)
/-- render.key. -/
def rkeyM (c : List Th) (flow : Bool) (i : Nat) : Bs × Nat :=
  let t := c.getD i th0
  if (keyB t.value flow).2 ∧ t.tag = [33, 33, 115, 116, 114] then ((keyB t.value flow).1, 0) else ([], 11)
/-- What a kid at a place is written as: with the key ahead of it; none: a key. -/
def itemF (t : Th) (p : Nat × Nat) : Option (Option Nat × Nat) :=
  if t.kind = 3 then (if p.2 % 2 = 0 then none else some (some (t.kids.getD (p.2 - 1) 0), p.1)) else some (none, p.1)
/-- The kids that a collection's lines write: with the key ahead of each. -/
def itemsM (t : Th) : List (Option Nat × Nat) := t.kids.zipIdx.filterMap (itemF t)
/-- What stands ahead of a kid: the text, the error. -/
def headM (c : List Th) (flow : Bool) (seq sep : Bs) (x : Option Nat × Nat) : Bs × Nat := match x.1 with
  | none => (seq, 0)
  | some k => ((rkeyM c flow k).1 ++ sep, (rkeyM c flow k).2)
def lineS (s : Bs) : Bs := if s ≠ [] then 32 :: s else s
/-- A kid's line; below: what it does that needs lines of its own. -/
def stepL (c : List Th) (an : Nat → Option Bs) (flow : Bool) (col : Nat) (below : Nat → List Nat → Bs → Option (Nat × List Nat × Bs)) (p : Nat × List Nat × Bs) (x : Option Nat × Nat) : Option (Nat × List Nat × Bs) :=
  if p.1 ≠ 0 then some p
  else if (headM c flow [45] [58] x).2 ≠ 0 then some ((headM c flow [45] [58] x).2, p.2.1, p.2.2)
  else
    let out1 := p.2.2 ++ (List.replicate col 32 ++ (headM c flow [45] [58] x).1)
    let sm := smallM c an flow p.2.1 x.2
    if sm.1.2.2 ≠ 0 then some (sm.1.2.2, sm.2, out1)
    else
      let out2 := out1 ++ (lineS (if sm.1.2.1 then sm.1.1 else propsM c an x.2) ++ [10])
      if sm.1.2.1 then some (0, sm.2, out2) else below x.2 sm.2 out2
/-- render.lines: so much fuel; the error, what was met, what was written. -/
def linesM (c : List Th) (an : Nat → Option Bs) (flow : Bool) : Nat → Nat → Nat → List Nat → Bs → Option (Nat × List Nat × Bs)
  | 0, _, _, _, _ => none
  | f + 1, i, col, met, out => (itemsM (c.getD i th0)).foldlM (stepL c an flow col (fun k m o => linesM c an flow f k (col + 2) m o)) (0, met, out)
/-- render.Render; none: the fuel ran out. -/
def renderM (g : List Th) : Option (Bs × Nat) :=
  if ¬ validM g then some ([], 11) else
  let c := canonM g
  let an := anchorM c
  (deepM c (c.length + 2) 0 []).bind fun d =>
  if 64 < d.1 then some ([], 3) else
  let sm := smallM c an false [] 0
  if sm.1.2.2 ≠ 0 then some ([], sm.1.2.2) else
  if sm.1.2.1 then some (if 65536 < (sm.1.1 ++ [10]).length then ([], 10) else (sm.1.1 ++ [10], 0)) else
  let p := propsM c an 0
  (linesM c an false (c.length + 2) 0 0 sm.2 (if p ≠ [] then p ++ [10] else [])).map fun r =>
  if r.1 ≠ 0 then ([], r.1) else if 65536 < r.2.2.length then ([], 10) else (r.2.2, 0)
/-- A kid on the line. -/
def stepI (c : List Th) (flow : Bool) (below : Nat → List Nat → Option ((Bs × Nat) × List Nat)) (p : (List Bs × Nat) × List Nat) (x : Option Nat × Nat) : Option ((List Bs × Nat) × List Nat) :=
  if p.1.2 ≠ 0 then some p
  else if (headM c flow [] [58, 32] x).2 ≠ 0 then some (([], (headM c flow [] [58, 32] x).2), p.2)
  else (below x.2 p.2).map fun r => if r.1.2 ≠ 0 then (([], r.1.2), r.2) else ((p.1.1 ++ [(headM c flow [] [58, 32] x).1 ++ r.1.1], 0), r.2)
/-- render.inline. -/
def inlineM (c : List Th) (an : Nat → Option Bs) (flow : Bool) : Nat → Nat → List Nat → Option ((Bs × Nat) × List Nat)
  | 0, _, _ => none
  | f + 1, i, met =>
    let sm := smallM c an flow met i
    if sm.1.2.2 ≠ 0 ∨ sm.1.2.1 then some ((sm.1.1, sm.1.2.2), sm.2) else
    ((itemsM (c.getD i th0)).foldlM (stepI c flow (fun k m => inlineM c an flow f k m)) (([], 0), sm.2)).bind fun q =>
    if q.1.2 ≠ 0 then some (([], q.1.2), q.2)
    else if 100000000 < (Lib.join q.1.1 [44, 32]).length then none
    else some ((aheadM (propsM c an i) (if (c.getD i th0).kind = 2 then 91 :: Lib.join q.1.1 [44, 32] ++ [93] else 123 :: Lib.join q.1.1 [44, 32] ++ [125]), 0), q.2)
def rinlineM (g : List Th) : Option (Bs × Nat) :=
  if ¬ validM g ∨ 0 < (sharedM g).length then some ([], 11) else
  let c := canonM g
  let an := anchorM c
  (deepM c (c.length + 2) 0 []).bind fun d =>
  if 64 < d.1 then some ([], 3) else
  (inlineM c an true (c.length + 2) 0 []).map (·.1)
end Go.Proofs.YtghigiapfmlkbaaGreatDoor
