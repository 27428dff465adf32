/- What iso and render compute, said as plain functions. -/
import Derived.Test.YtghigiapfmlkbaaGreatDoorKA
import Derived.Test.YtghigiapfmlkbaaGreatDoorMI
namespace Go.Proofs.YtghigiapfmlkbaaGreatDoor
open Go.RowKit

/-- iso.keyed. -/
def keyedM (g : List Th) (ks : List Nat) : Bool :=
  (evs ks).all (fun k => (g.getD k ⟨0, [], [], []⟩).kind == 1) && ks.length % 2 == 0 &&
  decide ((evs ks).map fun k => ((g.getD k ⟨0, [], [], []⟩).tag, (g.getD k ⟨0, [], [], []⟩).value)).Nodup
/-- iso.order: the stack's top is the list's head. -/
def orderGo (g : List Th) : Nat → List Nat → List Nat → List Nat
  | 0, _, out => out
  | _ + 1, [], out => out
  | f + 1, i :: left, out => if i ∈ out then orderGo g f left out else orderGo g f ((g.getD i ⟨0, [], [], []⟩).kids ++ left) (out ++ [i])
def orderM (g : List Th) : List Nat := orderGo g ((g.map fun t => t.kids.length).sum + g.length + 1) [0] []
/-- Of each thing its place in a list; 0 else. -/
def numM (n : Nat) (l : List Nat) : List Nat := l.zipIdx.foldl (fun acc p => acc.set p.1 p.2) (List.replicate n 0)
def canonOf (g : List Th) (nu : List Nat) (i : Nat) : Th := { (g.getD i ⟨0, [], [], []⟩) with kids := (g.getD i ⟨0, [], [], []⟩).kids.map fun k => nu.getD k 0 }
def canonM (g : List Th) : List Th := if g = [] then [] else (orderM g).map (canonOf g (numM g.length (orderM g)))
def sharedM (g : List Th) : List Nat :=
  let c := canonM g
  (List.range c.length).filter fun i => decide (1 < (if i = 0 then 1 else 0) + (c.map fun t => t.kids.count i).sum)
/-- iso.right. -/
def rightM (g : List Th) (t : Th) : Bool :=
  if ¬ validTagB t.tag ∨ t.tag = [33] then false
  else if ¬ t.kids.all (fun k => decide (k < g.length)) then false
  else if t.kind = 1 then t.kids.length == 0 && utfB t.value
  else if t.kind = 2 then t.value == []
  else if t.kind = 3 then t.value == [] && keyedM g t.kids
  else false
def validM (g : List Th) : Bool := decide (0 < g.length) && g.all (rightM g)

end Go.Proofs.YtghigiapfmlkbaaGreatDoor
