/-
  DERIVED. GIVEN WITH THE SEED: THE CARDS: each row of YtghigiapfmlkbaaDoorRows.lean that lists a variable, with what it lists TIED to the program's text (the seventh form; the later family's looks); each row that meets fmt, with fmt's text TOLD by the authors' own Lean function (tested against real Go, not proved from fmt's source: count such statements apart). THE CARD IS WHAT COUNTS. Prove the row's statement (the work); the ties are given (YtghigiapfmlkbaaDoorTie.lean); close each card by the builder's one call (the guide's Derived/Test/ToyasCard.lean, 'card_holds'). Laid BY PROGRAM, IN A SANDBOX (cutbox-door.mjs). By AI agents, Wed Nov 11 2026. No macro, syntax, notation, axiom, sorry.
-/
import Derived.Test.YtghigiapfmlkbaaDoorRows
import GoSem.ClaimSeven
namespace Go.Proofs.YtghigiapfmlkbaaDoor
namespace Rows

/-- THE TIED CARD OF 'scholiumlaw19.RenderErrors'. -/
def renderErrorsCard : Claim7 := { stood := { row := renderErrorsRow, standIns := [], harness := (true, "859801ced6150a5ae99b53cff1e6c7d6a5a5cba7aba31deaa13f2e5e87a1d211"), looks := false }, kinds := [], alts := [], laidByText := true, laidKinds := [.data, .data, .data, .data, .pinned], laidTests := true, laidLooks := .later }
def RenderErrorsCardSaid : Prop := Claim7.holds Tryd.pinned (.plain (OpenSpec.ofChange renderErrorsSpec)) renderErrorsCard

/-- THE SECOND FORM's CARD OF 'scholiumlaw19.RenderErrors'. -/
def renderErrorsUptoCard : Claim7 := { stood := { row := renderErrorsUptoRow, standIns := [], harness := (true, "859801ced6150a5ae99b53cff1e6c7d6a5a5cba7aba31deaa13f2e5e87a1d211"), looks := false }, kinds := [], alts := [], laidByText := true, laidKinds := [.data, .data, .data, .data, .pinned], laidTests := true, laidLooks := .later }
def RenderErrorsUptoCardSaid : Prop := Claim7.holds Tryd.pinned (.plain (OpenSpec.upto renderErrorsSpec)) renderErrorsUptoCard
end Rows
end Go.Proofs.YtghigiapfmlkbaaDoor
