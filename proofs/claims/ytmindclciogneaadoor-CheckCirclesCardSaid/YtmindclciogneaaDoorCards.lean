/-
  DERIVED. GIVEN WITH THE SEED: THE CARDS: each row of YtmindclciogneaaDoorRows.lean that lists a variable, with what it lists TIED to the program's text (the seventh form; the later family's looks); each row that meets fmt, with fmt's text TOLD by the authors' own Lean function (tested against real Go, not proved from fmt's source: count such statements apart). THE CARD IS WHAT COUNTS. Prove the row's statement (the work); the ties are given (YtmindclciogneaaDoorTie.lean); close each card by the builder's one call (the guide's Derived/Test/ToyasCard.lean, 'card_holds'). Laid BY PROGRAM, IN A SANDBOX (cutbox-door.mjs). By AI agents, Wed Nov 11 2026. No macro, syntax, notation, axiom, sorry.
-/
import Derived.Test.YtmindclciogneaaDoorRows
import GoSem.ClaimSeven
namespace Go.Proofs.YtmindclciogneaaDoor
namespace Rows

/-- THE TIED CARD OF 'scholiumlaw09.StyleTells'. -/
def styleTellsCard : Claim7 := { stood := { row := styleTellsRow, standIns := [], harness := (true, "b2fe7bb3f8bf5cd38983410453abbe512c69681cb758a41299dbe4d59b8d5d87"), looks := false }, kinds := [], alts := [], laidByText := true, laidKinds := [.data, .pinned], laidTests := true, laidLooks := .later }
def StyleTellsCardSaid : Prop := Claim7.holds Tryd.pinned (.plain (OpenSpec.ofChange styleTellsSpec)) styleTellsCard

/-- THE TIED CARD OF 'scholiumlaw12.InlineForms'. -/
def inlineFormsCard : Claim7 := { stood := { row := inlineFormsRow, standIns := [], harness := (true, "b2fe7bb3f8bf5cd38983410453abbe512c69681cb758a41299dbe4d59b8d5d87"), looks := false }, kinds := [], alts := [], laidByText := true, laidKinds := [.data, .pinned], laidTests := true, laidLooks := .later }
def InlineFormsCardSaid : Prop := Claim7.holds Tryd.pinned (.plain (OpenSpec.ofChange inlineFormsSpec)) inlineFormsCard

/-- THE TIED CARD OF 'scholiumlaw12.InlineSpans'. -/
def inlineSpansCard : Claim7 := { stood := { row := inlineSpansRow, standIns := [], harness := (true, "b2fe7bb3f8bf5cd38983410453abbe512c69681cb758a41299dbe4d59b8d5d87"), looks := false }, kinds := [], alts := [], laidByText := true, laidKinds := [.data, .pinned], laidTests := true, laidLooks := .later }
def InlineSpansCardSaid : Prop := Claim7.holds Tryd.pinned (.plain (OpenSpec.ofChange inlineSpansSpec)) inlineSpansCard

/-- THE TIED CARD OF 'scholiumlaw14.CheckForms'. -/
def checkFormsCard : Claim7 := { stood := { row := checkFormsRow, standIns := [], harness := (true, "b2fe7bb3f8bf5cd38983410453abbe512c69681cb758a41299dbe4d59b8d5d87"), looks := false }, kinds := [], alts := [], laidByText := true, laidKinds := [.data, .pinned], laidTests := true, laidLooks := .later }
def CheckFormsCardSaid : Prop := Claim7.holds Tryd.pinned (.plain (OpenSpec.ofChange checkFormsSpec)) checkFormsCard

/-- THE TIED CARD OF 'scholiumlaw14.CheckCircles'. -/
def checkCirclesCard : Claim7 := { stood := { row := checkCirclesRow, standIns := [], harness := (true, "b2fe7bb3f8bf5cd38983410453abbe512c69681cb758a41299dbe4d59b8d5d87"), looks := false }, kinds := [], alts := [], laidByText := true, laidKinds := [.data, .pinned], laidTests := true, laidLooks := .later }
def CheckCirclesCardSaid : Prop := Claim7.holds Tryd.pinned (.plain (OpenSpec.ofChange checkCirclesSpec)) checkCirclesCard

/-- THE TIED CARD OF 'scholiumlaw12.InlineStyles'. -/
def inlineStylesCard : Claim7 := { stood := { row := inlineStylesRow, standIns := [], harness := (true, "b2fe7bb3f8bf5cd38983410453abbe512c69681cb758a41299dbe4d59b8d5d87"), looks := false }, kinds := [], alts := [], laidByText := true, laidKinds := [.data, .pinned], laidTests := true, laidLooks := .later }
def InlineStylesCardSaid : Prop := Claim7.holds Tryd.pinned (.plain (OpenSpec.ofChange inlineStylesSpec)) inlineStylesCard

/-- THE TIED CARD OF 'scholiumlaw19.RenderErrors'. -/
def renderErrorsCard : Claim7 := { stood := { row := renderErrorsRow, standIns := [], harness := (true, "b2fe7bb3f8bf5cd38983410453abbe512c69681cb758a41299dbe4d59b8d5d87"), looks := false }, kinds := [], alts := [], laidByText := true, laidKinds := [.data, .data, .data, .data, .pinned], laidTests := true, laidLooks := .later }
def RenderErrorsCardSaid : Prop := Claim7.holds Tryd.pinned (.plain (OpenSpec.ofChange renderErrorsSpec)) renderErrorsCard

/-- THE SECOND FORM's CARD OF 'scholiumlaw09.StyleTells'. -/
def styleTellsUptoCard : Claim7 := { stood := { row := styleTellsUptoRow, standIns := [], harness := (true, "b2fe7bb3f8bf5cd38983410453abbe512c69681cb758a41299dbe4d59b8d5d87"), looks := false }, kinds := [], alts := [], laidByText := true, laidKinds := [.data, .pinned], laidTests := true, laidLooks := .later }
def StyleTellsUptoCardSaid : Prop := Claim7.holds Tryd.pinned (.plain (OpenSpec.upto styleTellsSpec)) styleTellsUptoCard

/-- THE SECOND FORM's CARD OF 'scholiumlaw12.InlineForms'. -/
def inlineFormsUptoCard : Claim7 := { stood := { row := inlineFormsUptoRow, standIns := [], harness := (true, "b2fe7bb3f8bf5cd38983410453abbe512c69681cb758a41299dbe4d59b8d5d87"), looks := false }, kinds := [], alts := [], laidByText := true, laidKinds := [.data, .pinned], laidTests := true, laidLooks := .later }
def InlineFormsUptoCardSaid : Prop := Claim7.holds Tryd.pinned (.plain (OpenSpec.upto inlineFormsSpec)) inlineFormsUptoCard

/-- THE SECOND FORM's CARD OF 'scholiumlaw12.InlineSpans'. -/
def inlineSpansUptoCard : Claim7 := { stood := { row := inlineSpansUptoRow, standIns := [], harness := (true, "b2fe7bb3f8bf5cd38983410453abbe512c69681cb758a41299dbe4d59b8d5d87"), looks := false }, kinds := [], alts := [], laidByText := true, laidKinds := [.data, .pinned], laidTests := true, laidLooks := .later }
def InlineSpansUptoCardSaid : Prop := Claim7.holds Tryd.pinned (.plain (OpenSpec.upto inlineSpansSpec)) inlineSpansUptoCard

/-- THE SECOND FORM's CARD OF 'scholiumlaw14.CheckForms'. -/
def checkFormsUptoCard : Claim7 := { stood := { row := checkFormsUptoRow, standIns := [], harness := (true, "b2fe7bb3f8bf5cd38983410453abbe512c69681cb758a41299dbe4d59b8d5d87"), looks := false }, kinds := [], alts := [], laidByText := true, laidKinds := [.data, .pinned], laidTests := true, laidLooks := .later }
def CheckFormsUptoCardSaid : Prop := Claim7.holds Tryd.pinned (.plain (OpenSpec.upto checkFormsSpec)) checkFormsUptoCard

/-- THE SECOND FORM's CARD OF 'scholiumlaw14.CheckCircles'. -/
def checkCirclesUptoCard : Claim7 := { stood := { row := checkCirclesUptoRow, standIns := [], harness := (true, "b2fe7bb3f8bf5cd38983410453abbe512c69681cb758a41299dbe4d59b8d5d87"), looks := false }, kinds := [], alts := [], laidByText := true, laidKinds := [.data, .pinned], laidTests := true, laidLooks := .later }
def CheckCirclesUptoCardSaid : Prop := Claim7.holds Tryd.pinned (.plain (OpenSpec.upto checkCirclesSpec)) checkCirclesUptoCard

/-- THE SECOND FORM's CARD OF 'scholiumlaw12.InlineStyles'. -/
def inlineStylesUptoCard : Claim7 := { stood := { row := inlineStylesUptoRow, standIns := [], harness := (true, "b2fe7bb3f8bf5cd38983410453abbe512c69681cb758a41299dbe4d59b8d5d87"), looks := false }, kinds := [], alts := [], laidByText := true, laidKinds := [.data, .pinned], laidTests := true, laidLooks := .later }
def InlineStylesUptoCardSaid : Prop := Claim7.holds Tryd.pinned (.plain (OpenSpec.upto inlineStylesSpec)) inlineStylesUptoCard

/-- THE SECOND FORM's CARD OF 'scholiumlaw19.RenderErrors'. -/
def renderErrorsUptoCard : Claim7 := { stood := { row := renderErrorsUptoRow, standIns := [], harness := (true, "b2fe7bb3f8bf5cd38983410453abbe512c69681cb758a41299dbe4d59b8d5d87"), looks := false }, kinds := [], alts := [], laidByText := true, laidKinds := [.data, .data, .data, .data, .pinned], laidTests := true, laidLooks := .later }
def RenderErrorsUptoCardSaid : Prop := Claim7.holds Tryd.pinned (.plain (OpenSpec.upto renderErrorsSpec)) renderErrorsUptoCard
end Rows
end Go.Proofs.YtmindclciogneaaDoor
