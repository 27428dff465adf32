/-
  DERIVED. GIVEN WITH THE SEED: THE CARDS: each row of YtghigiapfmlkbaaGreatDoorRows.lean that lists a variable, with what it lists TIED to the program's text (the seventh form; the later family's looks); each row that meets fmt, with fmt's text TOLD by the authors' own Lean function (tested against real Go, not proved from fmt's source: count such statements apart). THE CARD IS WHAT COUNTS. Prove the row's statement (the work); the ties are given (YtghigiapfmlkbaaGreatDoorTie.lean); close each card by the builder's one call (the guide's Derived/Test/ToyasCard.lean, 'card_holds'). Laid BY PROGRAM, IN A SANDBOX (cutbox-door.mjs). By AI agents, Wed Nov 11 2026. No macro, syntax, notation, axiom, sorry.
-/
import Derived.Test.YtghigiapfmlkbaaGreatDoorRows
import GoSem.ClaimSeven
namespace Go.Proofs.YtghigiapfmlkbaaGreatDoor
namespace Rows

/-- THE TIED CARD OF 'scholiumlaw19.RenderForms'. -/
def renderFormsCard : Claim7 := { stood := { row := renderFormsRow, standIns := [], harness := (true, "7937fecc3159702a9baee8a2ae98b199cfbd6e9cbee770e97b895f03342b79a8"), looks := false }, kinds := [], alts := [], laidByText := true, laidKinds := [.data, .data, .data, .data, .pinned], laidTests := true, laidLooks := .later }
def RenderFormsCardSaid : Prop := Claim7.holds Tryz.pinned (.plain (OpenSpec.ofChange renderFormsSpec)) renderFormsCard

/-- THE TIED CARD OF 'scholiumlaw15.BlockProps'. -/
def blockPropsCard : Claim7 := { stood := { row := blockPropsRow, standIns := [], harness := (true, "7937fecc3159702a9baee8a2ae98b199cfbd6e9cbee770e97b895f03342b79a8"), looks := false }, kinds := [], alts := [], laidByText := true, laidKinds := [.data, .pinned], laidTests := true, laidLooks := .later }
def BlockPropsCardSaid : Prop := Claim7.holds Tryz.pinned (.plain (OpenSpec.ofChange blockPropsSpec)) blockPropsCard

/-- THE TIED CARD OF 'scholiumlaw15.BlockDeep'. -/
def blockDeepCard : Claim7 := { stood := { row := blockDeepRow, standIns := [], harness := (true, "7937fecc3159702a9baee8a2ae98b199cfbd6e9cbee770e97b895f03342b79a8"), looks := false }, kinds := [], alts := [], laidByText := true, laidKinds := [.data, .pinned], laidTests := true, laidLooks := .later }
def BlockDeepCardSaid : Prop := Claim7.holds Tryz.pinned (.plain (OpenSpec.ofChange blockDeepSpec)) blockDeepCard

/-- THE TIED CARD OF 'scholiumlaw15.BlockForms'. -/
def blockFormsCard : Claim7 := { stood := { row := blockFormsRow, standIns := [], harness := (true, "7937fecc3159702a9baee8a2ae98b199cfbd6e9cbee770e97b895f03342b79a8"), looks := false }, kinds := [], alts := [], laidByText := true, laidKinds := [.data, .pinned], laidTests := true, laidLooks := .later }
def BlockFormsCardSaid : Prop := Claim7.holds Tryz.pinned (.plain (OpenSpec.ofChange blockFormsSpec)) blockFormsCard

/-- THE TIED CARD OF 'scholiumlaw16.StreamMarks'. -/
def streamMarksCard : Claim7 := { stood := { row := streamMarksRow, standIns := [], harness := (true, "7937fecc3159702a9baee8a2ae98b199cfbd6e9cbee770e97b895f03342b79a8"), looks := false }, kinds := [], alts := [], laidByText := true, laidKinds := [.data, .pinned], laidTests := true, laidLooks := .later }
def StreamMarksCardSaid : Prop := Claim7.holds Tryz.pinned (.plain (OpenSpec.ofChange streamMarksSpec)) streamMarksCard

/-- THE TIED CARD OF 'scholiumlaw16.StreamErrors'. -/
def streamErrorsCard : Claim7 := { stood := { row := streamErrorsRow, standIns := [], harness := (true, "7937fecc3159702a9baee8a2ae98b199cfbd6e9cbee770e97b895f03342b79a8"), looks := false }, kinds := [], alts := [], laidByText := true, laidKinds := [.data, .pinned], laidTests := true, laidLooks := .later }
def StreamErrorsCardSaid : Prop := Claim7.holds Tryz.pinned (.plain (OpenSpec.ofChange streamErrorsSpec)) streamErrorsCard

/-- THE TIED CARD OF 'scholiumlaw17.TokenForms'. -/
def tokenFormsCard : Claim7 := { stood := { row := tokenFormsRow, standIns := [], harness := (true, "7937fecc3159702a9baee8a2ae98b199cfbd6e9cbee770e97b895f03342b79a8"), looks := false }, kinds := [], alts := [], laidByText := true, laidKinds := [.data, .pinned], laidTests := true, laidLooks := .later }
def TokenFormsCardSaid : Prop := Claim7.holds Tryz.pinned (.plain (OpenSpec.ofChange tokenFormsSpec)) tokenFormsCard

/-- THE TIED CARD OF 'scholiumlaw19.RenderDeep'. -/
def renderDeepCard : Claim7 := { stood := { row := renderDeepRow, standIns := [], harness := (true, "7937fecc3159702a9baee8a2ae98b199cfbd6e9cbee770e97b895f03342b79a8"), looks := false }, kinds := [], alts := [], laidByText := true, laidKinds := [.data, .data, .data, .data, .pinned], laidTests := true, laidLooks := .later }
def RenderDeepCardSaid : Prop := Claim7.holds Tryz.pinned (.plain (OpenSpec.ofChange renderDeepSpec)) renderDeepCard

/-- THE SECOND FORM's CARD OF 'scholiumlaw19.RenderForms'. -/
def renderFormsUptoCard : Claim7 := { stood := { row := renderFormsUptoRow, standIns := [], harness := (true, "7937fecc3159702a9baee8a2ae98b199cfbd6e9cbee770e97b895f03342b79a8"), looks := false }, kinds := [], alts := [], laidByText := true, laidKinds := [.data, .data, .data, .data, .pinned], laidTests := true, laidLooks := .later }
def RenderFormsUptoCardSaid : Prop := Claim7.holds Tryz.pinned (.plain (OpenSpec.upto renderFormsSpec)) renderFormsUptoCard

/-- THE SECOND FORM's CARD OF 'scholiumlaw15.BlockProps'. -/
def blockPropsUptoCard : Claim7 := { stood := { row := blockPropsUptoRow, standIns := [], harness := (true, "7937fecc3159702a9baee8a2ae98b199cfbd6e9cbee770e97b895f03342b79a8"), looks := false }, kinds := [], alts := [], laidByText := true, laidKinds := [.data, .pinned], laidTests := true, laidLooks := .later }
def BlockPropsUptoCardSaid : Prop := Claim7.holds Tryz.pinned (.plain (OpenSpec.upto blockPropsSpec)) blockPropsUptoCard

/-- THE SECOND FORM's CARD OF 'scholiumlaw15.BlockDeep'. -/
def blockDeepUptoCard : Claim7 := { stood := { row := blockDeepUptoRow, standIns := [], harness := (true, "7937fecc3159702a9baee8a2ae98b199cfbd6e9cbee770e97b895f03342b79a8"), looks := false }, kinds := [], alts := [], laidByText := true, laidKinds := [.data, .pinned], laidTests := true, laidLooks := .later }
def BlockDeepUptoCardSaid : Prop := Claim7.holds Tryz.pinned (.plain (OpenSpec.upto blockDeepSpec)) blockDeepUptoCard

/-- THE SECOND FORM's CARD OF 'scholiumlaw15.BlockForms'. -/
def blockFormsUptoCard : Claim7 := { stood := { row := blockFormsUptoRow, standIns := [], harness := (true, "7937fecc3159702a9baee8a2ae98b199cfbd6e9cbee770e97b895f03342b79a8"), looks := false }, kinds := [], alts := [], laidByText := true, laidKinds := [.data, .pinned], laidTests := true, laidLooks := .later }
def BlockFormsUptoCardSaid : Prop := Claim7.holds Tryz.pinned (.plain (OpenSpec.upto blockFormsSpec)) blockFormsUptoCard

/-- THE SECOND FORM's CARD OF 'scholiumlaw16.StreamMarks'. -/
def streamMarksUptoCard : Claim7 := { stood := { row := streamMarksUptoRow, standIns := [], harness := (true, "7937fecc3159702a9baee8a2ae98b199cfbd6e9cbee770e97b895f03342b79a8"), looks := false }, kinds := [], alts := [], laidByText := true, laidKinds := [.data, .pinned], laidTests := true, laidLooks := .later }
def StreamMarksUptoCardSaid : Prop := Claim7.holds Tryz.pinned (.plain (OpenSpec.upto streamMarksSpec)) streamMarksUptoCard

/-- THE SECOND FORM's CARD OF 'scholiumlaw16.StreamErrors'. -/
def streamErrorsUptoCard : Claim7 := { stood := { row := streamErrorsUptoRow, standIns := [], harness := (true, "7937fecc3159702a9baee8a2ae98b199cfbd6e9cbee770e97b895f03342b79a8"), looks := false }, kinds := [], alts := [], laidByText := true, laidKinds := [.data, .pinned], laidTests := true, laidLooks := .later }
def StreamErrorsUptoCardSaid : Prop := Claim7.holds Tryz.pinned (.plain (OpenSpec.upto streamErrorsSpec)) streamErrorsUptoCard

/-- THE SECOND FORM's CARD OF 'scholiumlaw17.TokenForms'. -/
def tokenFormsUptoCard : Claim7 := { stood := { row := tokenFormsUptoRow, standIns := [], harness := (true, "7937fecc3159702a9baee8a2ae98b199cfbd6e9cbee770e97b895f03342b79a8"), looks := false }, kinds := [], alts := [], laidByText := true, laidKinds := [.data, .pinned], laidTests := true, laidLooks := .later }
def TokenFormsUptoCardSaid : Prop := Claim7.holds Tryz.pinned (.plain (OpenSpec.upto tokenFormsSpec)) tokenFormsUptoCard

/-- THE SECOND FORM's CARD OF 'scholiumlaw19.RenderDeep'. -/
def renderDeepUptoCard : Claim7 := { stood := { row := renderDeepUptoRow, standIns := [], harness := (true, "7937fecc3159702a9baee8a2ae98b199cfbd6e9cbee770e97b895f03342b79a8"), looks := false }, kinds := [], alts := [], laidByText := true, laidKinds := [.data, .data, .data, .data, .pinned], laidTests := true, laidLooks := .later }
def RenderDeepUptoCardSaid : Prop := Claim7.holds Tryz.pinned (.plain (OpenSpec.upto renderDeepSpec)) renderDeepUptoCard
end Rows
end Go.Proofs.YtghigiapfmlkbaaGreatDoor
