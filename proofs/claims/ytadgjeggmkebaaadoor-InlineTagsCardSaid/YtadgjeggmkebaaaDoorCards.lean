/-
  DERIVED. GIVEN WITH THE SEED: THE CARDS: each row of YtadgjeggmkebaaaDoorRows.lean that lists a variable, with what it lists TIED to the program's text (the seventh form; the later family's looks); each row that meets fmt, with fmt's text TOLD by the authors' own Lean function (tested against real Go, not proved from fmt's source: count such statements apart). THE CARD IS WHAT COUNTS. Prove the row's statement (the work); the ties are given (YtadgjeggmkebaaaDoorTie.lean); close each card by the builder's one call (the guide's Derived/Test/ToyasCard.lean, 'card_holds'). Laid BY PROGRAM, IN A SANDBOX (cutbox-door.mjs). By AI agents, Wed Nov 11 2026. No macro, syntax, notation, axiom, sorry.
-/
import Derived.Test.YtadgjeggmkebaaaDoorRows
import GoSem.ClaimSeven
namespace Go.Proofs.YtadgjeggmkebaaaDoor
namespace Rows

/-- THE TIED CARD OF 'scholiumlaw09.StyleKeys'. -/
def styleKeysCard : Claim7 := { stood := { row := styleKeysRow, standIns := [], harness := (true, "5e3d215cd2de5c069e4482384bd7ba4efcfab3d35db7f0266eb218b69f05ca7b"), looks := false }, kinds := [], alts := [], laidByText := true, laidKinds := [.data, .pinned], laidTests := true, laidLooks := .later }
def StyleKeysCardSaid : Prop := Claim7.holds Tryd.pinned (.plain (OpenSpec.ofChange styleKeysSpec)) styleKeysCard

/-- THE TIED CARD OF 'scholiumlaw09.StyleTells'. -/
def styleTellsCard : Claim7 := { stood := { row := styleTellsRow, standIns := [], harness := (true, "5e3d215cd2de5c069e4482384bd7ba4efcfab3d35db7f0266eb218b69f05ca7b"), looks := false }, kinds := [], alts := [], laidByText := true, laidKinds := [.data, .pinned], laidTests := true, laidLooks := .later }
def StyleTellsCardSaid : Prop := Claim7.holds Tryd.pinned (.plain (OpenSpec.ofChange styleTellsSpec)) styleTellsCard

/-- THE TIED CARD OF 'scholiumlaw09.StyleBack'. -/
def styleBackCard : Claim7 := { stood := { row := styleBackRow, standIns := [], harness := (true, "5e3d215cd2de5c069e4482384bd7ba4efcfab3d35db7f0266eb218b69f05ca7b"), looks := false }, kinds := [], alts := [], laidByText := true, laidKinds := [.data, .pinned], laidTests := true, laidLooks := .later }
def StyleBackCardSaid : Prop := Claim7.holds Tryd.pinned (.plain (OpenSpec.ofChange styleBackSpec)) styleBackCard

/-- THE TIED CARD OF 'scholiumlaw12.InlineForms'. -/
def inlineFormsCard : Claim7 := { stood := { row := inlineFormsRow, standIns := [], harness := (true, "5e3d215cd2de5c069e4482384bd7ba4efcfab3d35db7f0266eb218b69f05ca7b"), looks := false }, kinds := [], alts := [], laidByText := true, laidKinds := [.data, .pinned], laidTests := true, laidLooks := .later }
def InlineFormsCardSaid : Prop := Claim7.holds Tryd.pinned (.plain (OpenSpec.ofChange inlineFormsSpec)) inlineFormsCard

/-- THE TIED CARD OF 'scholiumlaw12.InlineTags'. -/
def inlineTagsCard : Claim7 := { stood := { row := inlineTagsRow, standIns := [], harness := (true, "5e3d215cd2de5c069e4482384bd7ba4efcfab3d35db7f0266eb218b69f05ca7b"), looks := false }, kinds := [], alts := [], laidByText := true, laidKinds := [.data, .pinned], laidTests := true, laidLooks := .later }
def InlineTagsCardSaid : Prop := Claim7.holds Tryd.pinned (.plain (OpenSpec.ofChange inlineTagsSpec)) inlineTagsCard

/-- THE TIED CARD OF 'scholiumlaw12.InlineKeys'. -/
def inlineKeysCard : Claim7 := { stood := { row := inlineKeysRow, standIns := [], harness := (true, "5e3d215cd2de5c069e4482384bd7ba4efcfab3d35db7f0266eb218b69f05ca7b"), looks := false }, kinds := [], alts := [], laidByText := true, laidKinds := [.data, .pinned], laidTests := true, laidLooks := .later }
def InlineKeysCardSaid : Prop := Claim7.holds Tryd.pinned (.plain (OpenSpec.ofChange inlineKeysSpec)) inlineKeysCard

/-- THE TIED CARD OF 'scholiumlaw12.InlineDeep'. -/
def inlineDeepCard : Claim7 := { stood := { row := inlineDeepRow, standIns := [], harness := (true, "5e3d215cd2de5c069e4482384bd7ba4efcfab3d35db7f0266eb218b69f05ca7b"), looks := false }, kinds := [], alts := [], laidByText := true, laidKinds := [.data, .pinned], laidTests := true, laidLooks := .later }
def InlineDeepCardSaid : Prop := Claim7.holds Tryd.pinned (.plain (OpenSpec.ofChange inlineDeepSpec)) inlineDeepCard

/-- THE TIED CARD OF 'scholiumlaw12.InlineSpans'. -/
def inlineSpansCard : Claim7 := { stood := { row := inlineSpansRow, standIns := [], harness := (true, "5e3d215cd2de5c069e4482384bd7ba4efcfab3d35db7f0266eb218b69f05ca7b"), looks := false }, kinds := [], alts := [], laidByText := true, laidKinds := [.data, .pinned], laidTests := true, laidLooks := .later }
def InlineSpansCardSaid : Prop := Claim7.holds Tryd.pinned (.plain (OpenSpec.ofChange inlineSpansSpec)) inlineSpansCard

/-- THE TIED CARD OF 'scholiumlaw14.CheckForms'. -/
def checkFormsCard : Claim7 := { stood := { row := checkFormsRow, standIns := [], harness := (true, "5e3d215cd2de5c069e4482384bd7ba4efcfab3d35db7f0266eb218b69f05ca7b"), looks := false }, kinds := [], alts := [], laidByText := true, laidKinds := [.data, .pinned], laidTests := true, laidLooks := .later }
def CheckFormsCardSaid : Prop := Claim7.holds Tryd.pinned (.plain (OpenSpec.ofChange checkFormsSpec)) checkFormsCard

/-- THE TIED CARD OF 'scholiumlaw14.CheckCircles'. -/
def checkCirclesCard : Claim7 := { stood := { row := checkCirclesRow, standIns := [], harness := (true, "5e3d215cd2de5c069e4482384bd7ba4efcfab3d35db7f0266eb218b69f05ca7b"), looks := false }, kinds := [], alts := [], laidByText := true, laidKinds := [.data, .pinned], laidTests := true, laidLooks := .later }
def CheckCirclesCardSaid : Prop := Claim7.holds Tryd.pinned (.plain (OpenSpec.ofChange checkCirclesSpec)) checkCirclesCard

/-- THE SECOND FORM's CARD OF 'scholiumlaw09.StyleKeys'. -/
def styleKeysUptoCard : Claim7 := { stood := { row := styleKeysUptoRow, standIns := [], harness := (true, "5e3d215cd2de5c069e4482384bd7ba4efcfab3d35db7f0266eb218b69f05ca7b"), looks := false }, kinds := [], alts := [], laidByText := true, laidKinds := [.data, .pinned], laidTests := true, laidLooks := .later }
def StyleKeysUptoCardSaid : Prop := Claim7.holds Tryd.pinned (.plain (OpenSpec.upto styleKeysSpec)) styleKeysUptoCard

/-- THE SECOND FORM's CARD OF 'scholiumlaw09.StyleTells'. -/
def styleTellsUptoCard : Claim7 := { stood := { row := styleTellsUptoRow, standIns := [], harness := (true, "5e3d215cd2de5c069e4482384bd7ba4efcfab3d35db7f0266eb218b69f05ca7b"), looks := false }, kinds := [], alts := [], laidByText := true, laidKinds := [.data, .pinned], laidTests := true, laidLooks := .later }
def StyleTellsUptoCardSaid : Prop := Claim7.holds Tryd.pinned (.plain (OpenSpec.upto styleTellsSpec)) styleTellsUptoCard

/-- THE SECOND FORM's CARD OF 'scholiumlaw09.StyleBack'. -/
def styleBackUptoCard : Claim7 := { stood := { row := styleBackUptoRow, standIns := [], harness := (true, "5e3d215cd2de5c069e4482384bd7ba4efcfab3d35db7f0266eb218b69f05ca7b"), looks := false }, kinds := [], alts := [], laidByText := true, laidKinds := [.data, .pinned], laidTests := true, laidLooks := .later }
def StyleBackUptoCardSaid : Prop := Claim7.holds Tryd.pinned (.plain (OpenSpec.upto styleBackSpec)) styleBackUptoCard

/-- THE SECOND FORM's CARD OF 'scholiumlaw12.InlineForms'. -/
def inlineFormsUptoCard : Claim7 := { stood := { row := inlineFormsUptoRow, standIns := [], harness := (true, "5e3d215cd2de5c069e4482384bd7ba4efcfab3d35db7f0266eb218b69f05ca7b"), looks := false }, kinds := [], alts := [], laidByText := true, laidKinds := [.data, .pinned], laidTests := true, laidLooks := .later }
def InlineFormsUptoCardSaid : Prop := Claim7.holds Tryd.pinned (.plain (OpenSpec.upto inlineFormsSpec)) inlineFormsUptoCard

/-- THE SECOND FORM's CARD OF 'scholiumlaw12.InlineTags'. -/
def inlineTagsUptoCard : Claim7 := { stood := { row := inlineTagsUptoRow, standIns := [], harness := (true, "5e3d215cd2de5c069e4482384bd7ba4efcfab3d35db7f0266eb218b69f05ca7b"), looks := false }, kinds := [], alts := [], laidByText := true, laidKinds := [.data, .pinned], laidTests := true, laidLooks := .later }
def InlineTagsUptoCardSaid : Prop := Claim7.holds Tryd.pinned (.plain (OpenSpec.upto inlineTagsSpec)) inlineTagsUptoCard

/-- THE SECOND FORM's CARD OF 'scholiumlaw12.InlineKeys'. -/
def inlineKeysUptoCard : Claim7 := { stood := { row := inlineKeysUptoRow, standIns := [], harness := (true, "5e3d215cd2de5c069e4482384bd7ba4efcfab3d35db7f0266eb218b69f05ca7b"), looks := false }, kinds := [], alts := [], laidByText := true, laidKinds := [.data, .pinned], laidTests := true, laidLooks := .later }
def InlineKeysUptoCardSaid : Prop := Claim7.holds Tryd.pinned (.plain (OpenSpec.upto inlineKeysSpec)) inlineKeysUptoCard

/-- THE SECOND FORM's CARD OF 'scholiumlaw12.InlineDeep'. -/
def inlineDeepUptoCard : Claim7 := { stood := { row := inlineDeepUptoRow, standIns := [], harness := (true, "5e3d215cd2de5c069e4482384bd7ba4efcfab3d35db7f0266eb218b69f05ca7b"), looks := false }, kinds := [], alts := [], laidByText := true, laidKinds := [.data, .pinned], laidTests := true, laidLooks := .later }
def InlineDeepUptoCardSaid : Prop := Claim7.holds Tryd.pinned (.plain (OpenSpec.upto inlineDeepSpec)) inlineDeepUptoCard

/-- THE SECOND FORM's CARD OF 'scholiumlaw12.InlineSpans'. -/
def inlineSpansUptoCard : Claim7 := { stood := { row := inlineSpansUptoRow, standIns := [], harness := (true, "5e3d215cd2de5c069e4482384bd7ba4efcfab3d35db7f0266eb218b69f05ca7b"), looks := false }, kinds := [], alts := [], laidByText := true, laidKinds := [.data, .pinned], laidTests := true, laidLooks := .later }
def InlineSpansUptoCardSaid : Prop := Claim7.holds Tryd.pinned (.plain (OpenSpec.upto inlineSpansSpec)) inlineSpansUptoCard

/-- THE SECOND FORM's CARD OF 'scholiumlaw14.CheckForms'. -/
def checkFormsUptoCard : Claim7 := { stood := { row := checkFormsUptoRow, standIns := [], harness := (true, "5e3d215cd2de5c069e4482384bd7ba4efcfab3d35db7f0266eb218b69f05ca7b"), looks := false }, kinds := [], alts := [], laidByText := true, laidKinds := [.data, .pinned], laidTests := true, laidLooks := .later }
def CheckFormsUptoCardSaid : Prop := Claim7.holds Tryd.pinned (.plain (OpenSpec.upto checkFormsSpec)) checkFormsUptoCard

/-- THE SECOND FORM's CARD OF 'scholiumlaw14.CheckCircles'. -/
def checkCirclesUptoCard : Claim7 := { stood := { row := checkCirclesUptoRow, standIns := [], harness := (true, "5e3d215cd2de5c069e4482384bd7ba4efcfab3d35db7f0266eb218b69f05ca7b"), looks := false }, kinds := [], alts := [], laidByText := true, laidKinds := [.data, .pinned], laidTests := true, laidLooks := .later }
def CheckCirclesUptoCardSaid : Prop := Claim7.holds Tryd.pinned (.plain (OpenSpec.upto checkCirclesSpec)) checkCirclesUptoCard
end Rows
end Go.Proofs.YtadgjeggmkebaaaDoor
