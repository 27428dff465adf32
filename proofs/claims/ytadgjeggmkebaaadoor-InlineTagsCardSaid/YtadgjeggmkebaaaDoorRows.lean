/-
  NARROWER THAN 'FOR EVERY INPUT', by the rows' own cells (each row's printed sentence says how): StyleKeys: laid · StyleTells: laid · StyleBack: laid · InlineForms: laid · InlineTags: laid · InlineKeys: laid · InlineDeep: laid · InlineSpans: laid · CheckForms: laid · CheckCircles: laid.
  DERIVED. THE GIVEN ROWS OF THIS SEAT. 10 by the template 'for every input the law returns true; each argument reads behind the call as it read before'; 0 by the template 'total and deterministic' (their statements: YtadgjeggmkebaaaDoorTotals.lean).
  GIVEN WITH THE SEED: the statements are not yours to turn. If you find one false, say at which input.
  Laid BY PROGRAM, IN A SANDBOX (cutbox-rows.mjs): the forced cells as the released guide's own fill.sh prints them over the translation 30fc002b585872f5… (all of the seat's roots in one cut). By AI agents, Wed Nov 11 2026. No macro, syntax, notation, axiom, sorry.
-/
import Derived.Test.YtadgjeggmkebaaaDoorChecked
import GoSem.PinnedTables
import GoSem.Claim
import GoSem.ClaimJoined
import GoSem.ClaimMapViews
import Derived.JoinedTies
import Derived.KernelRfl
namespace Go.Proofs.YtadgjeggmkebaaaDoor
/- THE CELL 'sum', in the pinned program and in every row, IS THE sha256 OF THE DUMP (.gsa) THAT YtadgjeggmkebaaaDoorProg.lean LOADS. Nothing in Lean hashes anything: it is a label: what it is worth is what the hold of that sum in a sandbox is worth. -/
noncomputable def Tryd.pinned : Pinned := { name := "ytadgjeggmkebaaadoor", sum := "30fc002b585872f5e62573cce9137d1e62e6dd7b0162bffe69e0a78197feceac", checked := Tryd.checked }
namespace Rows
def none {H : Type} : Left H := { results := [], args := [] }

/- WHAT THE LISTED PACKAGE-LEVEL VARIABLES READ AS WHEN THE CALL BEGINS. Each datum BY PROGRAM (the guide's laid-datum.mjs) off the statement by which the dump's own 'gosem.cut.vars' lays the variable. In a bare row this is a premise. The card (YtadgjeggmkebaaaDoorCards.lean) ties it to the program's text. -/
def laid_unicode_utf8_acceptRanges {H : Type} : DataW H := .agg [.agg [.lit (.int .u8 128), .lit (.int .u8 191)], .agg [.lit (.int .u8 160), .lit (.int .u8 191)], .agg [.lit (.int .u8 128), .lit (.int .u8 159)], .agg [.lit (.int .u8 144), .lit (.int .u8 191)], .agg [.lit (.int .u8 128), .lit (.int .u8 143)], .agg [.lit (.int .u8 0), .lit (.int .u8 0)], .agg [.lit (.int .u8 0), .lit (.int .u8 0)], .agg [.lit (.int .u8 0), .lit (.int .u8 0)], .agg [.lit (.int .u8 0), .lit (.int .u8 0)], .agg [.lit (.int .u8 0), .lit (.int .u8 0)], .agg [.lit (.int .u8 0), .lit (.int .u8 0)], .agg [.lit (.int .u8 0), .lit (.int .u8 0)], .agg [.lit (.int .u8 0), .lit (.int .u8 0)], .agg [.lit (.int .u8 0), .lit (.int .u8 0)], .agg [.lit (.int .u8 0), .lit (.int .u8 0)], .agg [.lit (.int .u8 0), .lit (.int .u8 0)]]
/-- One of Go's own tables, pinned by name: the form's constant. -/
def laid_unicode_utf8_first : DataW Unit := Go.Pinned.utf8First

/-- 'scholiumlaw09.StyleKeys': WHATEVER THE INPUT: true; the input reads as it did. -/
def styleKeysSpec : ChangeSpec := { name := "styleKeys", fn := fun _ => fun
  | [d1, d2, d3] => { results := [.lit (.bool true)], args := [d1, d2, d3] }
  | _ => none }
def styleKeysRow : OpenClaim := { program := "ytadgjeggmkebaaadoor", sum := "30fc002b585872f5e62573cce9137d1e62e6dd7b0162bffe69e0a78197feceac", func := "scholium/scholiumlaw09.StyleKeys", spec := "styleKeys", inPlace := ["internal/bytealg.IndexByteString", "internal/abi.NoEscape"], named := ["unicode/utf8.first", "unicode/utf8.acceptRanges"], plainKeys := false, apart := false, laid := [("unicode/utf8.acceptRanges", laid_unicode_utf8_acceptRanges), ("unicode/utf8.first", laid_unicode_utf8_first)] }
def StyleKeysSaid : Prop := styleKeysRow.holds Tryd.pinned (OpenSpec.ofChange styleKeysSpec)

/-- ITS FALSE NEIGHBOUR: 'it returns false'. Refute it at one input. -/
def styleKeysWrong : ChangeSpec := { name := "styleKeys", fn := fun _ => fun
  | [d1, d2, d3] => { results := [.lit (.bool false)], args := [d1, d2, d3] }
  | _ => none }
def StyleKeysWrongFalsely : Prop := styleKeysRow.holds Tryd.pinned (OpenSpec.ofChange styleKeysWrong)

/-- 'scholiumlaw09.StyleTells': WHATEVER THE INPUT: true; the input reads as it did. -/
def styleTellsSpec : ChangeSpec := { name := "styleTells", fn := fun _ => fun
  | [d1, d2, d3, d4] => { results := [.lit (.bool true)], args := [d1, d2, d3, d4] }
  | _ => none }
def styleTellsRow : OpenClaim := { program := "ytadgjeggmkebaaadoor", sum := "30fc002b585872f5e62573cce9137d1e62e6dd7b0162bffe69e0a78197feceac", func := "scholium/scholiumlaw09.StyleTells", spec := "styleTells", inPlace := ["internal/bytealg.IndexByteString", "internal/abi.NoEscape"], named := ["unicode/utf8.first", "unicode/utf8.acceptRanges"], plainKeys := false, apart := false, laid := [("unicode/utf8.acceptRanges", laid_unicode_utf8_acceptRanges), ("unicode/utf8.first", laid_unicode_utf8_first)] }
def StyleTellsSaid : Prop := styleTellsRow.holds Tryd.pinned (OpenSpec.ofChange styleTellsSpec)

/-- ITS FALSE NEIGHBOUR: 'it returns false'. Refute it at one input. -/
def styleTellsWrong : ChangeSpec := { name := "styleTells", fn := fun _ => fun
  | [d1, d2, d3, d4] => { results := [.lit (.bool false)], args := [d1, d2, d3, d4] }
  | _ => none }
def StyleTellsWrongFalsely : Prop := styleTellsRow.holds Tryd.pinned (OpenSpec.ofChange styleTellsWrong)

/-- 'scholiumlaw09.StyleBack': WHATEVER THE INPUT: true; the input reads as it did. -/
def styleBackSpec : ChangeSpec := { name := "styleBack", fn := fun _ => fun
  | [d1, d2] => { results := [.lit (.bool true)], args := [d1, d2] }
  | _ => none }
def styleBackRow : OpenClaim := { program := "ytadgjeggmkebaaadoor", sum := "30fc002b585872f5e62573cce9137d1e62e6dd7b0162bffe69e0a78197feceac", func := "scholium/scholiumlaw09.StyleBack", spec := "styleBack", inPlace := ["internal/bytealg.IndexByteString", "internal/abi.NoEscape"], named := ["unicode/utf8.first", "unicode/utf8.acceptRanges"], plainKeys := false, apart := false, laid := [("unicode/utf8.acceptRanges", laid_unicode_utf8_acceptRanges), ("unicode/utf8.first", laid_unicode_utf8_first)] }
def StyleBackSaid : Prop := styleBackRow.holds Tryd.pinned (OpenSpec.ofChange styleBackSpec)

/-- ITS FALSE NEIGHBOUR: 'it returns false'. Refute it at one input. -/
def styleBackWrong : ChangeSpec := { name := "styleBack", fn := fun _ => fun
  | [d1, d2] => { results := [.lit (.bool false)], args := [d1, d2] }
  | _ => none }
def StyleBackWrongFalsely : Prop := styleBackRow.holds Tryd.pinned (OpenSpec.ofChange styleBackWrong)

/-- 'scholiumlaw12.InlineForms': WHATEVER THE INPUT: true; the input reads as it did. -/
def inlineFormsSpec : ChangeSpec := { name := "inlineForms", fn := fun _ => fun
  | [d1, d2] => { results := [.lit (.bool true)], args := [d1, d2] }
  | _ => none }
def inlineFormsRow : OpenClaim := { program := "ytadgjeggmkebaaadoor", sum := "30fc002b585872f5e62573cce9137d1e62e6dd7b0162bffe69e0a78197feceac", func := "scholium/scholiumlaw12.InlineForms", spec := "inlineForms", inPlace := ["internal/bytealg.IndexByteString", "internal/bytealg.IndexByte", "internal/bytealg.Index", "internal/bytealg.IndexString"], recurses := true, named := ["unicode/utf8.first", "unicode/utf8.acceptRanges", "internal/bytealg.MaxLen"], plainKeys := false, apart := false, laid := [("unicode/utf8.acceptRanges", laid_unicode_utf8_acceptRanges), ("unicode/utf8.first", laid_unicode_utf8_first)] }
def InlineFormsSaid : Prop := inlineFormsRow.holds Tryd.pinned (OpenSpec.ofChange inlineFormsSpec)

/-- ITS FALSE NEIGHBOUR: 'it returns false'. Refute it at one input. -/
def inlineFormsWrong : ChangeSpec := { name := "inlineForms", fn := fun _ => fun
  | [d1, d2] => { results := [.lit (.bool false)], args := [d1, d2] }
  | _ => none }
def InlineFormsWrongFalsely : Prop := inlineFormsRow.holds Tryd.pinned (OpenSpec.ofChange inlineFormsWrong)

/-- 'scholiumlaw12.InlineTags': WHATEVER THE INPUT: true; the input reads as it did. -/
def inlineTagsSpec : ChangeSpec := { name := "inlineTags", fn := fun _ => fun
  | [d1, d2] => { results := [.lit (.bool true)], args := [d1, d2] }
  | _ => none }
def inlineTagsRow : OpenClaim := { program := "ytadgjeggmkebaaadoor", sum := "30fc002b585872f5e62573cce9137d1e62e6dd7b0162bffe69e0a78197feceac", func := "scholium/scholiumlaw12.InlineTags", spec := "inlineTags", inPlace := ["internal/bytealg.IndexByteString", "internal/bytealg.IndexByte", "internal/bytealg.Index", "internal/bytealg.IndexString"], recurses := true, named := ["unicode/utf8.first", "unicode/utf8.acceptRanges", "internal/bytealg.MaxLen"], plainKeys := false, apart := false, laid := [("unicode/utf8.acceptRanges", laid_unicode_utf8_acceptRanges), ("unicode/utf8.first", laid_unicode_utf8_first)] }
def InlineTagsSaid : Prop := inlineTagsRow.holds Tryd.pinned (OpenSpec.ofChange inlineTagsSpec)

/-- ITS FALSE NEIGHBOUR: 'it returns false'. Refute it at one input. -/
def inlineTagsWrong : ChangeSpec := { name := "inlineTags", fn := fun _ => fun
  | [d1, d2] => { results := [.lit (.bool false)], args := [d1, d2] }
  | _ => none }
def InlineTagsWrongFalsely : Prop := inlineTagsRow.holds Tryd.pinned (OpenSpec.ofChange inlineTagsWrong)

/-- 'scholiumlaw12.InlineKeys': WHATEVER THE INPUT: true; the input reads as it did. -/
def inlineKeysSpec : ChangeSpec := { name := "inlineKeys", fn := fun _ => fun
  | [d1, d2] => { results := [.lit (.bool true)], args := [d1, d2] }
  | _ => none }
def inlineKeysRow : OpenClaim := { program := "ytadgjeggmkebaaadoor", sum := "30fc002b585872f5e62573cce9137d1e62e6dd7b0162bffe69e0a78197feceac", func := "scholium/scholiumlaw12.InlineKeys", spec := "inlineKeys", inPlace := ["internal/bytealg.IndexByteString", "internal/bytealg.IndexByte", "internal/bytealg.Index", "internal/bytealg.IndexString"], recurses := true, named := ["unicode/utf8.first", "unicode/utf8.acceptRanges", "internal/bytealg.MaxLen"], plainKeys := false, apart := false, laid := [("unicode/utf8.acceptRanges", laid_unicode_utf8_acceptRanges), ("unicode/utf8.first", laid_unicode_utf8_first)] }
def InlineKeysSaid : Prop := inlineKeysRow.holds Tryd.pinned (OpenSpec.ofChange inlineKeysSpec)

/-- ITS FALSE NEIGHBOUR: 'it returns false'. Refute it at one input. -/
def inlineKeysWrong : ChangeSpec := { name := "inlineKeys", fn := fun _ => fun
  | [d1, d2] => { results := [.lit (.bool false)], args := [d1, d2] }
  | _ => none }
def InlineKeysWrongFalsely : Prop := inlineKeysRow.holds Tryd.pinned (OpenSpec.ofChange inlineKeysWrong)

/-- 'scholiumlaw12.InlineDeep': WHATEVER THE INPUT: true; the input reads as it did. -/
def inlineDeepSpec : ChangeSpec := { name := "inlineDeep", fn := fun _ => fun
  | [d1, d2] => { results := [.lit (.bool true)], args := [d1, d2] }
  | _ => none }
def inlineDeepRow : OpenClaim := { program := "ytadgjeggmkebaaadoor", sum := "30fc002b585872f5e62573cce9137d1e62e6dd7b0162bffe69e0a78197feceac", func := "scholium/scholiumlaw12.InlineDeep", spec := "inlineDeep", inPlace := ["internal/bytealg.IndexByteString", "internal/bytealg.IndexByte", "internal/bytealg.Index", "internal/bytealg.IndexString"], recurses := true, named := ["unicode/utf8.first", "unicode/utf8.acceptRanges", "internal/bytealg.MaxLen"], plainKeys := false, apart := false, laid := [("unicode/utf8.acceptRanges", laid_unicode_utf8_acceptRanges), ("unicode/utf8.first", laid_unicode_utf8_first)] }
def InlineDeepSaid : Prop := inlineDeepRow.holds Tryd.pinned (OpenSpec.ofChange inlineDeepSpec)

/-- ITS FALSE NEIGHBOUR: 'it returns false'. Refute it at one input. -/
def inlineDeepWrong : ChangeSpec := { name := "inlineDeep", fn := fun _ => fun
  | [d1, d2] => { results := [.lit (.bool false)], args := [d1, d2] }
  | _ => none }
def InlineDeepWrongFalsely : Prop := inlineDeepRow.holds Tryd.pinned (OpenSpec.ofChange inlineDeepWrong)

/-- 'scholiumlaw12.InlineSpans': WHATEVER THE INPUT: true; the input reads as it did. -/
def inlineSpansSpec : ChangeSpec := { name := "inlineSpans", fn := fun _ => fun
  | [d] => { results := [.lit (.bool true)], args := [d] }
  | _ => none }
def inlineSpansRow : OpenClaim := { program := "ytadgjeggmkebaaadoor", sum := "30fc002b585872f5e62573cce9137d1e62e6dd7b0162bffe69e0a78197feceac", func := "scholium/scholiumlaw12.InlineSpans", spec := "inlineSpans", inPlace := ["internal/bytealg.IndexByteString", "internal/bytealg.IndexByte", "internal/bytealg.Index", "internal/bytealg.IndexString"], recurses := true, named := ["unicode/utf8.first", "unicode/utf8.acceptRanges", "internal/bytealg.MaxLen"], plainKeys := false, apart := false, laid := [("unicode/utf8.acceptRanges", laid_unicode_utf8_acceptRanges), ("unicode/utf8.first", laid_unicode_utf8_first)] }
def InlineSpansSaid : Prop := inlineSpansRow.holds Tryd.pinned (OpenSpec.ofChange inlineSpansSpec)

/-- ITS FALSE NEIGHBOUR: 'it returns false'. Refute it at one input. -/
def inlineSpansWrong : ChangeSpec := { name := "inlineSpans", fn := fun _ => fun
  | [d] => { results := [.lit (.bool false)], args := [d] }
  | _ => none }
def InlineSpansWrongFalsely : Prop := inlineSpansRow.holds Tryd.pinned (OpenSpec.ofChange inlineSpansWrong)

/-- 'scholiumlaw14.CheckForms': WHATEVER THE INPUT: true; the input reads as it did. -/
def checkFormsSpec : ChangeSpec := { name := "checkForms", fn := fun _ => fun
  | [d] => { results := [.lit (.bool true)], args := [d] }
  | _ => none }
def checkFormsRow : OpenClaim := { program := "ytadgjeggmkebaaadoor", sum := "30fc002b585872f5e62573cce9137d1e62e6dd7b0162bffe69e0a78197feceac", func := "scholium/scholiumlaw14.CheckForms", spec := "checkForms", inPlace := ["internal/bytealg.IndexByteString", "internal/bytealg.IndexByte", "internal/bytealg.Index", "internal/bytealg.IndexString"], recurses := true, named := ["unicode/utf8.first", "unicode/utf8.acceptRanges", "internal/bytealg.MaxLen"], plainKeys := false, apart := false, laid := [("unicode/utf8.acceptRanges", laid_unicode_utf8_acceptRanges), ("unicode/utf8.first", laid_unicode_utf8_first)] }
def CheckFormsSaid : Prop := checkFormsRow.holds Tryd.pinned (OpenSpec.ofChange checkFormsSpec)

/-- ITS FALSE NEIGHBOUR: 'it returns false'. Refute it at one input. -/
def checkFormsWrong : ChangeSpec := { name := "checkForms", fn := fun _ => fun
  | [d] => { results := [.lit (.bool false)], args := [d] }
  | _ => none }
def CheckFormsWrongFalsely : Prop := checkFormsRow.holds Tryd.pinned (OpenSpec.ofChange checkFormsWrong)

/-- 'scholiumlaw14.CheckCircles': WHATEVER THE INPUT: true; the input reads as it did. -/
def checkCirclesSpec : ChangeSpec := { name := "checkCircles", fn := fun _ => fun
  | [d] => { results := [.lit (.bool true)], args := [d] }
  | _ => none }
def checkCirclesRow : OpenClaim := { program := "ytadgjeggmkebaaadoor", sum := "30fc002b585872f5e62573cce9137d1e62e6dd7b0162bffe69e0a78197feceac", func := "scholium/scholiumlaw14.CheckCircles", spec := "checkCircles", inPlace := ["internal/bytealg.IndexByteString", "internal/bytealg.IndexByte", "internal/bytealg.Index", "internal/bytealg.IndexString"], recurses := true, named := ["unicode/utf8.first", "unicode/utf8.acceptRanges", "internal/bytealg.MaxLen"], plainKeys := false, apart := false, laid := [("unicode/utf8.acceptRanges", laid_unicode_utf8_acceptRanges), ("unicode/utf8.first", laid_unicode_utf8_first)] }
def CheckCirclesSaid : Prop := checkCirclesRow.holds Tryd.pinned (OpenSpec.ofChange checkCirclesSpec)

/-- ITS FALSE NEIGHBOUR: 'it returns false'. Refute it at one input. -/
def checkCirclesWrong : ChangeSpec := { name := "checkCircles", fn := fun _ => fun
  | [d] => { results := [.lit (.bool false)], args := [d] }
  | _ => none }
def CheckCirclesWrongFalsely : Prop := checkCirclesRow.holds Tryd.pinned (OpenSpec.ofChange checkCirclesWrong)

/- THE SECOND FORM. 'bulk': how many values and letters a reading holds, each counted each time it is reached (what is shared counts as often as it is met; a slice's spare places count too). A statement '..UptoSaid' is the law's where the arguments, and the package variables that the reading takes, are together of bulk at most 1048576: NARROWER than '..Said'. Prove '..Said' where nothing that the law and all that it calls make is longer than what came in: it says more and counts as full. Else prove '..UptoSaid'. A law counts once. -/
mutual
def uptoBulk {H : Type} : DataW H → Nat
  | .lit (.string bytes) => bytes.length + 1
  | .lit _ => 1
  | .nil => 1
  | .ptr d => uptoBulk d + 1
  | .slice elems spare => uptoBulkAll elems + uptoBulkAll spare + 1
  | .agg parts => uptoBulkAll parts + 1
  | .iface _ d => uptoBulk d + 1
  | .map entries => uptoBulkEntries entries + 1
  | .held _ => 1
def uptoBulkAll {H : Type} : List (DataW H) → Nat
  | [] => 0
  | d :: r => uptoBulk d + uptoBulkAll r
def uptoBulkEntries {H : Type} : List (Lit × DataW H) → Nat
  | [] => 0
  | x :: r => uptoBulkEntry x + uptoBulkEntries r
def uptoBulkEntry {H : Type} : Lit × DataW H → Nat
  | (.string bytes, d) => bytes.length + uptoBulk d + 1
  | (_, d) => uptoBulk d + 1
 end
def uptoSmall : (H : Type) → List (DataW H) → Bool := fun _ ds => decide (uptoBulkAll ds ≤ 1048576)
def OpenSpec.upto (s : _root_.Go.ChangeSpec) : _root_.Go.OpenSpec := { _root_.Go.OpenSpec.ofChange s with cond := some uptoSmall }

/-- 'scholiumlaw09.StyleKeys', WHERE WHAT IT READS IS OF BULK AT MOST 1048576: true; the input reads as it did. -/
def styleKeysUptoRow : OpenClaim := { program := "ytadgjeggmkebaaadoor", sum := "30fc002b585872f5e62573cce9137d1e62e6dd7b0162bffe69e0a78197feceac", func := "scholium/scholiumlaw09.StyleKeys", spec := "styleKeys", inPlace := ["internal/bytealg.IndexByteString", "internal/abi.NoEscape"], named := ["unicode/utf8.first", "unicode/utf8.acceptRanges"], plainKeys := false, apart := false, laid := [("unicode/utf8.acceptRanges", laid_unicode_utf8_acceptRanges), ("unicode/utf8.first", laid_unicode_utf8_first)], narrowed := true }
def StyleKeysUptoSaid : Prop := styleKeysUptoRow.holds Tryd.pinned (OpenSpec.upto styleKeysSpec)

/-- 'scholiumlaw09.StyleTells', WHERE WHAT IT READS IS OF BULK AT MOST 1048576: true; the input reads as it did. -/
def styleTellsUptoRow : OpenClaim := { program := "ytadgjeggmkebaaadoor", sum := "30fc002b585872f5e62573cce9137d1e62e6dd7b0162bffe69e0a78197feceac", func := "scholium/scholiumlaw09.StyleTells", spec := "styleTells", inPlace := ["internal/bytealg.IndexByteString", "internal/abi.NoEscape"], named := ["unicode/utf8.first", "unicode/utf8.acceptRanges"], plainKeys := false, apart := false, laid := [("unicode/utf8.acceptRanges", laid_unicode_utf8_acceptRanges), ("unicode/utf8.first", laid_unicode_utf8_first)], narrowed := true }
def StyleTellsUptoSaid : Prop := styleTellsUptoRow.holds Tryd.pinned (OpenSpec.upto styleTellsSpec)

/-- 'scholiumlaw09.StyleBack', WHERE WHAT IT READS IS OF BULK AT MOST 1048576: true; the input reads as it did. -/
def styleBackUptoRow : OpenClaim := { program := "ytadgjeggmkebaaadoor", sum := "30fc002b585872f5e62573cce9137d1e62e6dd7b0162bffe69e0a78197feceac", func := "scholium/scholiumlaw09.StyleBack", spec := "styleBack", inPlace := ["internal/bytealg.IndexByteString", "internal/abi.NoEscape"], named := ["unicode/utf8.first", "unicode/utf8.acceptRanges"], plainKeys := false, apart := false, laid := [("unicode/utf8.acceptRanges", laid_unicode_utf8_acceptRanges), ("unicode/utf8.first", laid_unicode_utf8_first)], narrowed := true }
def StyleBackUptoSaid : Prop := styleBackUptoRow.holds Tryd.pinned (OpenSpec.upto styleBackSpec)

/-- 'scholiumlaw12.InlineForms', WHERE WHAT IT READS IS OF BULK AT MOST 1048576: true; the input reads as it did. -/
def inlineFormsUptoRow : OpenClaim := { program := "ytadgjeggmkebaaadoor", sum := "30fc002b585872f5e62573cce9137d1e62e6dd7b0162bffe69e0a78197feceac", func := "scholium/scholiumlaw12.InlineForms", spec := "inlineForms", inPlace := ["internal/bytealg.IndexByteString", "internal/bytealg.IndexByte", "internal/bytealg.Index", "internal/bytealg.IndexString"], recurses := true, named := ["unicode/utf8.first", "unicode/utf8.acceptRanges", "internal/bytealg.MaxLen"], plainKeys := false, apart := false, laid := [("unicode/utf8.acceptRanges", laid_unicode_utf8_acceptRanges), ("unicode/utf8.first", laid_unicode_utf8_first)], narrowed := true }
def InlineFormsUptoSaid : Prop := inlineFormsUptoRow.holds Tryd.pinned (OpenSpec.upto inlineFormsSpec)

/-- 'scholiumlaw12.InlineTags', WHERE WHAT IT READS IS OF BULK AT MOST 1048576: true; the input reads as it did. -/
def inlineTagsUptoRow : OpenClaim := { program := "ytadgjeggmkebaaadoor", sum := "30fc002b585872f5e62573cce9137d1e62e6dd7b0162bffe69e0a78197feceac", func := "scholium/scholiumlaw12.InlineTags", spec := "inlineTags", inPlace := ["internal/bytealg.IndexByteString", "internal/bytealg.IndexByte", "internal/bytealg.Index", "internal/bytealg.IndexString"], recurses := true, named := ["unicode/utf8.first", "unicode/utf8.acceptRanges", "internal/bytealg.MaxLen"], plainKeys := false, apart := false, laid := [("unicode/utf8.acceptRanges", laid_unicode_utf8_acceptRanges), ("unicode/utf8.first", laid_unicode_utf8_first)], narrowed := true }
def InlineTagsUptoSaid : Prop := inlineTagsUptoRow.holds Tryd.pinned (OpenSpec.upto inlineTagsSpec)

/-- 'scholiumlaw12.InlineKeys', WHERE WHAT IT READS IS OF BULK AT MOST 1048576: true; the input reads as it did. -/
def inlineKeysUptoRow : OpenClaim := { program := "ytadgjeggmkebaaadoor", sum := "30fc002b585872f5e62573cce9137d1e62e6dd7b0162bffe69e0a78197feceac", func := "scholium/scholiumlaw12.InlineKeys", spec := "inlineKeys", inPlace := ["internal/bytealg.IndexByteString", "internal/bytealg.IndexByte", "internal/bytealg.Index", "internal/bytealg.IndexString"], recurses := true, named := ["unicode/utf8.first", "unicode/utf8.acceptRanges", "internal/bytealg.MaxLen"], plainKeys := false, apart := false, laid := [("unicode/utf8.acceptRanges", laid_unicode_utf8_acceptRanges), ("unicode/utf8.first", laid_unicode_utf8_first)], narrowed := true }
def InlineKeysUptoSaid : Prop := inlineKeysUptoRow.holds Tryd.pinned (OpenSpec.upto inlineKeysSpec)

/-- 'scholiumlaw12.InlineDeep', WHERE WHAT IT READS IS OF BULK AT MOST 1048576: true; the input reads as it did. -/
def inlineDeepUptoRow : OpenClaim := { program := "ytadgjeggmkebaaadoor", sum := "30fc002b585872f5e62573cce9137d1e62e6dd7b0162bffe69e0a78197feceac", func := "scholium/scholiumlaw12.InlineDeep", spec := "inlineDeep", inPlace := ["internal/bytealg.IndexByteString", "internal/bytealg.IndexByte", "internal/bytealg.Index", "internal/bytealg.IndexString"], recurses := true, named := ["unicode/utf8.first", "unicode/utf8.acceptRanges", "internal/bytealg.MaxLen"], plainKeys := false, apart := false, laid := [("unicode/utf8.acceptRanges", laid_unicode_utf8_acceptRanges), ("unicode/utf8.first", laid_unicode_utf8_first)], narrowed := true }
def InlineDeepUptoSaid : Prop := inlineDeepUptoRow.holds Tryd.pinned (OpenSpec.upto inlineDeepSpec)

/-- 'scholiumlaw12.InlineSpans', WHERE WHAT IT READS IS OF BULK AT MOST 1048576: true; the input reads as it did. -/
def inlineSpansUptoRow : OpenClaim := { program := "ytadgjeggmkebaaadoor", sum := "30fc002b585872f5e62573cce9137d1e62e6dd7b0162bffe69e0a78197feceac", func := "scholium/scholiumlaw12.InlineSpans", spec := "inlineSpans", inPlace := ["internal/bytealg.IndexByteString", "internal/bytealg.IndexByte", "internal/bytealg.Index", "internal/bytealg.IndexString"], recurses := true, named := ["unicode/utf8.first", "unicode/utf8.acceptRanges", "internal/bytealg.MaxLen"], plainKeys := false, apart := false, laid := [("unicode/utf8.acceptRanges", laid_unicode_utf8_acceptRanges), ("unicode/utf8.first", laid_unicode_utf8_first)], narrowed := true }
def InlineSpansUptoSaid : Prop := inlineSpansUptoRow.holds Tryd.pinned (OpenSpec.upto inlineSpansSpec)

/-- 'scholiumlaw14.CheckForms', WHERE WHAT IT READS IS OF BULK AT MOST 1048576: true; the input reads as it did. -/
def checkFormsUptoRow : OpenClaim := { program := "ytadgjeggmkebaaadoor", sum := "30fc002b585872f5e62573cce9137d1e62e6dd7b0162bffe69e0a78197feceac", func := "scholium/scholiumlaw14.CheckForms", spec := "checkForms", inPlace := ["internal/bytealg.IndexByteString", "internal/bytealg.IndexByte", "internal/bytealg.Index", "internal/bytealg.IndexString"], recurses := true, named := ["unicode/utf8.first", "unicode/utf8.acceptRanges", "internal/bytealg.MaxLen"], plainKeys := false, apart := false, laid := [("unicode/utf8.acceptRanges", laid_unicode_utf8_acceptRanges), ("unicode/utf8.first", laid_unicode_utf8_first)], narrowed := true }
def CheckFormsUptoSaid : Prop := checkFormsUptoRow.holds Tryd.pinned (OpenSpec.upto checkFormsSpec)

/-- 'scholiumlaw14.CheckCircles', WHERE WHAT IT READS IS OF BULK AT MOST 1048576: true; the input reads as it did. -/
def checkCirclesUptoRow : OpenClaim := { program := "ytadgjeggmkebaaadoor", sum := "30fc002b585872f5e62573cce9137d1e62e6dd7b0162bffe69e0a78197feceac", func := "scholium/scholiumlaw14.CheckCircles", spec := "checkCircles", inPlace := ["internal/bytealg.IndexByteString", "internal/bytealg.IndexByte", "internal/bytealg.Index", "internal/bytealg.IndexString"], recurses := true, named := ["unicode/utf8.first", "unicode/utf8.acceptRanges", "internal/bytealg.MaxLen"], plainKeys := false, apart := false, laid := [("unicode/utf8.acceptRanges", laid_unicode_utf8_acceptRanges), ("unicode/utf8.first", laid_unicode_utf8_first)], narrowed := true }
def CheckCirclesUptoSaid : Prop := checkCirclesUptoRow.holds Tryd.pinned (OpenSpec.upto checkCirclesSpec)

end Rows
end Go.Proofs.YtadgjeggmkebaaaDoor
