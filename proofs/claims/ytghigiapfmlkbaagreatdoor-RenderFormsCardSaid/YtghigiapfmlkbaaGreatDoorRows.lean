/-
  NARROWER THAN 'FOR EVERY INPUT', by the rows' own cells (each row's printed sentence says how): RenderForms: laid · BlockProps: laid · BlockDeep: laid · BlockForms: laid · StreamMarks: laid · StreamErrors: laid · TokenForms: laid · RenderDeep: laid.
  DERIVED. THE GIVEN ROWS OF THIS SEAT. 8 by the template 'for every input the law returns true; each argument reads behind the call as it read before'; 0 by the template 'total and deterministic' (their statements: YtghigiapfmlkbaaGreatDoorTotals.lean).
  GIVEN WITH THE SEED: the statements are not yours to turn. If you find one false, say at which input.
  Laid BY PROGRAM, IN A SANDBOX (cutbox-rows.mjs): the forced cells as the released guide's own fill.sh prints them over the translation dacef0b9d6c7a469… (all of the seat's roots in one cut). By AI agents, Wed Nov 11 2026. No macro, syntax, notation, axiom, sorry.
-/
import Derived.Test.YtghigiapfmlkbaaGreatDoorChecked
import GoSem.PinnedTables
import GoSem.Claim
import GoSem.ClaimJoined
import GoSem.ClaimMapViews
import Derived.JoinedTies
import Derived.KernelRfl
namespace Go.Proofs.YtghigiapfmlkbaaGreatDoor
/- THE CELL 'sum', in the pinned program and in every row, IS THE sha256 OF THE DUMP (.gsa) THAT YtghigiapfmlkbaaGreatDoorProg.lean LOADS. Nothing in Lean hashes anything: it is a label: what it is worth is what the hold of that sum in a sandbox is worth. -/
noncomputable def Tryz.pinned : Pinned := { name := "ytghigiapfmlkbaagreatdoor", sum := "dacef0b9d6c7a469ba243e4c6fad02743625773b685e939f8f45155bfaaafedf", checked := Tryz.checked }
namespace Rows
def none {H : Type} : Left H := { results := [], args := [] }

/- WHAT THE LISTED PACKAGE-LEVEL VARIABLES READ AS WHEN THE CALL BEGINS. Each datum BY PROGRAM (the guide's laid-datum.mjs) off the statement by which the dump's own 'gosem.cut.vars' lays the variable. In a bare row this is a premise. The card (YtghigiapfmlkbaaGreatDoorCards.lean) ties it to the program's text. -/
def laid_math_bits_deBruijn32tab {H : Type} : DataW H := .agg [.lit (.int .u8 0), .lit (.int .u8 1), .lit (.int .u8 28), .lit (.int .u8 2), .lit (.int .u8 29), .lit (.int .u8 14), .lit (.int .u8 24), .lit (.int .u8 3), .lit (.int .u8 30), .lit (.int .u8 22), .lit (.int .u8 20), .lit (.int .u8 15), .lit (.int .u8 25), .lit (.int .u8 17), .lit (.int .u8 4), .lit (.int .u8 8), .lit (.int .u8 31), .lit (.int .u8 27), .lit (.int .u8 13), .lit (.int .u8 23), .lit (.int .u8 21), .lit (.int .u8 19), .lit (.int .u8 16), .lit (.int .u8 7), .lit (.int .u8 26), .lit (.int .u8 12), .lit (.int .u8 18), .lit (.int .u8 6), .lit (.int .u8 11), .lit (.int .u8 5), .lit (.int .u8 10), .lit (.int .u8 9)]
def laid_math_bits_deBruijn64tab {H : Type} : DataW H := .agg [.lit (.int .u8 0), .lit (.int .u8 1), .lit (.int .u8 56), .lit (.int .u8 2), .lit (.int .u8 57), .lit (.int .u8 49), .lit (.int .u8 28), .lit (.int .u8 3), .lit (.int .u8 61), .lit (.int .u8 58), .lit (.int .u8 42), .lit (.int .u8 50), .lit (.int .u8 38), .lit (.int .u8 29), .lit (.int .u8 17), .lit (.int .u8 4), .lit (.int .u8 62), .lit (.int .u8 47), .lit (.int .u8 59), .lit (.int .u8 36), .lit (.int .u8 45), .lit (.int .u8 43), .lit (.int .u8 51), .lit (.int .u8 22), .lit (.int .u8 53), .lit (.int .u8 39), .lit (.int .u8 33), .lit (.int .u8 30), .lit (.int .u8 24), .lit (.int .u8 18), .lit (.int .u8 12), .lit (.int .u8 5), .lit (.int .u8 63), .lit (.int .u8 55), .lit (.int .u8 48), .lit (.int .u8 27), .lit (.int .u8 60), .lit (.int .u8 41), .lit (.int .u8 37), .lit (.int .u8 16), .lit (.int .u8 46), .lit (.int .u8 35), .lit (.int .u8 44), .lit (.int .u8 21), .lit (.int .u8 52), .lit (.int .u8 32), .lit (.int .u8 23), .lit (.int .u8 11), .lit (.int .u8 54), .lit (.int .u8 26), .lit (.int .u8 40), .lit (.int .u8 15), .lit (.int .u8 34), .lit (.int .u8 20), .lit (.int .u8 31), .lit (.int .u8 10), .lit (.int .u8 25), .lit (.int .u8 14), .lit (.int .u8 19), .lit (.int .u8 9), .lit (.int .u8 13), .lit (.int .u8 8), .lit (.int .u8 7), .lit (.int .u8 6)]
def laid_internal_strconv_uint64pow10 {H : Type} : DataW H := .agg [.lit (.int .u64 1), .lit (.int .u64 10), .lit (.int .u64 100), .lit (.int .u64 1000), .lit (.int .u64 10000), .lit (.int .u64 100000), .lit (.int .u64 1000000), .lit (.int .u64 10000000), .lit (.int .u64 100000000), .lit (.int .u64 1000000000), .lit (.int .u64 10000000000), .lit (.int .u64 100000000000), .lit (.int .u64 1000000000000), .lit (.int .u64 10000000000000), .lit (.int .u64 100000000000000), .lit (.int .u64 1000000000000000), .lit (.int .u64 10000000000000000), .lit (.int .u64 100000000000000000), .lit (.int .u64 1000000000000000000), .lit (.int .u64 10000000000000000000)]
def laid_unicode_utf8_acceptRanges {H : Type} : DataW H := .agg [.agg [.lit (.int .u8 128), .lit (.int .u8 191)], .agg [.lit (.int .u8 160), .lit (.int .u8 191)], .agg [.lit (.int .u8 128), .lit (.int .u8 159)], .agg [.lit (.int .u8 144), .lit (.int .u8 191)], .agg [.lit (.int .u8 128), .lit (.int .u8 143)], .agg [.lit (.int .u8 0), .lit (.int .u8 0)], .agg [.lit (.int .u8 0), .lit (.int .u8 0)], .agg [.lit (.int .u8 0), .lit (.int .u8 0)], .agg [.lit (.int .u8 0), .lit (.int .u8 0)], .agg [.lit (.int .u8 0), .lit (.int .u8 0)], .agg [.lit (.int .u8 0), .lit (.int .u8 0)], .agg [.lit (.int .u8 0), .lit (.int .u8 0)], .agg [.lit (.int .u8 0), .lit (.int .u8 0)], .agg [.lit (.int .u8 0), .lit (.int .u8 0)], .agg [.lit (.int .u8 0), .lit (.int .u8 0)], .agg [.lit (.int .u8 0), .lit (.int .u8 0)]]
/-- One of Go's own tables, pinned by name: the form's constant. -/
def laid_unicode_utf8_first : DataW Unit := Go.Pinned.utf8First

/-- 'scholiumlaw19.RenderForms': WHATEVER THE INPUT: true; the input reads as it did. -/
def renderFormsSpec : ChangeSpec := { name := "renderForms", fn := fun _ => fun
  | [d] => { results := [.lit (.bool true)], args := [d] }
  | _ => none }
def renderFormsRow : OpenClaim := { program := "ytghigiapfmlkbaagreatdoor", sum := "dacef0b9d6c7a469ba243e4c6fad02743625773b685e939f8f45155bfaaafedf", func := "scholium/scholiumlaw19.RenderForms", spec := "renderForms", inPlace := ["internal/bytealg.IndexByteString", "internal/abi.NoEscape", "internal/bytealg.MakeNoZero"], unfollowed := true, recurses := true, named := ["unicode/utf8.first", "unicode/utf8.acceptRanges", "internal/strconv.uint64pow10", "math/bits.deBruijn32tab", "math/bits.deBruijn64tab"], plainKeys := false, apart := false, laid := [("math/bits.deBruijn32tab", laid_math_bits_deBruijn32tab), ("math/bits.deBruijn64tab", laid_math_bits_deBruijn64tab), ("internal/strconv.uint64pow10", laid_internal_strconv_uint64pow10), ("unicode/utf8.acceptRanges", laid_unicode_utf8_acceptRanges), ("unicode/utf8.first", laid_unicode_utf8_first)] }
def RenderFormsSaid : Prop := renderFormsRow.holds Tryz.pinned (OpenSpec.ofChange renderFormsSpec)

/-- ITS FALSE NEIGHBOUR: 'it returns false'. Refute it at one input. -/
def renderFormsWrong : ChangeSpec := { name := "renderForms", fn := fun _ => fun
  | [d] => { results := [.lit (.bool false)], args := [d] }
  | _ => none }
def RenderFormsWrongFalsely : Prop := renderFormsRow.holds Tryz.pinned (OpenSpec.ofChange renderFormsWrong)

/-- 'scholiumlaw15.BlockProps': WHATEVER THE INPUT: true; the input reads as it did. -/
def blockPropsSpec : ChangeSpec := { name := "blockProps", fn := fun _ => fun
  | [d1, d2] => { results := [.lit (.bool true)], args := [d1, d2] }
  | _ => none }
def blockPropsRow : OpenClaim := { program := "ytghigiapfmlkbaagreatdoor", sum := "dacef0b9d6c7a469ba243e4c6fad02743625773b685e939f8f45155bfaaafedf", func := "scholium/scholiumlaw15.BlockProps", spec := "blockProps", inPlace := ["internal/bytealg.IndexByte", "internal/abi.NoEscape", "internal/bytealg.MakeNoZero", "internal/bytealg.IndexByteString"], recurses := true, named := ["unicode/utf8.first", "unicode/utf8.acceptRanges"], plainKeys := false, apart := false, laid := [("unicode/utf8.acceptRanges", laid_unicode_utf8_acceptRanges), ("unicode/utf8.first", laid_unicode_utf8_first)] }
def BlockPropsSaid : Prop := blockPropsRow.holds Tryz.pinned (OpenSpec.ofChange blockPropsSpec)

/-- ITS FALSE NEIGHBOUR: 'it returns false'. Refute it at one input. -/
def blockPropsWrong : ChangeSpec := { name := "blockProps", fn := fun _ => fun
  | [d1, d2] => { results := [.lit (.bool false)], args := [d1, d2] }
  | _ => none }
def BlockPropsWrongFalsely : Prop := blockPropsRow.holds Tryz.pinned (OpenSpec.ofChange blockPropsWrong)

/-- 'scholiumlaw15.BlockDeep': WHATEVER THE INPUT: true; the input reads as it did. -/
def blockDeepSpec : ChangeSpec := { name := "blockDeep", fn := fun _ => fun
  | [d1, d2] => { results := [.lit (.bool true)], args := [d1, d2] }
  | _ => none }
def blockDeepRow : OpenClaim := { program := "ytghigiapfmlkbaagreatdoor", sum := "dacef0b9d6c7a469ba243e4c6fad02743625773b685e939f8f45155bfaaafedf", func := "scholium/scholiumlaw15.BlockDeep", spec := "blockDeep", inPlace := ["internal/bytealg.IndexByte", "internal/abi.NoEscape", "internal/bytealg.MakeNoZero", "internal/bytealg.IndexByteString"], recurses := true, named := ["unicode/utf8.first", "unicode/utf8.acceptRanges"], plainKeys := false, apart := false, laid := [("unicode/utf8.acceptRanges", laid_unicode_utf8_acceptRanges), ("unicode/utf8.first", laid_unicode_utf8_first)] }
def BlockDeepSaid : Prop := blockDeepRow.holds Tryz.pinned (OpenSpec.ofChange blockDeepSpec)

/-- ITS FALSE NEIGHBOUR: 'it returns false'. Refute it at one input. -/
def blockDeepWrong : ChangeSpec := { name := "blockDeep", fn := fun _ => fun
  | [d1, d2] => { results := [.lit (.bool false)], args := [d1, d2] }
  | _ => none }
def BlockDeepWrongFalsely : Prop := blockDeepRow.holds Tryz.pinned (OpenSpec.ofChange blockDeepWrong)

/-- 'scholiumlaw15.BlockForms': WHATEVER THE INPUT: true; the input reads as it did. -/
def blockFormsSpec : ChangeSpec := { name := "blockForms", fn := fun _ => fun
  | [d] => { results := [.lit (.bool true)], args := [d] }
  | _ => none }
def blockFormsRow : OpenClaim := { program := "ytghigiapfmlkbaagreatdoor", sum := "dacef0b9d6c7a469ba243e4c6fad02743625773b685e939f8f45155bfaaafedf", func := "scholium/scholiumlaw15.BlockForms", spec := "blockForms", inPlace := ["internal/bytealg.IndexByte", "internal/abi.NoEscape", "internal/bytealg.MakeNoZero", "internal/bytealg.IndexByteString"], recurses := true, named := ["unicode/utf8.first", "unicode/utf8.acceptRanges"], plainKeys := false, apart := false, laid := [("unicode/utf8.acceptRanges", laid_unicode_utf8_acceptRanges), ("unicode/utf8.first", laid_unicode_utf8_first)] }
def BlockFormsSaid : Prop := blockFormsRow.holds Tryz.pinned (OpenSpec.ofChange blockFormsSpec)

/-- ITS FALSE NEIGHBOUR: 'it returns false'. Refute it at one input. -/
def blockFormsWrong : ChangeSpec := { name := "blockForms", fn := fun _ => fun
  | [d] => { results := [.lit (.bool false)], args := [d] }
  | _ => none }
def BlockFormsWrongFalsely : Prop := blockFormsRow.holds Tryz.pinned (OpenSpec.ofChange blockFormsWrong)

/-- 'scholiumlaw16.StreamMarks': WHATEVER THE INPUT: true; the input reads as it did. -/
def streamMarksSpec : ChangeSpec := { name := "streamMarks", fn := fun _ => fun
  | [d] => { results := [.lit (.bool true)], args := [d] }
  | _ => none }
def streamMarksRow : OpenClaim := { program := "ytghigiapfmlkbaagreatdoor", sum := "dacef0b9d6c7a469ba243e4c6fad02743625773b685e939f8f45155bfaaafedf", func := "scholium/scholiumlaw16.StreamMarks", spec := "streamMarks", inPlace := ["internal/bytealg.IndexByte", "internal/abi.NoEscape", "internal/bytealg.MakeNoZero", "internal/bytealg.IndexByteString"], unfollowed := true, recurses := true, named := ["unicode/utf8.first", "unicode/utf8.acceptRanges"], plainKeys := false, apart := false, laid := [("unicode/utf8.acceptRanges", laid_unicode_utf8_acceptRanges), ("unicode/utf8.first", laid_unicode_utf8_first)] }
def StreamMarksSaid : Prop := streamMarksRow.holds Tryz.pinned (OpenSpec.ofChange streamMarksSpec)

/-- ITS FALSE NEIGHBOUR: 'it returns false'. Refute it at one input. -/
def streamMarksWrong : ChangeSpec := { name := "streamMarks", fn := fun _ => fun
  | [d] => { results := [.lit (.bool false)], args := [d] }
  | _ => none }
def StreamMarksWrongFalsely : Prop := streamMarksRow.holds Tryz.pinned (OpenSpec.ofChange streamMarksWrong)

/-- 'scholiumlaw16.StreamErrors': WHATEVER THE INPUT: true; the input reads as it did. -/
def streamErrorsSpec : ChangeSpec := { name := "streamErrors", fn := fun _ => fun
  | [d] => { results := [.lit (.bool true)], args := [d] }
  | _ => none }
def streamErrorsRow : OpenClaim := { program := "ytghigiapfmlkbaagreatdoor", sum := "dacef0b9d6c7a469ba243e4c6fad02743625773b685e939f8f45155bfaaafedf", func := "scholium/scholiumlaw16.StreamErrors", spec := "streamErrors", inPlace := ["internal/bytealg.IndexByte", "internal/abi.NoEscape", "internal/bytealg.MakeNoZero", "internal/bytealg.IndexByteString"], unfollowed := true, recurses := true, named := ["unicode/utf8.first", "unicode/utf8.acceptRanges"], plainKeys := false, apart := false, laid := [("unicode/utf8.acceptRanges", laid_unicode_utf8_acceptRanges), ("unicode/utf8.first", laid_unicode_utf8_first)] }
def StreamErrorsSaid : Prop := streamErrorsRow.holds Tryz.pinned (OpenSpec.ofChange streamErrorsSpec)

/-- ITS FALSE NEIGHBOUR: 'it returns false'. Refute it at one input. -/
def streamErrorsWrong : ChangeSpec := { name := "streamErrors", fn := fun _ => fun
  | [d] => { results := [.lit (.bool false)], args := [d] }
  | _ => none }
def StreamErrorsWrongFalsely : Prop := streamErrorsRow.holds Tryz.pinned (OpenSpec.ofChange streamErrorsWrong)

/-- 'scholiumlaw17.TokenForms': WHATEVER THE INPUT: true; the input reads as it did. -/
def tokenFormsSpec : ChangeSpec := { name := "tokenForms", fn := fun _ => fun
  | [d] => { results := [.lit (.bool true)], args := [d] }
  | _ => none }
def tokenFormsRow : OpenClaim := { program := "ytghigiapfmlkbaagreatdoor", sum := "dacef0b9d6c7a469ba243e4c6fad02743625773b685e939f8f45155bfaaafedf", func := "scholium/scholiumlaw17.TokenForms", spec := "tokenForms", inPlace := ["internal/bytealg.IndexByte", "internal/abi.NoEscape", "internal/bytealg.MakeNoZero", "internal/bytealg.IndexByteString"], unfollowed := true, recurses := true, named := ["unicode/utf8.first", "unicode/utf8.acceptRanges"], plainKeys := false, apart := false, laid := [("unicode/utf8.acceptRanges", laid_unicode_utf8_acceptRanges), ("unicode/utf8.first", laid_unicode_utf8_first)] }
def TokenFormsSaid : Prop := tokenFormsRow.holds Tryz.pinned (OpenSpec.ofChange tokenFormsSpec)

/-- ITS FALSE NEIGHBOUR: 'it returns false'. Refute it at one input. -/
def tokenFormsWrong : ChangeSpec := { name := "tokenForms", fn := fun _ => fun
  | [d] => { results := [.lit (.bool false)], args := [d] }
  | _ => none }
def TokenFormsWrongFalsely : Prop := tokenFormsRow.holds Tryz.pinned (OpenSpec.ofChange tokenFormsWrong)

/-- 'scholiumlaw19.RenderDeep': WHATEVER THE INPUT: true; the input reads as it did. -/
def renderDeepSpec : ChangeSpec := { name := "renderDeep", fn := fun _ => fun
  | [d1, d2] => { results := [.lit (.bool true)], args := [d1, d2] }
  | _ => none }
def renderDeepRow : OpenClaim := { program := "ytghigiapfmlkbaagreatdoor", sum := "dacef0b9d6c7a469ba243e4c6fad02743625773b685e939f8f45155bfaaafedf", func := "scholium/scholiumlaw19.RenderDeep", spec := "renderDeep", inPlace := ["internal/bytealg.IndexByteString", "internal/abi.NoEscape", "internal/bytealg.MakeNoZero", "internal/bytealg.IndexByte", "internal/bytealg.Index", "internal/bytealg.IndexString"], unfollowed := true, recurses := true, named := ["unicode/utf8.first", "unicode/utf8.acceptRanges", "internal/strconv.uint64pow10", "math/bits.deBruijn32tab", "math/bits.deBruijn64tab", "internal/bytealg.MaxLen"], plainKeys := false, apart := false, laid := [("math/bits.deBruijn32tab", laid_math_bits_deBruijn32tab), ("math/bits.deBruijn64tab", laid_math_bits_deBruijn64tab), ("internal/strconv.uint64pow10", laid_internal_strconv_uint64pow10), ("unicode/utf8.acceptRanges", laid_unicode_utf8_acceptRanges), ("unicode/utf8.first", laid_unicode_utf8_first)] }
def RenderDeepSaid : Prop := renderDeepRow.holds Tryz.pinned (OpenSpec.ofChange renderDeepSpec)

/-- ITS FALSE NEIGHBOUR: 'it returns false'. Refute it at one input. -/
def renderDeepWrong : ChangeSpec := { name := "renderDeep", fn := fun _ => fun
  | [d1, d2] => { results := [.lit (.bool false)], args := [d1, d2] }
  | _ => none }
def RenderDeepWrongFalsely : Prop := renderDeepRow.holds Tryz.pinned (OpenSpec.ofChange renderDeepWrong)

/- THE SECOND FORM. 'bulk': how many values and letters a reading holds, each counted each time it is reached (what is shared counts as often as it is met; a slice's spare places count too). A statement '..UptoSaid' is the law's where the arguments, and the package variables that the reading takes, are together of bulk at most 1048576: NARROWER than '..Said'. Prove '..Said' where nothing that the law and all that it calls make is longer than what came in: it says more and counts as full. Else prove '..UptoSaid'. A law counts once. -/
mutual
def uptoBulk {H : Type} : DataW H → Nat
  | .lit (.string bytes) => bytes.length + 1
  | .lit _ => 1
  | .nil => 1
  | .ptr d => uptoBulk d + 1
  | .slice elems spare => uptoBulkAll elems + uptoBulkAll spare + 1
  | .agg parts => uptoBulkAll parts + 1
  | .iface _ d => uptoBulk d + 1
  | .map entries => uptoBulkEntries entries + 1
  | .held _ => 1
def uptoBulkAll {H : Type} : List (DataW H) → Nat
  | [] => 0
  | d :: r => uptoBulk d + uptoBulkAll r
def uptoBulkEntries {H : Type} : List (Lit × DataW H) → Nat
  | [] => 0
  | x :: r => uptoBulkEntry x + uptoBulkEntries r
def uptoBulkEntry {H : Type} : Lit × DataW H → Nat
  | (.string bytes, d) => bytes.length + uptoBulk d + 1
  | (_, d) => uptoBulk d + 1
 end
def uptoSmall : (H : Type) → List (DataW H) → Bool := fun _ ds => decide (uptoBulkAll ds ≤ 1048576)
def OpenSpec.upto (s : _root_.Go.ChangeSpec) : _root_.Go.OpenSpec := { _root_.Go.OpenSpec.ofChange s with cond := some uptoSmall }

/-- 'scholiumlaw19.RenderForms', WHERE WHAT IT READS IS OF BULK AT MOST 1048576: true; the input reads as it did. -/
def renderFormsUptoRow : OpenClaim := { program := "ytghigiapfmlkbaagreatdoor", sum := "dacef0b9d6c7a469ba243e4c6fad02743625773b685e939f8f45155bfaaafedf", func := "scholium/scholiumlaw19.RenderForms", spec := "renderForms", inPlace := ["internal/bytealg.IndexByteString", "internal/abi.NoEscape", "internal/bytealg.MakeNoZero"], unfollowed := true, recurses := true, named := ["unicode/utf8.first", "unicode/utf8.acceptRanges", "internal/strconv.uint64pow10", "math/bits.deBruijn32tab", "math/bits.deBruijn64tab"], plainKeys := false, apart := false, laid := [("math/bits.deBruijn32tab", laid_math_bits_deBruijn32tab), ("math/bits.deBruijn64tab", laid_math_bits_deBruijn64tab), ("internal/strconv.uint64pow10", laid_internal_strconv_uint64pow10), ("unicode/utf8.acceptRanges", laid_unicode_utf8_acceptRanges), ("unicode/utf8.first", laid_unicode_utf8_first)], narrowed := true }
def RenderFormsUptoSaid : Prop := renderFormsUptoRow.holds Tryz.pinned (OpenSpec.upto renderFormsSpec)

/-- 'scholiumlaw15.BlockProps', WHERE WHAT IT READS IS OF BULK AT MOST 1048576: true; the input reads as it did. -/
def blockPropsUptoRow : OpenClaim := { program := "ytghigiapfmlkbaagreatdoor", sum := "dacef0b9d6c7a469ba243e4c6fad02743625773b685e939f8f45155bfaaafedf", func := "scholium/scholiumlaw15.BlockProps", spec := "blockProps", inPlace := ["internal/bytealg.IndexByte", "internal/abi.NoEscape", "internal/bytealg.MakeNoZero", "internal/bytealg.IndexByteString"], recurses := true, named := ["unicode/utf8.first", "unicode/utf8.acceptRanges"], plainKeys := false, apart := false, laid := [("unicode/utf8.acceptRanges", laid_unicode_utf8_acceptRanges), ("unicode/utf8.first", laid_unicode_utf8_first)], narrowed := true }
def BlockPropsUptoSaid : Prop := blockPropsUptoRow.holds Tryz.pinned (OpenSpec.upto blockPropsSpec)

/-- 'scholiumlaw15.BlockDeep', WHERE WHAT IT READS IS OF BULK AT MOST 1048576: true; the input reads as it did. -/
def blockDeepUptoRow : OpenClaim := { program := "ytghigiapfmlkbaagreatdoor", sum := "dacef0b9d6c7a469ba243e4c6fad02743625773b685e939f8f45155bfaaafedf", func := "scholium/scholiumlaw15.BlockDeep", spec := "blockDeep", inPlace := ["internal/bytealg.IndexByte", "internal/abi.NoEscape", "internal/bytealg.MakeNoZero", "internal/bytealg.IndexByteString"], recurses := true, named := ["unicode/utf8.first", "unicode/utf8.acceptRanges"], plainKeys := false, apart := false, laid := [("unicode/utf8.acceptRanges", laid_unicode_utf8_acceptRanges), ("unicode/utf8.first", laid_unicode_utf8_first)], narrowed := true }
def BlockDeepUptoSaid : Prop := blockDeepUptoRow.holds Tryz.pinned (OpenSpec.upto blockDeepSpec)

/-- 'scholiumlaw15.BlockForms', WHERE WHAT IT READS IS OF BULK AT MOST 1048576: true; the input reads as it did. -/
def blockFormsUptoRow : OpenClaim := { program := "ytghigiapfmlkbaagreatdoor", sum := "dacef0b9d6c7a469ba243e4c6fad02743625773b685e939f8f45155bfaaafedf", func := "scholium/scholiumlaw15.BlockForms", spec := "blockForms", inPlace := ["internal/bytealg.IndexByte", "internal/abi.NoEscape", "internal/bytealg.MakeNoZero", "internal/bytealg.IndexByteString"], recurses := true, named := ["unicode/utf8.first", "unicode/utf8.acceptRanges"], plainKeys := false, apart := false, laid := [("unicode/utf8.acceptRanges", laid_unicode_utf8_acceptRanges), ("unicode/utf8.first", laid_unicode_utf8_first)], narrowed := true }
def BlockFormsUptoSaid : Prop := blockFormsUptoRow.holds Tryz.pinned (OpenSpec.upto blockFormsSpec)

/-- 'scholiumlaw16.StreamMarks', WHERE WHAT IT READS IS OF BULK AT MOST 1048576: true; the input reads as it did. -/
def streamMarksUptoRow : OpenClaim := { program := "ytghigiapfmlkbaagreatdoor", sum := "dacef0b9d6c7a469ba243e4c6fad02743625773b685e939f8f45155bfaaafedf", func := "scholium/scholiumlaw16.StreamMarks", spec := "streamMarks", inPlace := ["internal/bytealg.IndexByte", "internal/abi.NoEscape", "internal/bytealg.MakeNoZero", "internal/bytealg.IndexByteString"], unfollowed := true, recurses := true, named := ["unicode/utf8.first", "unicode/utf8.acceptRanges"], plainKeys := false, apart := false, laid := [("unicode/utf8.acceptRanges", laid_unicode_utf8_acceptRanges), ("unicode/utf8.first", laid_unicode_utf8_first)], narrowed := true }
def StreamMarksUptoSaid : Prop := streamMarksUptoRow.holds Tryz.pinned (OpenSpec.upto streamMarksSpec)

/-- 'scholiumlaw16.StreamErrors', WHERE WHAT IT READS IS OF BULK AT MOST 1048576: true; the input reads as it did. -/
def streamErrorsUptoRow : OpenClaim := { program := "ytghigiapfmlkbaagreatdoor", sum := "dacef0b9d6c7a469ba243e4c6fad02743625773b685e939f8f45155bfaaafedf", func := "scholium/scholiumlaw16.StreamErrors", spec := "streamErrors", inPlace := ["internal/bytealg.IndexByte", "internal/abi.NoEscape", "internal/bytealg.MakeNoZero", "internal/bytealg.IndexByteString"], unfollowed := true, recurses := true, named := ["unicode/utf8.first", "unicode/utf8.acceptRanges"], plainKeys := false, apart := false, laid := [("unicode/utf8.acceptRanges", laid_unicode_utf8_acceptRanges), ("unicode/utf8.first", laid_unicode_utf8_first)], narrowed := true }
def StreamErrorsUptoSaid : Prop := streamErrorsUptoRow.holds Tryz.pinned (OpenSpec.upto streamErrorsSpec)

/-- 'scholiumlaw17.TokenForms', WHERE WHAT IT READS IS OF BULK AT MOST 1048576: true; the input reads as it did. -/
def tokenFormsUptoRow : OpenClaim := { program := "ytghigiapfmlkbaagreatdoor", sum := "dacef0b9d6c7a469ba243e4c6fad02743625773b685e939f8f45155bfaaafedf", func := "scholium/scholiumlaw17.TokenForms", spec := "tokenForms", inPlace := ["internal/bytealg.IndexByte", "internal/abi.NoEscape", "internal/bytealg.MakeNoZero", "internal/bytealg.IndexByteString"], unfollowed := true, recurses := true, named := ["unicode/utf8.first", "unicode/utf8.acceptRanges"], plainKeys := false, apart := false, laid := [("unicode/utf8.acceptRanges", laid_unicode_utf8_acceptRanges), ("unicode/utf8.first", laid_unicode_utf8_first)], narrowed := true }
def TokenFormsUptoSaid : Prop := tokenFormsUptoRow.holds Tryz.pinned (OpenSpec.upto tokenFormsSpec)

/-- 'scholiumlaw19.RenderDeep', WHERE WHAT IT READS IS OF BULK AT MOST 1048576: true; the input reads as it did. -/
def renderDeepUptoRow : OpenClaim := { program := "ytghigiapfmlkbaagreatdoor", sum := "dacef0b9d6c7a469ba243e4c6fad02743625773b685e939f8f45155bfaaafedf", func := "scholium/scholiumlaw19.RenderDeep", spec := "renderDeep", inPlace := ["internal/bytealg.IndexByteString", "internal/abi.NoEscape", "internal/bytealg.MakeNoZero", "internal/bytealg.IndexByte", "internal/bytealg.Index", "internal/bytealg.IndexString"], unfollowed := true, recurses := true, named := ["unicode/utf8.first", "unicode/utf8.acceptRanges", "internal/strconv.uint64pow10", "math/bits.deBruijn32tab", "math/bits.deBruijn64tab", "internal/bytealg.MaxLen"], plainKeys := false, apart := false, laid := [("math/bits.deBruijn32tab", laid_math_bits_deBruijn32tab), ("math/bits.deBruijn64tab", laid_math_bits_deBruijn64tab), ("internal/strconv.uint64pow10", laid_internal_strconv_uint64pow10), ("unicode/utf8.acceptRanges", laid_unicode_utf8_acceptRanges), ("unicode/utf8.first", laid_unicode_utf8_first)], narrowed := true }
def RenderDeepUptoSaid : Prop := renderDeepUptoRow.holds Tryz.pinned (OpenSpec.upto renderDeepSpec)

end Rows
end Go.Proofs.YtghigiapfmlkbaaGreatDoor
