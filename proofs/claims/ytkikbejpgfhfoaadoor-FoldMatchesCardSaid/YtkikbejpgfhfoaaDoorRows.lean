/-
  NARROWER THAN 'FOR EVERY INPUT', by the rows' own cells (each row's printed sentence says how): SortCompareMatches: laid · SortMatches: laid · TextLinesMatch: laid · CommMatches: laid · DateDaysMatch: laid · FoldMatches: laid · SortRunsMatch: laid · PartMatches: laid · PasteMatches: laid · TrMatches: laid.
  DERIVED. THE GIVEN ROWS OF THIS SEAT. 10 by the template 'for every input the law returns true; each argument reads behind the call as it read before'; 0 by the template 'total and deterministic' (their statements: YtkikbejpgfhfoaaDoorTotals.lean).
  GIVEN WITH THE SEED: the statements are not yours to turn. If you find one false, say at which input.
  Laid BY PROGRAM, IN A SANDBOX (cutbox-rows.mjs): the forced cells as the released guide's own fill.sh prints them over the translation c7ac74383ce6a59e… (all of the seat's roots in one cut). By AI agents, Wed Nov 11 2026. No macro, syntax, notation, axiom, sorry.
-/
import Derived.Test.YtkikbejpgfhfoaaDoorChecked
import GoSem.PinnedTables
import GoSem.Claim
import GoSem.ClaimJoined
import GoSem.ClaimMapViews
import Derived.JoinedTies
import Derived.KernelRfl
namespace Go.Proofs.YtkikbejpgfhfoaaDoor
/- THE CELL 'sum', in the pinned program and in every row, IS THE sha256 OF THE DUMP (.gsa) THAT YtkikbejpgfhfoaaDoorProg.lean LOADS. Nothing in Lean hashes anything: it is a label: what it is worth is what the hold of that sum in a sandbox is worth. -/
noncomputable def Tryd.pinned : Pinned := { name := "ytkikbejpgfhfoaadoor", sum := "c7ac74383ce6a59e87e4dc6428c0ca5b352964cdf4cc84252b886e02296beadd", checked := Tryd.checked }
namespace Rows
def none {H : Type} : Left H := { results := [], args := [] }

/- WHAT THE LISTED PACKAGE-LEVEL VARIABLES READ AS WHEN THE CALL BEGINS. Each datum BY PROGRAM (the guide's laid-datum.mjs) off the statement by which the dump's own 'gosem.cut.vars' lays the variable. In a bare row this is a premise. The card (YtkikbejpgfhfoaaDoorCards.lean) ties it to the program's text. -/
def laid_unicode_utf8_acceptRanges {H : Type} : DataW H := .agg [.agg [.lit (.int .u8 128), .lit (.int .u8 191)], .agg [.lit (.int .u8 160), .lit (.int .u8 191)], .agg [.lit (.int .u8 128), .lit (.int .u8 159)], .agg [.lit (.int .u8 144), .lit (.int .u8 191)], .agg [.lit (.int .u8 128), .lit (.int .u8 143)], .agg [.lit (.int .u8 0), .lit (.int .u8 0)], .agg [.lit (.int .u8 0), .lit (.int .u8 0)], .agg [.lit (.int .u8 0), .lit (.int .u8 0)], .agg [.lit (.int .u8 0), .lit (.int .u8 0)], .agg [.lit (.int .u8 0), .lit (.int .u8 0)], .agg [.lit (.int .u8 0), .lit (.int .u8 0)], .agg [.lit (.int .u8 0), .lit (.int .u8 0)], .agg [.lit (.int .u8 0), .lit (.int .u8 0)], .agg [.lit (.int .u8 0), .lit (.int .u8 0)], .agg [.lit (.int .u8 0), .lit (.int .u8 0)], .agg [.lit (.int .u8 0), .lit (.int .u8 0)]]
/-- One of Go's own tables, pinned by name: the form's constant. -/
def laid_unicode_utf8_first : DataW Unit := Go.Pinned.utf8First

/-- 'periwinklelaw1.SortCompareMatches': WHATEVER THE INPUT: true; the input reads as it did. -/
def sortCompareMatchesSpec : ChangeSpec := { name := "sortCompareMatches", fn := fun _ => fun
  | [d1, d2, d3] => { results := [.lit (.bool true)], args := [d1, d2, d3] }
  | _ => none }
def sortCompareMatchesRow : OpenClaim := { program := "ytkikbejpgfhfoaadoor", sum := "c7ac74383ce6a59e87e4dc6428c0ca5b352964cdf4cc84252b886e02296beadd", func := "periwinkle/periwinklelaw1.SortCompareMatches", spec := "sortCompareMatches", inPlace := ["internal/bytealg.IndexByteString", "internal/bytealg.IndexString", "internal/bytealg.CountString", "internal/abi.NoEscape"], unfollowed := true, recurses := true, named := ["internal/bytealg.MaxLen", "unicode/utf8.first", "unicode/utf8.acceptRanges"], apart := false, laid := [("unicode/utf8.acceptRanges", laid_unicode_utf8_acceptRanges), ("unicode/utf8.first", laid_unicode_utf8_first)] }
def SortCompareMatchesSaid : Prop := sortCompareMatchesRow.holds Tryd.pinned (OpenSpec.ofChange sortCompareMatchesSpec)

/-- ITS FALSE NEIGHBOUR: 'it returns false'. Refute it at one input. -/
def sortCompareMatchesWrong : ChangeSpec := { name := "sortCompareMatches", fn := fun _ => fun
  | [d1, d2, d3] => { results := [.lit (.bool false)], args := [d1, d2, d3] }
  | _ => none }
def SortCompareMatchesWrongFalsely : Prop := sortCompareMatchesRow.holds Tryd.pinned (OpenSpec.ofChange sortCompareMatchesWrong)

/-- 'periwinklelaw1.SortMatches': WHATEVER THE INPUT: true; the input reads as it did. -/
def sortMatchesSpec : ChangeSpec := { name := "sortMatches", fn := fun _ => fun
  | [d1, d2] => { results := [.lit (.bool true)], args := [d1, d2] }
  | _ => none }
def sortMatchesRow : OpenClaim := { program := "ytkikbejpgfhfoaadoor", sum := "c7ac74383ce6a59e87e4dc6428c0ca5b352964cdf4cc84252b886e02296beadd", func := "periwinkle/periwinklelaw1.SortMatches", spec := "sortMatches", inPlace := ["internal/bytealg.CountString", "internal/bytealg.IndexByteString", "internal/bytealg.IndexString", "internal/abi.NoEscape"], unfollowed := true, recurses := true, named := ["unicode/utf8.first", "unicode/utf8.acceptRanges", "internal/bytealg.MaxLen"], apart := false, laid := [("unicode/utf8.acceptRanges", laid_unicode_utf8_acceptRanges), ("unicode/utf8.first", laid_unicode_utf8_first)] }
def SortMatchesSaid : Prop := sortMatchesRow.holds Tryd.pinned (OpenSpec.ofChange sortMatchesSpec)

/-- ITS FALSE NEIGHBOUR: 'it returns false'. Refute it at one input. -/
def sortMatchesWrong : ChangeSpec := { name := "sortMatches", fn := fun _ => fun
  | [d1, d2] => { results := [.lit (.bool false)], args := [d1, d2] }
  | _ => none }
def SortMatchesWrongFalsely : Prop := sortMatchesRow.holds Tryd.pinned (OpenSpec.ofChange sortMatchesWrong)

/-- 'periwinklelaw1.TextLinesMatch': WHATEVER THE INPUT: true; the input reads as it did. -/
def textLinesMatchSpec : ChangeSpec := { name := "textLinesMatch", fn := fun _ => fun
  | [d] => { results := [.lit (.bool true)], args := [d] }
  | _ => none }
def textLinesMatchRow : OpenClaim := { program := "ytkikbejpgfhfoaadoor", sum := "c7ac74383ce6a59e87e4dc6428c0ca5b352964cdf4cc84252b886e02296beadd", func := "periwinkle/periwinklelaw1.TextLinesMatch", spec := "textLinesMatch", inPlace := ["internal/bytealg.CountString", "internal/bytealg.IndexByteString", "internal/bytealg.IndexString", "internal/abi.NoEscape"], unfollowed := true, recurses := true, named := ["unicode/utf8.first", "unicode/utf8.acceptRanges", "internal/bytealg.MaxLen"], apart := false, laid := [("unicode/utf8.acceptRanges", laid_unicode_utf8_acceptRanges), ("unicode/utf8.first", laid_unicode_utf8_first)] }
def TextLinesMatchSaid : Prop := textLinesMatchRow.holds Tryd.pinned (OpenSpec.ofChange textLinesMatchSpec)

/-- ITS FALSE NEIGHBOUR: 'it returns false'. Refute it at one input. -/
def textLinesMatchWrong : ChangeSpec := { name := "textLinesMatch", fn := fun _ => fun
  | [d] => { results := [.lit (.bool false)], args := [d] }
  | _ => none }
def TextLinesMatchWrongFalsely : Prop := textLinesMatchRow.holds Tryd.pinned (OpenSpec.ofChange textLinesMatchWrong)

/-- 'periwinklelaw1.CommMatches': WHATEVER THE INPUT: true; the input reads as it did. -/
def commMatchesSpec : ChangeSpec := { name := "commMatches", fn := fun _ => fun
  | [d1, d2, d3] => { results := [.lit (.bool true)], args := [d1, d2, d3] }
  | _ => none }
def commMatchesRow : OpenClaim := { program := "ytkikbejpgfhfoaadoor", sum := "c7ac74383ce6a59e87e4dc6428c0ca5b352964cdf4cc84252b886e02296beadd", func := "periwinkle/periwinklelaw1.CommMatches", spec := "commMatches", inPlace := ["internal/bytealg.CountString", "internal/bytealg.IndexByteString", "internal/bytealg.IndexString", "internal/abi.NoEscape"], unfollowed := true, recurses := true, named := ["unicode/utf8.first", "unicode/utf8.acceptRanges", "internal/bytealg.MaxLen"], apart := false, laid := [("unicode/utf8.acceptRanges", laid_unicode_utf8_acceptRanges), ("unicode/utf8.first", laid_unicode_utf8_first)] }
def CommMatchesSaid : Prop := commMatchesRow.holds Tryd.pinned (OpenSpec.ofChange commMatchesSpec)

/-- ITS FALSE NEIGHBOUR: 'it returns false'. Refute it at one input. -/
def commMatchesWrong : ChangeSpec := { name := "commMatches", fn := fun _ => fun
  | [d1, d2, d3] => { results := [.lit (.bool false)], args := [d1, d2, d3] }
  | _ => none }
def CommMatchesWrongFalsely : Prop := commMatchesRow.holds Tryd.pinned (OpenSpec.ofChange commMatchesWrong)

/-- 'periwinklelaw1.DateDaysMatch': WHATEVER THE INPUT: true; the input reads as it did. -/
def dateDaysMatchSpec : ChangeSpec := { name := "dateDaysMatch", fn := fun _ => fun
  | [d1, d2, d3, d4] => { results := [.lit (.bool true)], args := [d1, d2, d3, d4] }
  | _ => none }
def dateDaysMatchRow : OpenClaim := { program := "ytkikbejpgfhfoaadoor", sum := "c7ac74383ce6a59e87e4dc6428c0ca5b352964cdf4cc84252b886e02296beadd", func := "periwinkle/periwinklelaw1.DateDaysMatch", spec := "dateDaysMatch", inPlace := ["internal/bytealg.CountString", "internal/bytealg.IndexByteString", "internal/bytealg.IndexString", "internal/abi.NoEscape"], unfollowed := true, recurses := true, named := ["unicode/utf8.first", "unicode/utf8.acceptRanges", "internal/bytealg.MaxLen"], apart := false, laid := [("unicode/utf8.acceptRanges", laid_unicode_utf8_acceptRanges), ("unicode/utf8.first", laid_unicode_utf8_first)] }
def DateDaysMatchSaid : Prop := dateDaysMatchRow.holds Tryd.pinned (OpenSpec.ofChange dateDaysMatchSpec)

/-- ITS FALSE NEIGHBOUR: 'it returns false'. Refute it at one input. -/
def dateDaysMatchWrong : ChangeSpec := { name := "dateDaysMatch", fn := fun _ => fun
  | [d1, d2, d3, d4] => { results := [.lit (.bool false)], args := [d1, d2, d3, d4] }
  | _ => none }
def DateDaysMatchWrongFalsely : Prop := dateDaysMatchRow.holds Tryd.pinned (OpenSpec.ofChange dateDaysMatchWrong)

/-- 'periwinklelaw1.FoldMatches': WHATEVER THE INPUT: true; the input reads as it did. -/
def foldMatchesSpec : ChangeSpec := { name := "foldMatches", fn := fun _ => fun
  | [d1, d2, d3] => { results := [.lit (.bool true)], args := [d1, d2, d3] }
  | _ => none }
def foldMatchesRow : OpenClaim := { program := "ytkikbejpgfhfoaadoor", sum := "c7ac74383ce6a59e87e4dc6428c0ca5b352964cdf4cc84252b886e02296beadd", func := "periwinkle/periwinklelaw1.FoldMatches", spec := "foldMatches", inPlace := ["internal/bytealg.CountString", "internal/bytealg.IndexByteString", "internal/bytealg.IndexString", "internal/abi.NoEscape"], unfollowed := true, recurses := true, named := ["unicode/utf8.first", "unicode/utf8.acceptRanges", "internal/bytealg.MaxLen"], apart := false, laid := [("unicode/utf8.acceptRanges", laid_unicode_utf8_acceptRanges), ("unicode/utf8.first", laid_unicode_utf8_first)] }
def FoldMatchesSaid : Prop := foldMatchesRow.holds Tryd.pinned (OpenSpec.ofChange foldMatchesSpec)

/-- ITS FALSE NEIGHBOUR: 'it returns false'. Refute it at one input. -/
def foldMatchesWrong : ChangeSpec := { name := "foldMatches", fn := fun _ => fun
  | [d1, d2, d3] => { results := [.lit (.bool false)], args := [d1, d2, d3] }
  | _ => none }
def FoldMatchesWrongFalsely : Prop := foldMatchesRow.holds Tryd.pinned (OpenSpec.ofChange foldMatchesWrong)

/-- 'periwinklelaw1.SortRunsMatch': WHATEVER THE INPUT: true; the input reads as it did. -/
def sortRunsMatchSpec : ChangeSpec := { name := "sortRunsMatch", fn := fun _ => fun
  | [d1, d2, d3, d4] => { results := [.lit (.bool true)], args := [d1, d2, d3, d4] }
  | _ => none }
def sortRunsMatchRow : OpenClaim := { program := "ytkikbejpgfhfoaadoor", sum := "c7ac74383ce6a59e87e4dc6428c0ca5b352964cdf4cc84252b886e02296beadd", func := "periwinkle/periwinklelaw1.SortRunsMatch", spec := "sortRunsMatch", inPlace := ["internal/bytealg.CountString", "internal/bytealg.IndexByteString", "internal/bytealg.IndexString", "internal/abi.NoEscape"], unfollowed := true, recurses := true, named := ["unicode/utf8.first", "unicode/utf8.acceptRanges", "internal/bytealg.MaxLen"], apart := false, laid := [("unicode/utf8.acceptRanges", laid_unicode_utf8_acceptRanges), ("unicode/utf8.first", laid_unicode_utf8_first)] }
def SortRunsMatchSaid : Prop := sortRunsMatchRow.holds Tryd.pinned (OpenSpec.ofChange sortRunsMatchSpec)

/-- ITS FALSE NEIGHBOUR: 'it returns false'. Refute it at one input. -/
def sortRunsMatchWrong : ChangeSpec := { name := "sortRunsMatch", fn := fun _ => fun
  | [d1, d2, d3, d4] => { results := [.lit (.bool false)], args := [d1, d2, d3, d4] }
  | _ => none }
def SortRunsMatchWrongFalsely : Prop := sortRunsMatchRow.holds Tryd.pinned (OpenSpec.ofChange sortRunsMatchWrong)

/-- 'periwinklelaw1.PartMatches': WHATEVER THE INPUT: true; the input reads as it did. -/
def partMatchesSpec : ChangeSpec := { name := "partMatches", fn := fun _ => fun
  | [d1, d2] => { results := [.lit (.bool true)], args := [d1, d2] }
  | _ => none }
def partMatchesRow : OpenClaim := { program := "ytkikbejpgfhfoaadoor", sum := "c7ac74383ce6a59e87e4dc6428c0ca5b352964cdf4cc84252b886e02296beadd", func := "periwinkle/periwinklelaw1.PartMatches", spec := "partMatches", inPlace := ["internal/bytealg.CountString", "internal/bytealg.IndexByteString", "internal/bytealg.IndexString", "internal/abi.NoEscape", "internal/bytealg.MakeNoZero"], unfollowed := true, recurses := true, named := ["unicode/utf8.first", "unicode/utf8.acceptRanges", "internal/bytealg.MaxLen"], apart := false, laid := [("unicode/utf8.acceptRanges", laid_unicode_utf8_acceptRanges), ("unicode/utf8.first", laid_unicode_utf8_first)] }
def PartMatchesSaid : Prop := partMatchesRow.holds Tryd.pinned (OpenSpec.ofChange partMatchesSpec)

/-- ITS FALSE NEIGHBOUR: 'it returns false'. Refute it at one input. -/
def partMatchesWrong : ChangeSpec := { name := "partMatches", fn := fun _ => fun
  | [d1, d2] => { results := [.lit (.bool false)], args := [d1, d2] }
  | _ => none }
def PartMatchesWrongFalsely : Prop := partMatchesRow.holds Tryd.pinned (OpenSpec.ofChange partMatchesWrong)

/-- 'periwinklelaw1.PasteMatches': WHATEVER THE INPUT: true; the input reads as it did. -/
def pasteMatchesSpec : ChangeSpec := { name := "pasteMatches", fn := fun _ => fun
  | [d1, d2, d3] => { results := [.lit (.bool true)], args := [d1, d2, d3] }
  | _ => none }
def pasteMatchesRow : OpenClaim := { program := "ytkikbejpgfhfoaadoor", sum := "c7ac74383ce6a59e87e4dc6428c0ca5b352964cdf4cc84252b886e02296beadd", func := "periwinkle/periwinklelaw1.PasteMatches", spec := "pasteMatches", inPlace := ["internal/bytealg.IndexByteString", "internal/bytealg.IndexString", "internal/bytealg.CountString", "internal/abi.NoEscape", "internal/bytealg.MakeNoZero"], unfollowed := true, recurses := true, named := ["internal/bytealg.MaxLen", "unicode/utf8.first", "unicode/utf8.acceptRanges"], apart := false, laid := [("unicode/utf8.acceptRanges", laid_unicode_utf8_acceptRanges), ("unicode/utf8.first", laid_unicode_utf8_first)] }
def PasteMatchesSaid : Prop := pasteMatchesRow.holds Tryd.pinned (OpenSpec.ofChange pasteMatchesSpec)

/-- ITS FALSE NEIGHBOUR: 'it returns false'. Refute it at one input. -/
def pasteMatchesWrong : ChangeSpec := { name := "pasteMatches", fn := fun _ => fun
  | [d1, d2, d3] => { results := [.lit (.bool false)], args := [d1, d2, d3] }
  | _ => none }
def PasteMatchesWrongFalsely : Prop := pasteMatchesRow.holds Tryd.pinned (OpenSpec.ofChange pasteMatchesWrong)

/-- 'periwinklelaw1.TrMatches': WHATEVER THE INPUT: true; the input reads as it did. -/
def trMatchesSpec : ChangeSpec := { name := "trMatches", fn := fun _ => fun
  | [d1, d2] => { results := [.lit (.bool true)], args := [d1, d2] }
  | _ => none }
def trMatchesRow : OpenClaim := { program := "ytkikbejpgfhfoaadoor", sum := "c7ac74383ce6a59e87e4dc6428c0ca5b352964cdf4cc84252b886e02296beadd", func := "periwinkle/periwinklelaw1.TrMatches", spec := "trMatches", inPlace := ["internal/bytealg.IndexByteString", "internal/bytealg.CountString", "internal/bytealg.IndexString", "internal/abi.NoEscape"], unfollowed := true, recurses := true, named := ["unicode/utf8.first", "unicode/utf8.acceptRanges", "internal/bytealg.MaxLen"], apart := false, laid := [("unicode/utf8.acceptRanges", laid_unicode_utf8_acceptRanges), ("unicode/utf8.first", laid_unicode_utf8_first)] }
def TrMatchesSaid : Prop := trMatchesRow.holds Tryd.pinned (OpenSpec.ofChange trMatchesSpec)

/-- ITS FALSE NEIGHBOUR: 'it returns false'. Refute it at one input. -/
def trMatchesWrong : ChangeSpec := { name := "trMatches", fn := fun _ => fun
  | [d1, d2] => { results := [.lit (.bool false)], args := [d1, d2] }
  | _ => none }
def TrMatchesWrongFalsely : Prop := trMatchesRow.holds Tryd.pinned (OpenSpec.ofChange trMatchesWrong)

/- THE SECOND FORM. 'bulk': how many values and letters a reading holds, each counted each time it is reached (what is shared counts as often as it is met; a slice's spare places count too). A statement '..UptoSaid' is the law's where the arguments, and the package variables that the reading takes, are together of bulk at most 1048576: NARROWER than '..Said'. Prove '..Said' where nothing that the law and all that it calls make is longer than what came in: it says more and counts as full. Else prove '..UptoSaid'. A law counts once. -/
mutual
def uptoBulk {H : Type} : DataW H → Nat
  | .lit (.string bytes) => bytes.length + 1
  | .lit _ => 1
  | .nil => 1
  | .ptr d => uptoBulk d + 1
  | .slice elems spare => uptoBulkAll elems + uptoBulkAll spare + 1
  | .agg parts => uptoBulkAll parts + 1
  | .iface _ d => uptoBulk d + 1
  | .map entries => uptoBulkEntries entries + 1
  | .held _ => 1
def uptoBulkAll {H : Type} : List (DataW H) → Nat
  | [] => 0
  | d :: r => uptoBulk d + uptoBulkAll r
def uptoBulkEntries {H : Type} : List (Lit × DataW H) → Nat
  | [] => 0
  | x :: r => uptoBulkEntry x + uptoBulkEntries r
def uptoBulkEntry {H : Type} : Lit × DataW H → Nat
  | (.string bytes, d) => bytes.length + uptoBulk d + 1
  | (_, d) => uptoBulk d + 1
 end
def uptoSmall : (H : Type) → List (DataW H) → Bool := fun _ ds => decide (uptoBulkAll ds ≤ 1048576)
def OpenSpec.upto (s : _root_.Go.ChangeSpec) : _root_.Go.OpenSpec := { _root_.Go.OpenSpec.ofChange s with cond := some uptoSmall }

/-- 'periwinklelaw1.SortCompareMatches', WHERE WHAT IT READS IS OF BULK AT MOST 1048576: true; the input reads as it did. -/
def sortCompareMatchesUptoRow : OpenClaim := { program := "ytkikbejpgfhfoaadoor", sum := "c7ac74383ce6a59e87e4dc6428c0ca5b352964cdf4cc84252b886e02296beadd", func := "periwinkle/periwinklelaw1.SortCompareMatches", spec := "sortCompareMatches", inPlace := ["internal/bytealg.IndexByteString", "internal/bytealg.IndexString", "internal/bytealg.CountString", "internal/abi.NoEscape"], unfollowed := true, recurses := true, named := ["internal/bytealg.MaxLen", "unicode/utf8.first", "unicode/utf8.acceptRanges"], apart := false, laid := [("unicode/utf8.acceptRanges", laid_unicode_utf8_acceptRanges), ("unicode/utf8.first", laid_unicode_utf8_first)], narrowed := true }
def SortCompareMatchesUptoSaid : Prop := sortCompareMatchesUptoRow.holds Tryd.pinned (OpenSpec.upto sortCompareMatchesSpec)

/-- 'periwinklelaw1.SortMatches', WHERE WHAT IT READS IS OF BULK AT MOST 1048576: true; the input reads as it did. -/
def sortMatchesUptoRow : OpenClaim := { program := "ytkikbejpgfhfoaadoor", sum := "c7ac74383ce6a59e87e4dc6428c0ca5b352964cdf4cc84252b886e02296beadd", func := "periwinkle/periwinklelaw1.SortMatches", spec := "sortMatches", inPlace := ["internal/bytealg.CountString", "internal/bytealg.IndexByteString", "internal/bytealg.IndexString", "internal/abi.NoEscape"], unfollowed := true, recurses := true, named := ["unicode/utf8.first", "unicode/utf8.acceptRanges", "internal/bytealg.MaxLen"], apart := false, laid := [("unicode/utf8.acceptRanges", laid_unicode_utf8_acceptRanges), ("unicode/utf8.first", laid_unicode_utf8_first)], narrowed := true }
def SortMatchesUptoSaid : Prop := sortMatchesUptoRow.holds Tryd.pinned (OpenSpec.upto sortMatchesSpec)

/-- 'periwinklelaw1.TextLinesMatch', WHERE WHAT IT READS IS OF BULK AT MOST 1048576: true; the input reads as it did. -/
def textLinesMatchUptoRow : OpenClaim := { program := "ytkikbejpgfhfoaadoor", sum := "c7ac74383ce6a59e87e4dc6428c0ca5b352964cdf4cc84252b886e02296beadd", func := "periwinkle/periwinklelaw1.TextLinesMatch", spec := "textLinesMatch", inPlace := ["internal/bytealg.CountString", "internal/bytealg.IndexByteString", "internal/bytealg.IndexString", "internal/abi.NoEscape"], unfollowed := true, recurses := true, named := ["unicode/utf8.first", "unicode/utf8.acceptRanges", "internal/bytealg.MaxLen"], apart := false, laid := [("unicode/utf8.acceptRanges", laid_unicode_utf8_acceptRanges), ("unicode/utf8.first", laid_unicode_utf8_first)], narrowed := true }
def TextLinesMatchUptoSaid : Prop := textLinesMatchUptoRow.holds Tryd.pinned (OpenSpec.upto textLinesMatchSpec)

/-- 'periwinklelaw1.CommMatches', WHERE WHAT IT READS IS OF BULK AT MOST 1048576: true; the input reads as it did. -/
def commMatchesUptoRow : OpenClaim := { program := "ytkikbejpgfhfoaadoor", sum := "c7ac74383ce6a59e87e4dc6428c0ca5b352964cdf4cc84252b886e02296beadd", func := "periwinkle/periwinklelaw1.CommMatches", spec := "commMatches", inPlace := ["internal/bytealg.CountString", "internal/bytealg.IndexByteString", "internal/bytealg.IndexString", "internal/abi.NoEscape"], unfollowed := true, recurses := true, named := ["unicode/utf8.first", "unicode/utf8.acceptRanges", "internal/bytealg.MaxLen"], apart := false, laid := [("unicode/utf8.acceptRanges", laid_unicode_utf8_acceptRanges), ("unicode/utf8.first", laid_unicode_utf8_first)], narrowed := true }
def CommMatchesUptoSaid : Prop := commMatchesUptoRow.holds Tryd.pinned (OpenSpec.upto commMatchesSpec)

/-- 'periwinklelaw1.DateDaysMatch', WHERE WHAT IT READS IS OF BULK AT MOST 1048576: true; the input reads as it did. -/
def dateDaysMatchUptoRow : OpenClaim := { program := "ytkikbejpgfhfoaadoor", sum := "c7ac74383ce6a59e87e4dc6428c0ca5b352964cdf4cc84252b886e02296beadd", func := "periwinkle/periwinklelaw1.DateDaysMatch", spec := "dateDaysMatch", inPlace := ["internal/bytealg.CountString", "internal/bytealg.IndexByteString", "internal/bytealg.IndexString", "internal/abi.NoEscape"], unfollowed := true, recurses := true, named := ["unicode/utf8.first", "unicode/utf8.acceptRanges", "internal/bytealg.MaxLen"], apart := false, laid := [("unicode/utf8.acceptRanges", laid_unicode_utf8_acceptRanges), ("unicode/utf8.first", laid_unicode_utf8_first)], narrowed := true }
def DateDaysMatchUptoSaid : Prop := dateDaysMatchUptoRow.holds Tryd.pinned (OpenSpec.upto dateDaysMatchSpec)

/-- 'periwinklelaw1.FoldMatches', WHERE WHAT IT READS IS OF BULK AT MOST 1048576: true; the input reads as it did. -/
def foldMatchesUptoRow : OpenClaim := { program := "ytkikbejpgfhfoaadoor", sum := "c7ac74383ce6a59e87e4dc6428c0ca5b352964cdf4cc84252b886e02296beadd", func := "periwinkle/periwinklelaw1.FoldMatches", spec := "foldMatches", inPlace := ["internal/bytealg.CountString", "internal/bytealg.IndexByteString", "internal/bytealg.IndexString", "internal/abi.NoEscape"], unfollowed := true, recurses := true, named := ["unicode/utf8.first", "unicode/utf8.acceptRanges", "internal/bytealg.MaxLen"], apart := false, laid := [("unicode/utf8.acceptRanges", laid_unicode_utf8_acceptRanges), ("unicode/utf8.first", laid_unicode_utf8_first)], narrowed := true }
def FoldMatchesUptoSaid : Prop := foldMatchesUptoRow.holds Tryd.pinned (OpenSpec.upto foldMatchesSpec)

/-- 'periwinklelaw1.SortRunsMatch', WHERE WHAT IT READS IS OF BULK AT MOST 1048576: true; the input reads as it did. -/
def sortRunsMatchUptoRow : OpenClaim := { program := "ytkikbejpgfhfoaadoor", sum := "c7ac74383ce6a59e87e4dc6428c0ca5b352964cdf4cc84252b886e02296beadd", func := "periwinkle/periwinklelaw1.SortRunsMatch", spec := "sortRunsMatch", inPlace := ["internal/bytealg.CountString", "internal/bytealg.IndexByteString", "internal/bytealg.IndexString", "internal/abi.NoEscape"], unfollowed := true, recurses := true, named := ["unicode/utf8.first", "unicode/utf8.acceptRanges", "internal/bytealg.MaxLen"], apart := false, laid := [("unicode/utf8.acceptRanges", laid_unicode_utf8_acceptRanges), ("unicode/utf8.first", laid_unicode_utf8_first)], narrowed := true }
def SortRunsMatchUptoSaid : Prop := sortRunsMatchUptoRow.holds Tryd.pinned (OpenSpec.upto sortRunsMatchSpec)

/-- 'periwinklelaw1.PartMatches', WHERE WHAT IT READS IS OF BULK AT MOST 1048576: true; the input reads as it did. -/
def partMatchesUptoRow : OpenClaim := { program := "ytkikbejpgfhfoaadoor", sum := "c7ac74383ce6a59e87e4dc6428c0ca5b352964cdf4cc84252b886e02296beadd", func := "periwinkle/periwinklelaw1.PartMatches", spec := "partMatches", inPlace := ["internal/bytealg.CountString", "internal/bytealg.IndexByteString", "internal/bytealg.IndexString", "internal/abi.NoEscape", "internal/bytealg.MakeNoZero"], unfollowed := true, recurses := true, named := ["unicode/utf8.first", "unicode/utf8.acceptRanges", "internal/bytealg.MaxLen"], apart := false, laid := [("unicode/utf8.acceptRanges", laid_unicode_utf8_acceptRanges), ("unicode/utf8.first", laid_unicode_utf8_first)], narrowed := true }
def PartMatchesUptoSaid : Prop := partMatchesUptoRow.holds Tryd.pinned (OpenSpec.upto partMatchesSpec)

/-- 'periwinklelaw1.PasteMatches', WHERE WHAT IT READS IS OF BULK AT MOST 1048576: true; the input reads as it did. -/
def pasteMatchesUptoRow : OpenClaim := { program := "ytkikbejpgfhfoaadoor", sum := "c7ac74383ce6a59e87e4dc6428c0ca5b352964cdf4cc84252b886e02296beadd", func := "periwinkle/periwinklelaw1.PasteMatches", spec := "pasteMatches", inPlace := ["internal/bytealg.IndexByteString", "internal/bytealg.IndexString", "internal/bytealg.CountString", "internal/abi.NoEscape", "internal/bytealg.MakeNoZero"], unfollowed := true, recurses := true, named := ["internal/bytealg.MaxLen", "unicode/utf8.first", "unicode/utf8.acceptRanges"], apart := false, laid := [("unicode/utf8.acceptRanges", laid_unicode_utf8_acceptRanges), ("unicode/utf8.first", laid_unicode_utf8_first)], narrowed := true }
def PasteMatchesUptoSaid : Prop := pasteMatchesUptoRow.holds Tryd.pinned (OpenSpec.upto pasteMatchesSpec)

/-- 'periwinklelaw1.TrMatches', WHERE WHAT IT READS IS OF BULK AT MOST 1048576: true; the input reads as it did. -/
def trMatchesUptoRow : OpenClaim := { program := "ytkikbejpgfhfoaadoor", sum := "c7ac74383ce6a59e87e4dc6428c0ca5b352964cdf4cc84252b886e02296beadd", func := "periwinkle/periwinklelaw1.TrMatches", spec := "trMatches", inPlace := ["internal/bytealg.IndexByteString", "internal/bytealg.CountString", "internal/bytealg.IndexString", "internal/abi.NoEscape"], unfollowed := true, recurses := true, named := ["unicode/utf8.first", "unicode/utf8.acceptRanges", "internal/bytealg.MaxLen"], apart := false, laid := [("unicode/utf8.acceptRanges", laid_unicode_utf8_acceptRanges), ("unicode/utf8.first", laid_unicode_utf8_first)], narrowed := true }
def TrMatchesUptoSaid : Prop := trMatchesUptoRow.holds Tryd.pinned (OpenSpec.upto trMatchesSpec)

end Rows
end Go.Proofs.YtkikbejpgfhfoaaDoor
