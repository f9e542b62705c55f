/-
  DERIVED. GIVEN WITH THE SEED: THE CARDS: each row of YtkikbejpgfhfoaaDoorRows.lean that lists a variable, with what it lists TIED to the program's text (the seventh form; the later family's looks); each row that meets fmt, with fmt's text TOLD by the authors' own Lean function (tested against real Go, not proved from fmt's source: count such statements apart). THE CARD IS WHAT COUNTS. Prove the row's statement (the work); the ties are given (YtkikbejpgfhfoaaDoorTie.lean); close each card by the builder's one call (the guide's Derived/Test/ToyasCard.lean, 'card_holds'). Laid BY PROGRAM, IN A SANDBOX (cutbox-door.mjs). By AI agents, Wed Nov 11 2026. No macro, syntax, notation, axiom, sorry.
-/
import Derived.Test.YtkikbejpgfhfoaaDoorRows
import GoSem.ClaimSeven
namespace Go.Proofs.YtkikbejpgfhfoaaDoor
namespace Rows

/-- THE TIED CARD OF 'periwinklelaw1.SortCompareMatches'. -/
def sortCompareMatchesCard : Claim7 := { stood := { row := sortCompareMatchesRow, standIns := [], harness := (true, "f6b9153a0f7b436831e97b838cb4f6a5f17869a2f2752b2be97b728bf8349631"), looks := false }, kinds := [], alts := [], laidByText := true, laidKinds := [.data, .pinned], laidTests := true, laidLooks := .later }
def SortCompareMatchesCardSaid : Prop := Claim7.holds Tryd.pinned (.plain (OpenSpec.ofChange sortCompareMatchesSpec)) sortCompareMatchesCard

/-- THE TIED CARD OF 'periwinklelaw1.SortMatches'. -/
def sortMatchesCard : Claim7 := { stood := { row := sortMatchesRow, standIns := [], harness := (true, "f6b9153a0f7b436831e97b838cb4f6a5f17869a2f2752b2be97b728bf8349631"), looks := false }, kinds := [], alts := [], laidByText := true, laidKinds := [.data, .pinned], laidTests := true, laidLooks := .later }
def SortMatchesCardSaid : Prop := Claim7.holds Tryd.pinned (.plain (OpenSpec.ofChange sortMatchesSpec)) sortMatchesCard

/-- THE TIED CARD OF 'periwinklelaw1.TextLinesMatch'. -/
def textLinesMatchCard : Claim7 := { stood := { row := textLinesMatchRow, standIns := [], harness := (true, "f6b9153a0f7b436831e97b838cb4f6a5f17869a2f2752b2be97b728bf8349631"), looks := false }, kinds := [], alts := [], laidByText := true, laidKinds := [.data, .pinned], laidTests := true, laidLooks := .later }
def TextLinesMatchCardSaid : Prop := Claim7.holds Tryd.pinned (.plain (OpenSpec.ofChange textLinesMatchSpec)) textLinesMatchCard

/-- THE TIED CARD OF 'periwinklelaw1.CommMatches'. -/
def commMatchesCard : Claim7 := { stood := { row := commMatchesRow, standIns := [], harness := (true, "f6b9153a0f7b436831e97b838cb4f6a5f17869a2f2752b2be97b728bf8349631"), looks := false }, kinds := [], alts := [], laidByText := true, laidKinds := [.data, .pinned], laidTests := true, laidLooks := .later }
def CommMatchesCardSaid : Prop := Claim7.holds Tryd.pinned (.plain (OpenSpec.ofChange commMatchesSpec)) commMatchesCard

/-- THE TIED CARD OF 'periwinklelaw1.DateDaysMatch'. -/
def dateDaysMatchCard : Claim7 := { stood := { row := dateDaysMatchRow, standIns := [], harness := (true, "f6b9153a0f7b436831e97b838cb4f6a5f17869a2f2752b2be97b728bf8349631"), looks := false }, kinds := [], alts := [], laidByText := true, laidKinds := [.data, .pinned], laidTests := true, laidLooks := .later }
def DateDaysMatchCardSaid : Prop := Claim7.holds Tryd.pinned (.plain (OpenSpec.ofChange dateDaysMatchSpec)) dateDaysMatchCard

/-- THE TIED CARD OF 'periwinklelaw1.FoldMatches'. -/
def foldMatchesCard : Claim7 := { stood := { row := foldMatchesRow, standIns := [], harness := (true, "f6b9153a0f7b436831e97b838cb4f6a5f17869a2f2752b2be97b728bf8349631"), looks := false }, kinds := [], alts := [], laidByText := true, laidKinds := [.data, .pinned], laidTests := true, laidLooks := .later }
def FoldMatchesCardSaid : Prop := Claim7.holds Tryd.pinned (.plain (OpenSpec.ofChange foldMatchesSpec)) foldMatchesCard

/-- THE TIED CARD OF 'periwinklelaw1.SortRunsMatch'. -/
def sortRunsMatchCard : Claim7 := { stood := { row := sortRunsMatchRow, standIns := [], harness := (true, "f6b9153a0f7b436831e97b838cb4f6a5f17869a2f2752b2be97b728bf8349631"), looks := false }, kinds := [], alts := [], laidByText := true, laidKinds := [.data, .pinned], laidTests := true, laidLooks := .later }
def SortRunsMatchCardSaid : Prop := Claim7.holds Tryd.pinned (.plain (OpenSpec.ofChange sortRunsMatchSpec)) sortRunsMatchCard

/-- THE TIED CARD OF 'periwinklelaw1.PartMatches'. -/
def partMatchesCard : Claim7 := { stood := { row := partMatchesRow, standIns := [], harness := (true, "f6b9153a0f7b436831e97b838cb4f6a5f17869a2f2752b2be97b728bf8349631"), looks := false }, kinds := [], alts := [], laidByText := true, laidKinds := [.data, .pinned], laidTests := true, laidLooks := .later }
def PartMatchesCardSaid : Prop := Claim7.holds Tryd.pinned (.plain (OpenSpec.ofChange partMatchesSpec)) partMatchesCard

/-- THE TIED CARD OF 'periwinklelaw1.PasteMatches'. -/
def pasteMatchesCard : Claim7 := { stood := { row := pasteMatchesRow, standIns := [], harness := (true, "f6b9153a0f7b436831e97b838cb4f6a5f17869a2f2752b2be97b728bf8349631"), looks := false }, kinds := [], alts := [], laidByText := true, laidKinds := [.data, .pinned], laidTests := true, laidLooks := .later }
def PasteMatchesCardSaid : Prop := Claim7.holds Tryd.pinned (.plain (OpenSpec.ofChange pasteMatchesSpec)) pasteMatchesCard

/-- THE TIED CARD OF 'periwinklelaw1.TrMatches'. -/
def trMatchesCard : Claim7 := { stood := { row := trMatchesRow, standIns := [], harness := (true, "f6b9153a0f7b436831e97b838cb4f6a5f17869a2f2752b2be97b728bf8349631"), looks := false }, kinds := [], alts := [], laidByText := true, laidKinds := [.data, .pinned], laidTests := true, laidLooks := .later }
def TrMatchesCardSaid : Prop := Claim7.holds Tryd.pinned (.plain (OpenSpec.ofChange trMatchesSpec)) trMatchesCard

/-- THE SECOND FORM's CARD OF 'periwinklelaw1.SortCompareMatches'. -/
def sortCompareMatchesUptoCard : Claim7 := { stood := { row := sortCompareMatchesUptoRow, standIns := [], harness := (true, "f6b9153a0f7b436831e97b838cb4f6a5f17869a2f2752b2be97b728bf8349631"), looks := false }, kinds := [], alts := [], laidByText := true, laidKinds := [.data, .pinned], laidTests := true, laidLooks := .later }
def SortCompareMatchesUptoCardSaid : Prop := Claim7.holds Tryd.pinned (.plain (OpenSpec.upto sortCompareMatchesSpec)) sortCompareMatchesUptoCard

/-- THE SECOND FORM's CARD OF 'periwinklelaw1.SortMatches'. -/
def sortMatchesUptoCard : Claim7 := { stood := { row := sortMatchesUptoRow, standIns := [], harness := (true, "f6b9153a0f7b436831e97b838cb4f6a5f17869a2f2752b2be97b728bf8349631"), looks := false }, kinds := [], alts := [], laidByText := true, laidKinds := [.data, .pinned], laidTests := true, laidLooks := .later }
def SortMatchesUptoCardSaid : Prop := Claim7.holds Tryd.pinned (.plain (OpenSpec.upto sortMatchesSpec)) sortMatchesUptoCard

/-- THE SECOND FORM's CARD OF 'periwinklelaw1.TextLinesMatch'. -/
def textLinesMatchUptoCard : Claim7 := { stood := { row := textLinesMatchUptoRow, standIns := [], harness := (true, "f6b9153a0f7b436831e97b838cb4f6a5f17869a2f2752b2be97b728bf8349631"), looks := false }, kinds := [], alts := [], laidByText := true, laidKinds := [.data, .pinned], laidTests := true, laidLooks := .later }
def TextLinesMatchUptoCardSaid : Prop := Claim7.holds Tryd.pinned (.plain (OpenSpec.upto textLinesMatchSpec)) textLinesMatchUptoCard

/-- THE SECOND FORM's CARD OF 'periwinklelaw1.CommMatches'. -/
def commMatchesUptoCard : Claim7 := { stood := { row := commMatchesUptoRow, standIns := [], harness := (true, "f6b9153a0f7b436831e97b838cb4f6a5f17869a2f2752b2be97b728bf8349631"), looks := false }, kinds := [], alts := [], laidByText := true, laidKinds := [.data, .pinned], laidTests := true, laidLooks := .later }
def CommMatchesUptoCardSaid : Prop := Claim7.holds Tryd.pinned (.plain (OpenSpec.upto commMatchesSpec)) commMatchesUptoCard

/-- THE SECOND FORM's CARD OF 'periwinklelaw1.DateDaysMatch'. -/
def dateDaysMatchUptoCard : Claim7 := { stood := { row := dateDaysMatchUptoRow, standIns := [], harness := (true, "f6b9153a0f7b436831e97b838cb4f6a5f17869a2f2752b2be97b728bf8349631"), looks := false }, kinds := [], alts := [], laidByText := true, laidKinds := [.data, .pinned], laidTests := true, laidLooks := .later }
def DateDaysMatchUptoCardSaid : Prop := Claim7.holds Tryd.pinned (.plain (OpenSpec.upto dateDaysMatchSpec)) dateDaysMatchUptoCard

/-- THE SECOND FORM's CARD OF 'periwinklelaw1.FoldMatches'. -/
def foldMatchesUptoCard : Claim7 := { stood := { row := foldMatchesUptoRow, standIns := [], harness := (true, "f6b9153a0f7b436831e97b838cb4f6a5f17869a2f2752b2be97b728bf8349631"), looks := false }, kinds := [], alts := [], laidByText := true, laidKinds := [.data, .pinned], laidTests := true, laidLooks := .later }
def FoldMatchesUptoCardSaid : Prop := Claim7.holds Tryd.pinned (.plain (OpenSpec.upto foldMatchesSpec)) foldMatchesUptoCard

/-- THE SECOND FORM's CARD OF 'periwinklelaw1.SortRunsMatch'. -/
def sortRunsMatchUptoCard : Claim7 := { stood := { row := sortRunsMatchUptoRow, standIns := [], harness := (true, "f6b9153a0f7b436831e97b838cb4f6a5f17869a2f2752b2be97b728bf8349631"), looks := false }, kinds := [], alts := [], laidByText := true, laidKinds := [.data, .pinned], laidTests := true, laidLooks := .later }
def SortRunsMatchUptoCardSaid : Prop := Claim7.holds Tryd.pinned (.plain (OpenSpec.upto sortRunsMatchSpec)) sortRunsMatchUptoCard

/-- THE SECOND FORM's CARD OF 'periwinklelaw1.PartMatches'. -/
def partMatchesUptoCard : Claim7 := { stood := { row := partMatchesUptoRow, standIns := [], harness := (true, "f6b9153a0f7b436831e97b838cb4f6a5f17869a2f2752b2be97b728bf8349631"), looks := false }, kinds := [], alts := [], laidByText := true, laidKinds := [.data, .pinned], laidTests := true, laidLooks := .later }
def PartMatchesUptoCardSaid : Prop := Claim7.holds Tryd.pinned (.plain (OpenSpec.upto partMatchesSpec)) partMatchesUptoCard

/-- THE SECOND FORM's CARD OF 'periwinklelaw1.PasteMatches'. -/
def pasteMatchesUptoCard : Claim7 := { stood := { row := pasteMatchesUptoRow, standIns := [], harness := (true, "f6b9153a0f7b436831e97b838cb4f6a5f17869a2f2752b2be97b728bf8349631"), looks := false }, kinds := [], alts := [], laidByText := true, laidKinds := [.data, .pinned], laidTests := true, laidLooks := .later }
def PasteMatchesUptoCardSaid : Prop := Claim7.holds Tryd.pinned (.plain (OpenSpec.upto pasteMatchesSpec)) pasteMatchesUptoCard

/-- THE SECOND FORM's CARD OF 'periwinklelaw1.TrMatches'. -/
def trMatchesUptoCard : Claim7 := { stood := { row := trMatchesUptoRow, standIns := [], harness := (true, "f6b9153a0f7b436831e97b838cb4f6a5f17869a2f2752b2be97b728bf8349631"), looks := false }, kinds := [], alts := [], laidByText := true, laidKinds := [.data, .pinned], laidTests := true, laidLooks := .later }
def TrMatchesUptoCardSaid : Prop := Claim7.holds Tryd.pinned (.plain (OpenSpec.upto trMatchesSpec)) trMatchesUptoCard
end Rows
end Go.Proofs.YtkikbejpgfhfoaaDoor
