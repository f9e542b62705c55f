/-
  DERIVED. GIVEN WITH THE SEED: THE CARDS: each row of YtbelbgfigmbobaaGreatDoorRows.lean that lists a variable, with what it lists TIED to the program's text (the seventh form; the later family's looks); each row that meets fmt, with fmt's text TOLD by the authors' own Lean function (tested against real Go, not proved from fmt's source: count such statements apart). THE CARD IS WHAT COUNTS. Prove the row's statement (the work); the ties are given (YtbelbgfigmbobaaGreatDoorTie.lean); close each card by the builder's one call (the guide's Derived/Test/ToyasCard.lean, 'card_holds'). Laid BY PROGRAM, IN A SANDBOX (cutbox-door.mjs). By AI agents, Wed Nov 11 2026. No macro, syntax, notation, axiom, sorry.
-/
import Derived.Test.YtbelbgfigmbobaaGreatDoorRows
import GoSem.ClaimSeven
namespace Go.Proofs.YtbelbgfigmbobaaGreatDoor
namespace Rows

/-- THE TIED CARD OF 'periwinklelaw1.UniqMatches'. -/
def uniqMatchesCard : Claim7 := { stood := { row := uniqMatchesRow, standIns := [], harness := (true, "9951d273085dcceb774b6639710f5c75d5b11571abcb0a7c4efa62b841d1e22e"), looks := true }, kinds := [], alts := [], laidByText := true, laidKinds := [.data, .data, .data, .data, .pinned], laidTests := true, laidLooks := .later }
def UniqMatchesCardSaid : Prop := Claim7.holds Tryz.pinned (.plain (OpenSpec.ofChange uniqMatchesSpec)) uniqMatchesCard

/-- THE TIED CARD OF 'periwinklelaw1.UnifiedMatches'. -/
def unifiedMatchesCard : Claim7 := { stood := { row := unifiedMatchesRow, standIns := [], harness := (true, "9951d273085dcceb774b6639710f5c75d5b11571abcb0a7c4efa62b841d1e22e"), looks := true }, kinds := [], alts := [], laidByText := true, laidKinds := [.data, .data, .data, .data, .sentinel, .sentinel, .pinned], laidTests := true, laidLooks := .later }
def UnifiedMatchesCardSaid : Prop := Claim7.holds Tryz.pinned (.plain (OpenSpec.ofChange unifiedMatchesSpec)) unifiedMatchesCard

/-- THE TIED CARD OF 'periwinklelaw1.SeqMatches'. -/
def seqMatchesCard : Claim7 := { stood := { row := seqMatchesRow, standIns := [], harness := (true, "9951d273085dcceb774b6639710f5c75d5b11571abcb0a7c4efa62b841d1e22e"), looks := true }, kinds := [], alts := [], laidByText := true, laidKinds := [.data, .pinned], laidTests := true, laidLooks := .later }
def SeqMatchesCardSaid : Prop := Claim7.holds Tryz.pinned (.plain (OpenSpec.ofChange seqMatchesSpec)) seqMatchesCard

/-- THE TIED CARD OF 'periwinklelaw1.JoinMatches'. -/
def joinMatchesCard : Claim7 := { stood := { row := joinMatchesRow, standIns := [], harness := (true, "9951d273085dcceb774b6639710f5c75d5b11571abcb0a7c4efa62b841d1e22e"), looks := true }, kinds := [], alts := [], laidByText := true, laidKinds := [.data, .pinned], laidTests := true, laidLooks := .later }
def JoinMatchesCardSaid : Prop := Claim7.holds Tryz.pinned (.plain (OpenSpec.ofChange joinMatchesSpec)) joinMatchesCard

/-- THE TIED CARD OF 'periwinklelaw1.NumberMatches'. -/
def numberMatchesCard : Claim7 := { stood := { row := numberMatchesRow, standIns := [], harness := (true, "9951d273085dcceb774b6639710f5c75d5b11571abcb0a7c4efa62b841d1e22e"), looks := true }, kinds := [], alts := [], laidByText := true, laidKinds := [.data, .data, .data, .data, .pinned], laidTests := true, laidLooks := .later }
def NumberMatchesCardSaid : Prop := Claim7.holds Tryz.pinned (.plain (OpenSpec.ofChange numberMatchesSpec)) numberMatchesCard

/-- THE SECOND FORM's CARD OF 'periwinklelaw1.UniqMatches'. -/
def uniqMatchesUptoCard : Claim7 := { stood := { row := uniqMatchesUptoRow, standIns := [], harness := (true, "9951d273085dcceb774b6639710f5c75d5b11571abcb0a7c4efa62b841d1e22e"), looks := true }, kinds := [], alts := [], laidByText := true, laidKinds := [.data, .data, .data, .data, .pinned], laidTests := true, laidLooks := .later }
def UniqMatchesUptoCardSaid : Prop := Claim7.holds Tryz.pinned (.plain (OpenSpec.upto uniqMatchesSpec)) uniqMatchesUptoCard

/-- THE SECOND FORM's CARD OF 'periwinklelaw1.UnifiedMatches'. -/
def unifiedMatchesUptoCard : Claim7 := { stood := { row := unifiedMatchesUptoRow, standIns := [], harness := (true, "9951d273085dcceb774b6639710f5c75d5b11571abcb0a7c4efa62b841d1e22e"), looks := true }, kinds := [], alts := [], laidByText := true, laidKinds := [.data, .data, .data, .data, .sentinel, .sentinel, .pinned], laidTests := true, laidLooks := .later }
def UnifiedMatchesUptoCardSaid : Prop := Claim7.holds Tryz.pinned (.plain (OpenSpec.upto unifiedMatchesSpec)) unifiedMatchesUptoCard

/-- THE SECOND FORM's CARD OF 'periwinklelaw1.SeqMatches'. -/
def seqMatchesUptoCard : Claim7 := { stood := { row := seqMatchesUptoRow, standIns := [], harness := (true, "9951d273085dcceb774b6639710f5c75d5b11571abcb0a7c4efa62b841d1e22e"), looks := true }, kinds := [], alts := [], laidByText := true, laidKinds := [.data, .pinned], laidTests := true, laidLooks := .later }
def SeqMatchesUptoCardSaid : Prop := Claim7.holds Tryz.pinned (.plain (OpenSpec.upto seqMatchesSpec)) seqMatchesUptoCard

/-- THE SECOND FORM's CARD OF 'periwinklelaw1.JoinMatches'. -/
def joinMatchesUptoCard : Claim7 := { stood := { row := joinMatchesUptoRow, standIns := [], harness := (true, "9951d273085dcceb774b6639710f5c75d5b11571abcb0a7c4efa62b841d1e22e"), looks := true }, kinds := [], alts := [], laidByText := true, laidKinds := [.data, .pinned], laidTests := true, laidLooks := .later }
def JoinMatchesUptoCardSaid : Prop := Claim7.holds Tryz.pinned (.plain (OpenSpec.upto joinMatchesSpec)) joinMatchesUptoCard

/-- THE SECOND FORM's CARD OF 'periwinklelaw1.NumberMatches'. -/
def numberMatchesUptoCard : Claim7 := { stood := { row := numberMatchesUptoRow, standIns := [], harness := (true, "9951d273085dcceb774b6639710f5c75d5b11571abcb0a7c4efa62b841d1e22e"), looks := true }, kinds := [], alts := [], laidByText := true, laidKinds := [.data, .data, .data, .data, .pinned], laidTests := true, laidLooks := .later }
def NumberMatchesUptoCardSaid : Prop := Claim7.holds Tryz.pinned (.plain (OpenSpec.upto numberMatchesSpec)) numberMatchesUptoCard
end Rows
end Go.Proofs.YtbelbgfigmbobaaGreatDoor
