/-
  DERIVED. GIVEN WITH THE SEED: THE CARDS: each row of YtoieicdnehnacaaGreatDoorRows.lean that lists a variable, with what it lists TIED to the program's text (the seventh form; the later family's looks); each row that meets fmt, with fmt's text TOLD by the authors' own Lean function (tested against real Go, not proved from fmt's source: count such statements apart). THE CARD IS WHAT COUNTS. Prove the row's statement (the work); the ties are given (YtoieicdnehnacaaGreatDoorTie.lean); close each card by the builder's one call (the guide's Derived/Test/ToyasCard.lean, 'card_holds'). Laid BY PROGRAM, IN A SANDBOX (cutbox-door.mjs). By AI agents, Wed Nov 11 2026. No macro, syntax, notation, axiom, sorry.
-/
import Derived.Test.YtoieicdnehnacaaGreatDoorRows
import GoSem.ClaimSeven
namespace Go.Proofs.YtoieicdnehnacaaGreatDoor
namespace Rows

/-- THE TIED CARD OF 'periwinklelaw1.SeqMatches'. -/
def seqMatchesCard : Claim7 := { stood := { row := seqMatchesRow, standIns := [], harness := (true, "986cb24a6cbabd6678a2a9cc45ea751acdf76ed1da472db69547f786acfb9f29"), looks := true }, kinds := [], alts := [], laidByText := true, laidKinds := [.data, .pinned], laidTests := true, laidLooks := .later }
def SeqMatchesCardSaid : Prop := Claim7.holds Tryz.pinned (.plain (OpenSpec.ofChange seqMatchesSpec)) seqMatchesCard

/-- THE TIED CARD OF 'periwinklelaw1.DateMatches'. -/
def dateMatchesCard : Claim7 := { stood := { row := dateMatchesRow, standIns := [], harness := (true, "986cb24a6cbabd6678a2a9cc45ea751acdf76ed1da472db69547f786acfb9f29"), looks := true }, kinds := [], alts := [], laidByText := true, laidKinds := [.data, .data, .data, .data, .listed, .data, .pinned], laidTests := true, laidLooks := .later }
def DateMatchesCardSaid : Prop := Claim7.holds Tryz.pinned (.plain (OpenSpec.ofChange dateMatchesSpec)) dateMatchesCard

/-- THE TIED CARD OF 'periwinklelaw1.UnifiedMatches'. -/
def unifiedMatchesCard : Claim7 := { stood := { row := unifiedMatchesRow, standIns := [], harness := (true, "986cb24a6cbabd6678a2a9cc45ea751acdf76ed1da472db69547f786acfb9f29"), looks := true }, kinds := [], alts := [], laidByText := true, laidKinds := [.data, .data, .data, .data, .sentinel, .sentinel, .pinned], laidTests := true, laidLooks := .later }
def UnifiedMatchesCardSaid : Prop := Claim7.holds Tryz.pinned (.plain (OpenSpec.ofChange unifiedMatchesSpec)) unifiedMatchesCard

/-- THE TIED CARD OF 'periwinklelaw1.ArchiveMatches'. -/
def archiveMatchesCard : Claim7 := { stood := { row := archiveMatchesRow, standIns := [], harness := (true, "986cb24a6cbabd6678a2a9cc45ea751acdf76ed1da472db69547f786acfb9f29"), looks := true }, kinds := [], alts := [], laidByText := true, laidKinds := [.data, .data, .data, .data, .sentinel, .sentinel, .pinned], laidTests := true, laidLooks := .later }
def ArchiveMatchesCardSaid : Prop := Claim7.holds Tryz.pinned (.plain (OpenSpec.ofChange archiveMatchesSpec)) archiveMatchesCard

/-- THE TIED CARD OF 'periwinklelaw1.ArchiveDamaged'. -/
def archiveDamagedCard : Claim7 := { stood := { row := archiveDamagedRow, standIns := [], harness := (true, "986cb24a6cbabd6678a2a9cc45ea751acdf76ed1da472db69547f786acfb9f29"), looks := true }, kinds := [], alts := [], laidByText := true, laidKinds := [.data, .data, .data, .data, .sentinel, .sentinel, .pinned], laidTests := true, laidLooks := .later }
def ArchiveDamagedCardSaid : Prop := Claim7.holds Tryz.pinned (.plain (OpenSpec.ofChange archiveDamagedSpec)) archiveDamagedCard

/-- THE SECOND FORM's CARD OF 'periwinklelaw1.SeqMatches'. -/
def seqMatchesUptoCard : Claim7 := { stood := { row := seqMatchesUptoRow, standIns := [], harness := (true, "986cb24a6cbabd6678a2a9cc45ea751acdf76ed1da472db69547f786acfb9f29"), looks := true }, kinds := [], alts := [], laidByText := true, laidKinds := [.data, .pinned], laidTests := true, laidLooks := .later }
def SeqMatchesUptoCardSaid : Prop := Claim7.holds Tryz.pinned (.plain (OpenSpec.upto seqMatchesSpec)) seqMatchesUptoCard

/-- THE SECOND FORM's CARD OF 'periwinklelaw1.DateMatches'. -/
def dateMatchesUptoCard : Claim7 := { stood := { row := dateMatchesUptoRow, standIns := [], harness := (true, "986cb24a6cbabd6678a2a9cc45ea751acdf76ed1da472db69547f786acfb9f29"), looks := true }, kinds := [], alts := [], laidByText := true, laidKinds := [.data, .data, .data, .data, .listed, .data, .pinned], laidTests := true, laidLooks := .later }
def DateMatchesUptoCardSaid : Prop := Claim7.holds Tryz.pinned (.plain (OpenSpec.upto dateMatchesSpec)) dateMatchesUptoCard

/-- THE SECOND FORM's CARD OF 'periwinklelaw1.UnifiedMatches'. -/
def unifiedMatchesUptoCard : Claim7 := { stood := { row := unifiedMatchesUptoRow, standIns := [], harness := (true, "986cb24a6cbabd6678a2a9cc45ea751acdf76ed1da472db69547f786acfb9f29"), looks := true }, kinds := [], alts := [], laidByText := true, laidKinds := [.data, .data, .data, .data, .sentinel, .sentinel, .pinned], laidTests := true, laidLooks := .later }
def UnifiedMatchesUptoCardSaid : Prop := Claim7.holds Tryz.pinned (.plain (OpenSpec.upto unifiedMatchesSpec)) unifiedMatchesUptoCard

/-- THE SECOND FORM's CARD OF 'periwinklelaw1.ArchiveMatches'. -/
def archiveMatchesUptoCard : Claim7 := { stood := { row := archiveMatchesUptoRow, standIns := [], harness := (true, "986cb24a6cbabd6678a2a9cc45ea751acdf76ed1da472db69547f786acfb9f29"), looks := true }, kinds := [], alts := [], laidByText := true, laidKinds := [.data, .data, .data, .data, .sentinel, .sentinel, .pinned], laidTests := true, laidLooks := .later }
def ArchiveMatchesUptoCardSaid : Prop := Claim7.holds Tryz.pinned (.plain (OpenSpec.upto archiveMatchesSpec)) archiveMatchesUptoCard

/-- THE SECOND FORM's CARD OF 'periwinklelaw1.ArchiveDamaged'. -/
def archiveDamagedUptoCard : Claim7 := { stood := { row := archiveDamagedUptoRow, standIns := [], harness := (true, "986cb24a6cbabd6678a2a9cc45ea751acdf76ed1da472db69547f786acfb9f29"), looks := true }, kinds := [], alts := [], laidByText := true, laidKinds := [.data, .data, .data, .data, .sentinel, .sentinel, .pinned], laidTests := true, laidLooks := .later }
def ArchiveDamagedUptoCardSaid : Prop := Claim7.holds Tryz.pinned (.plain (OpenSpec.upto archiveDamagedSpec)) archiveDamagedUptoCard
end Rows
end Go.Proofs.YtoieicdnehnacaaGreatDoor
