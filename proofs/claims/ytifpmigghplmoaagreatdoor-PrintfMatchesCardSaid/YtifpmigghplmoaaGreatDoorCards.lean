/-
  DERIVED. GIVEN WITH THE SEED: THE CARDS: each row of YtifpmigghplmoaaGreatDoorRows.lean that lists a variable, with what it lists TIED to the program's text (the seventh form; the later family's looks); each row that meets fmt, with fmt's text TOLD by the authors' own Lean function (tested against real Go, not proved from fmt's source: count such statements apart). THE CARD IS WHAT COUNTS. Prove the row's statement (the work); the ties are given (YtifpmigghplmoaaGreatDoorTie.lean); close each card by the builder's one call (the guide's Derived/Test/ToyasCard.lean, 'card_holds'). Laid BY PROGRAM, IN A SANDBOX (cutbox-door.mjs). By AI agents, Wed Nov 11 2026. No macro, syntax, notation, axiom, sorry.
-/
import Derived.Test.YtifpmigghplmoaaGreatDoorRows
import GoSem.ClaimSeven
namespace Go.Proofs.YtifpmigghplmoaaGreatDoor
namespace Rows

/-- THE TIED CARD OF 'periwinklelaw1.DateReadMatches'. -/
def dateReadMatchesCard : Claim7 := { stood := { row := dateReadMatchesRow, standIns := [], harness := (true, "424987a1130f5e6b78c0d444fdd1855a2c92715007b2022729537f1b5258c7f9"), looks := true }, kinds := [], alts := [], laidByText := true, laidKinds := [.data, .data, .data, .data, .sentinel, .sentinel, .listed, .data, .pinned], laidTests := true, laidLooks := .later }
def DateReadMatchesCardSaid : Prop := Claim7.holds Tryz.pinned (.plain (OpenSpec.ofChange dateReadMatchesSpec)) dateReadMatchesCard

/-- THE TIED CARD OF 'periwinklelaw1.DateReadsBack'. -/
def dateReadsBackCard : Claim7 := { stood := { row := dateReadsBackRow, standIns := [], harness := (true, "424987a1130f5e6b78c0d444fdd1855a2c92715007b2022729537f1b5258c7f9"), looks := true }, kinds := [], alts := [], laidByText := true, laidKinds := [.data, .data, .data, .data, .sentinel, .sentinel, .listed, .data, .pinned], laidTests := true, laidLooks := .later }
def DateReadsBackCardSaid : Prop := Claim7.holds Tryz.pinned (.plain (OpenSpec.ofChange dateReadsBackSpec)) dateReadsBackCard

/-- THE TIED CARD OF 'periwinklelaw1.PrintfMatches'. -/
def printfMatchesCard : Claim7 := { stood := { row := printfMatchesRow, standIns := [], harness := (true, "424987a1130f5e6b78c0d444fdd1855a2c92715007b2022729537f1b5258c7f9"), looks := true }, kinds := [], alts := [], laidByText := true, laidKinds := [.data, .data, .data, .data, .sentinel, .sentinel, .pinned, .pinned], laidTests := true, laidLooks := .later }
def PrintfMatchesCardSaid : Prop := Claim7.holds Tryz.pinned (.plain (OpenSpec.ofChange printfMatchesSpec)) printfMatchesCard

/-- THE SECOND FORM's CARD OF 'periwinklelaw1.DateReadMatches'. -/
def dateReadMatchesUptoCard : Claim7 := { stood := { row := dateReadMatchesUptoRow, standIns := [], harness := (true, "424987a1130f5e6b78c0d444fdd1855a2c92715007b2022729537f1b5258c7f9"), looks := true }, kinds := [], alts := [], laidByText := true, laidKinds := [.data, .data, .data, .data, .sentinel, .sentinel, .listed, .data, .pinned], laidTests := true, laidLooks := .later }
def DateReadMatchesUptoCardSaid : Prop := Claim7.holds Tryz.pinned (.plain (OpenSpec.upto dateReadMatchesSpec)) dateReadMatchesUptoCard

/-- THE SECOND FORM's CARD OF 'periwinklelaw1.DateReadsBack'. -/
def dateReadsBackUptoCard : Claim7 := { stood := { row := dateReadsBackUptoRow, standIns := [], harness := (true, "424987a1130f5e6b78c0d444fdd1855a2c92715007b2022729537f1b5258c7f9"), looks := true }, kinds := [], alts := [], laidByText := true, laidKinds := [.data, .data, .data, .data, .sentinel, .sentinel, .listed, .data, .pinned], laidTests := true, laidLooks := .later }
def DateReadsBackUptoCardSaid : Prop := Claim7.holds Tryz.pinned (.plain (OpenSpec.upto dateReadsBackSpec)) dateReadsBackUptoCard

/-- THE SECOND FORM's CARD OF 'periwinklelaw1.PrintfMatches'. -/
def printfMatchesUptoCard : Claim7 := { stood := { row := printfMatchesUptoRow, standIns := [], harness := (true, "424987a1130f5e6b78c0d444fdd1855a2c92715007b2022729537f1b5258c7f9"), looks := true }, kinds := [], alts := [], laidByText := true, laidKinds := [.data, .data, .data, .data, .sentinel, .sentinel, .pinned, .pinned], laidTests := true, laidLooks := .later }
def PrintfMatchesUptoCardSaid : Prop := Claim7.holds Tryz.pinned (.plain (OpenSpec.upto printfMatchesSpec)) printfMatchesUptoCard
end Rows
end Go.Proofs.YtifpmigghplmoaaGreatDoor
