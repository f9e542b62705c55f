/-
  DERIVED. GIVEN WITH THE SEED: THE CARDS: each row of YtkikbejpgfhfoaaGreatDoorRows.lean that lists a variable, with what it lists TIED to the program's text (the seventh form; the later family's looks); each row that meets fmt, with fmt's text TOLD by the authors' own Lean function (tested against real Go, not proved from fmt's source: count such statements apart). THE CARD IS WHAT COUNTS. Prove the row's statement (the work); the ties are given (YtkikbejpgfhfoaaGreatDoorTie.lean); close each card by the builder's one call (the guide's Derived/Test/ToyasCard.lean, 'card_holds'). Laid BY PROGRAM, IN A SANDBOX (cutbox-door.mjs). By AI agents, Wed Nov 11 2026. No macro, syntax, notation, axiom, sorry.
-/
import Derived.Test.YtkikbejpgfhfoaaGreatDoorRows
import GoSem.ClaimSeven
namespace Go.Proofs.YtkikbejpgfhfoaaGreatDoor
namespace Rows

/-- THE TIED CARD OF 'periwinklelaw1.SortMergeMatches'. -/
def sortMergeMatchesCard : Claim7 := { stood := { row := sortMergeMatchesRow, standIns := [], harness := (true, "cf73fefefe38043d5c63daca9b76130ece8365de7122da357680313f864cbc7b"), looks := false }, kinds := [], alts := [], laidByText := true, laidKinds := [.data, .pinned], laidTests := true, laidLooks := .later }
def SortMergeMatchesCardSaid : Prop := Claim7.holds Tryz.pinned (.plain (OpenSpec.ofChange sortMergeMatchesSpec)) sortMergeMatchesCard

/-- THE TIED CARD OF 'periwinklelaw1.CutMatches'. -/
def cutMatchesCard : Claim7 := { stood := { row := cutMatchesRow, standIns := [], harness := (true, "cf73fefefe38043d5c63daca9b76130ece8365de7122da357680313f864cbc7b"), looks := false }, kinds := [], alts := [], laidByText := true, laidKinds := [.data, .pinned], laidTests := true, laidLooks := .later }
def CutMatchesCardSaid : Prop := Claim7.holds Tryz.pinned (.plain (OpenSpec.ofChange cutMatchesSpec)) cutMatchesCard

/-- THE SECOND FORM's CARD OF 'periwinklelaw1.SortMergeMatches'. -/
def sortMergeMatchesUptoCard : Claim7 := { stood := { row := sortMergeMatchesUptoRow, standIns := [], harness := (true, "cf73fefefe38043d5c63daca9b76130ece8365de7122da357680313f864cbc7b"), looks := false }, kinds := [], alts := [], laidByText := true, laidKinds := [.data, .pinned], laidTests := true, laidLooks := .later }
def SortMergeMatchesUptoCardSaid : Prop := Claim7.holds Tryz.pinned (.plain (OpenSpec.upto sortMergeMatchesSpec)) sortMergeMatchesUptoCard

/-- THE SECOND FORM's CARD OF 'periwinklelaw1.CutMatches'. -/
def cutMatchesUptoCard : Claim7 := { stood := { row := cutMatchesUptoRow, standIns := [], harness := (true, "cf73fefefe38043d5c63daca9b76130ece8365de7122da357680313f864cbc7b"), looks := false }, kinds := [], alts := [], laidByText := true, laidKinds := [.data, .pinned], laidTests := true, laidLooks := .later }
def CutMatchesUptoCardSaid : Prop := Claim7.holds Tryz.pinned (.plain (OpenSpec.upto cutMatchesSpec)) cutMatchesUptoCard
end Rows
end Go.Proofs.YtkikbejpgfhfoaaGreatDoor
