/-
  DERIVED. GIVEN WITH THE SEED: THE CARDS: each row of YtinpgnekjebipaaDoorRows.lean that lists a variable, with what it lists TIED to the program's text (the seventh form; the later family's looks); each row that meets fmt, with fmt's text TOLD by the authors' own Lean function (tested against real Go, not proved from fmt's source: count such statements apart). THE CARD IS WHAT COUNTS. Prove the row's statement (the work); the ties are given (YtinpgnekjebipaaDoorTie.lean); close each card by the builder's one call (the guide's Derived/Test/ToyasCard.lean, 'card_holds'). Laid BY PROGRAM, IN A SANDBOX (cutbox-door.mjs). By AI agents, Wed Nov 11 2026. No macro, syntax, notation, axiom, sorry.
-/
import Derived.Test.YtinpgnekjebipaaDoorRows
import GoSem.ClaimSeven
namespace Go.Proofs.YtinpgnekjebipaaDoor
namespace Rows

/-- THE TIED CARD OF 'periwinklelaw1.SumsMatch'. -/
def sumsMatchCard : Claim7 := { stood := { row := sumsMatchRow, standIns := [], harness := (true, "afa9fcb0d8c6019d98dac0d7de719b387683270173a0b8df6912c071c24f11fb"), looks := true }, kinds := [], alts := [], laidByText := true, laidKinds := [.data, .data, .data], laidTests := true, laidLooks := .later }
def SumsMatchCardSaid : Prop := Claim7.holds Tryd.pinned (.plain (OpenSpec.ofChange sumsMatchSpec)) sumsMatchCard

/-- THE TIED CARD OF 'periwinklelaw1.UnifiedReads'. -/
def unifiedReadsCard : Claim7 := { stood := { row := unifiedReadsRow, standIns := [], harness := (true, "afa9fcb0d8c6019d98dac0d7de719b387683270173a0b8df6912c071c24f11fb"), looks := true }, kinds := [], alts := [], laidByText := true, laidKinds := [.data, .data, .data, .data, .sentinel, .sentinel, .pinned], laidTests := true, laidLooks := .later }
def UnifiedReadsCardSaid : Prop := Claim7.holds Tryd.pinned (.plain (OpenSpec.ofChange unifiedReadsSpec)) unifiedReadsCard

/-- THE SECOND FORM's CARD OF 'periwinklelaw1.SumsMatch'. -/
def sumsMatchUptoCard : Claim7 := { stood := { row := sumsMatchUptoRow, standIns := [], harness := (true, "afa9fcb0d8c6019d98dac0d7de719b387683270173a0b8df6912c071c24f11fb"), looks := true }, kinds := [], alts := [], laidByText := true, laidKinds := [.data, .data, .data], laidTests := true, laidLooks := .later }
def SumsMatchUptoCardSaid : Prop := Claim7.holds Tryd.pinned (.plain (OpenSpec.upto sumsMatchSpec)) sumsMatchUptoCard

/-- THE SECOND FORM's CARD OF 'periwinklelaw1.UnifiedReads'. -/
def unifiedReadsUptoCard : Claim7 := { stood := { row := unifiedReadsUptoRow, standIns := [], harness := (true, "afa9fcb0d8c6019d98dac0d7de719b387683270173a0b8df6912c071c24f11fb"), looks := true }, kinds := [], alts := [], laidByText := true, laidKinds := [.data, .data, .data, .data, .sentinel, .sentinel, .pinned], laidTests := true, laidLooks := .later }
def UnifiedReadsUptoCardSaid : Prop := Claim7.holds Tryd.pinned (.plain (OpenSpec.upto unifiedReadsSpec)) unifiedReadsUptoCard
end Rows
end Go.Proofs.YtinpgnekjebipaaDoor
