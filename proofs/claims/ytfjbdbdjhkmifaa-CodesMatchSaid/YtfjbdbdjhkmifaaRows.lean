/-
  No cell of these rows narrows 'for every input' (looked for: loops, veiled, ifaces, maps, wideKeys, modest, calm, conditions, laid).
  DERIVED. THE GIVEN ROWS OF THIS SEAT. 3 by the template 'for every input the law returns true; each argument reads behind the call as it read before'; 0 by the template 'total and deterministic' (their statements: YtfjbdbdjhkmifaaTotals.lean).
  GIVEN WITH THE SEED: the statements are not yours to turn. If you find one false, say at which input.
  Laid BY PROGRAM, IN A SANDBOX (cutbox-rows.mjs): the forced cells as the released guide's own fill.sh prints them over the translation 0832b8c052c6ee3c… (all of the seat's roots in one cut). By AI agents, Wed Nov 11 2026. No macro, syntax, notation, axiom, sorry.
-/
import Derived.Test.YtfjbdbdjhkmifaaChecked
import GoSem.Claim
import GoSem.ClaimJoined
import GoSem.ClaimMapViews
import Derived.JoinedTies
import Derived.KernelRfl
namespace Go.Proofs.Ytfjbdbdjhkmifaa
/- THE CELL 'sum', in the pinned program and in every row, IS THE sha256 OF THE DUMP (.gsa) THAT YtfjbdbdjhkmifaaProg.lean LOADS. Nothing in Lean hashes anything: it is a label: what it is worth is what the hold of that sum in a sandbox is worth. -/
noncomputable def Try.pinned : Pinned := { name := "ytfjbdbdjhkmifaa", sum := "0832b8c052c6ee3c2433861f978bdd09ba071309cfe7e0e25db7b5cc3552450d", checked := Try.checked }
namespace Rows
def none {H : Type} : Left H := { results := [], args := [] }

/-- 'periwinklelaw1.MergeMatches': WHATEVER THE INPUT: true; the input reads as it did. -/
def mergeMatchesSpec : ChangeSpec := { name := "mergeMatches", fn := fun _ => fun
  | [d1, d2, d3] => { results := [.lit (.bool true)], args := [d1, d2, d3] }
  | _ => none }
def mergeMatchesRow : OpenClaim := { program := "ytfjbdbdjhkmifaa", sum := "0832b8c052c6ee3c2433861f978bdd09ba071309cfe7e0e25db7b5cc3552450d", func := "periwinkle/periwinklelaw1.MergeMatches", spec := "mergeMatches", inPlace := ["internal/bytealg.IndexByteString", "internal/bytealg.IndexString"], unfollowed := true, recurses := true, named := ["internal/bytealg.MaxLen"], apart := false }
def MergeMatchesSaid : Prop := mergeMatchesRow.holds Try.pinned (OpenSpec.ofChange mergeMatchesSpec)

/-- ITS FALSE NEIGHBOUR: 'it returns false'. Refute it at one input. -/
def mergeMatchesWrong : ChangeSpec := { name := "mergeMatches", fn := fun _ => fun
  | [d1, d2, d3] => { results := [.lit (.bool false)], args := [d1, d2, d3] }
  | _ => none }
def MergeMatchesWrongFalsely : Prop := mergeMatchesRow.holds Try.pinned (OpenSpec.ofChange mergeMatchesWrong)

/-- 'periwinklelaw1.PatchMatches': WHATEVER THE INPUT: true; the input reads as it did. -/
def patchMatchesSpec : ChangeSpec := { name := "patchMatches", fn := fun _ => fun
  | [d1, d2, d3] => { results := [.lit (.bool true)], args := [d1, d2, d3] }
  | _ => none }
def patchMatchesRow : OpenClaim := { program := "ytfjbdbdjhkmifaa", sum := "0832b8c052c6ee3c2433861f978bdd09ba071309cfe7e0e25db7b5cc3552450d", func := "periwinkle/periwinklelaw1.PatchMatches", spec := "patchMatches", inPlace := ["internal/bytealg.IndexByteString", "internal/bytealg.IndexString", "slices.overlaps[string]"], unfollowed := true, recurses := true, named := ["internal/bytealg.MaxLen"], apart := false }
def PatchMatchesSaid : Prop := patchMatchesRow.holds Try.pinned (OpenSpec.ofChange patchMatchesSpec)

/-- ITS FALSE NEIGHBOUR: 'it returns false'. Refute it at one input. -/
def patchMatchesWrong : ChangeSpec := { name := "patchMatches", fn := fun _ => fun
  | [d1, d2, d3] => { results := [.lit (.bool false)], args := [d1, d2, d3] }
  | _ => none }
def PatchMatchesWrongFalsely : Prop := patchMatchesRow.holds Try.pinned (OpenSpec.ofChange patchMatchesWrong)

/-- 'periwinklelaw1.CodesMatch': WHATEVER THE INPUT: true; the input reads as it did. -/
def codesMatchSpec : ChangeSpec := { name := "codesMatch", fn := fun _ => fun
  | [d] => { results := [.lit (.bool true)], args := [d] }
  | _ => none }
def codesMatchRow : OpenClaim := { program := "ytfjbdbdjhkmifaa", sum := "0832b8c052c6ee3c2433861f978bdd09ba071309cfe7e0e25db7b5cc3552450d", func := "periwinkle/periwinklelaw1.CodesMatch", spec := "codesMatch", inPlace := ["internal/bytealg.IndexByteString", "internal/bytealg.IndexString"], unfollowed := true, recurses := true, named := ["internal/bytealg.MaxLen"], apart := false }
def CodesMatchSaid : Prop := codesMatchRow.holds Try.pinned (OpenSpec.ofChange codesMatchSpec)

/-- ITS FALSE NEIGHBOUR: 'it returns false'. Refute it at one input. -/
def codesMatchWrong : ChangeSpec := { name := "codesMatch", fn := fun _ => fun
  | [d] => { results := [.lit (.bool false)], args := [d] }
  | _ => none }
def CodesMatchWrongFalsely : Prop := codesMatchRow.holds Try.pinned (OpenSpec.ofChange codesMatchWrong)

/- THE SECOND FORM. 'bulk': how many values and letters a reading holds, each counted each time it is reached (what is shared counts as often as it is met; a slice's spare places count too). A statement '..UptoSaid' is the law's where the arguments, and the package variables that the reading takes, are together of bulk at most 1048576: NARROWER than '..Said'. Prove '..Said' where nothing that the law and all that it calls make is longer than what came in: it says more and counts as full. Else prove '..UptoSaid'. A law counts once. -/
mutual
def uptoBulk {H : Type} : DataW H → Nat
  | .lit (.string bytes) => bytes.length + 1
  | .lit _ => 1
  | .nil => 1
  | .ptr d => uptoBulk d + 1
  | .slice elems spare => uptoBulkAll elems + uptoBulkAll spare + 1
  | .agg parts => uptoBulkAll parts + 1
  | .iface _ d => uptoBulk d + 1
  | .map entries => uptoBulkEntries entries + 1
  | .held _ => 1
def uptoBulkAll {H : Type} : List (DataW H) → Nat
  | [] => 0
  | d :: r => uptoBulk d + uptoBulkAll r
def uptoBulkEntries {H : Type} : List (Lit × DataW H) → Nat
  | [] => 0
  | x :: r => uptoBulkEntry x + uptoBulkEntries r
def uptoBulkEntry {H : Type} : Lit × DataW H → Nat
  | (.string bytes, d) => bytes.length + uptoBulk d + 1
  | (_, d) => uptoBulk d + 1
 end
def uptoSmall : (H : Type) → List (DataW H) → Bool := fun _ ds => decide (uptoBulkAll ds ≤ 1048576)
def OpenSpec.upto (s : _root_.Go.ChangeSpec) : _root_.Go.OpenSpec := { _root_.Go.OpenSpec.ofChange s with cond := some uptoSmall }

/-- 'periwinklelaw1.MergeMatches', WHERE WHAT IT READS IS OF BULK AT MOST 1048576: true; the input reads as it did. -/
def mergeMatchesUptoRow : OpenClaim := { program := "ytfjbdbdjhkmifaa", sum := "0832b8c052c6ee3c2433861f978bdd09ba071309cfe7e0e25db7b5cc3552450d", func := "periwinkle/periwinklelaw1.MergeMatches", spec := "mergeMatches", inPlace := ["internal/bytealg.IndexByteString", "internal/bytealg.IndexString"], unfollowed := true, recurses := true, named := ["internal/bytealg.MaxLen"], apart := false, narrowed := true }
def MergeMatchesUptoSaid : Prop := mergeMatchesUptoRow.holds Try.pinned (OpenSpec.upto mergeMatchesSpec)

/-- 'periwinklelaw1.PatchMatches', WHERE WHAT IT READS IS OF BULK AT MOST 1048576: true; the input reads as it did. -/
def patchMatchesUptoRow : OpenClaim := { program := "ytfjbdbdjhkmifaa", sum := "0832b8c052c6ee3c2433861f978bdd09ba071309cfe7e0e25db7b5cc3552450d", func := "periwinkle/periwinklelaw1.PatchMatches", spec := "patchMatches", inPlace := ["internal/bytealg.IndexByteString", "internal/bytealg.IndexString", "slices.overlaps[string]"], unfollowed := true, recurses := true, named := ["internal/bytealg.MaxLen"], apart := false, narrowed := true }
def PatchMatchesUptoSaid : Prop := patchMatchesUptoRow.holds Try.pinned (OpenSpec.upto patchMatchesSpec)

/-- 'periwinklelaw1.CodesMatch', WHERE WHAT IT READS IS OF BULK AT MOST 1048576: true; the input reads as it did. -/
def codesMatchUptoRow : OpenClaim := { program := "ytfjbdbdjhkmifaa", sum := "0832b8c052c6ee3c2433861f978bdd09ba071309cfe7e0e25db7b5cc3552450d", func := "periwinkle/periwinklelaw1.CodesMatch", spec := "codesMatch", inPlace := ["internal/bytealg.IndexByteString", "internal/bytealg.IndexString"], unfollowed := true, recurses := true, named := ["internal/bytealg.MaxLen"], apart := false, narrowed := true }
def CodesMatchUptoSaid : Prop := codesMatchUptoRow.holds Try.pinned (OpenSpec.upto codesMatchSpec)

end Rows
end Go.Proofs.Ytfjbdbdjhkmifaa
