/- slices.overlaps at two slices in two blocks, the second of which is plain memory. -/
import Derived.Test.YtfjbdbdjhkmifaaPtA
import Derived.Lib.Overlaps
set_option linter.unusedVariables false
set_option linter.unusedSimpArgs false
namespace Go.Lib
theorem run_overlaps_apart' {P : Program} (w : World) (tS tR e : TypeId) (ht : P.underlying tS = some (.slice e)) (size : Nat) (hz : ∀ w, (Go.sizeOf e).run P w = .ok size w)
    (a b : Addr) (la ca lb cb : Nat) (hne : a.block ≠ b.block) (tA tB : TypeId) (kA kB : Nat)
    (hsa : w.shape? a.block = some (tA, kA)) (hsb : w.shape? b.block = some (tB, kB)) (hkA : kA ≠ 0)
    (hfb : w.frozen? b = false) (hfe : w.frozen? { block := b.block, off := kB } = false) :
    (Extern.SlicesOverlaps.overlaps #[tS, tS] #[tR] #[.slice (some a) la ca, .slice (some b) lb cb]).run P w = .ok (.bool false) w := by
  have hnb : (a.block != b.block) = true := by simpa using hne
  have hnb' : (a.block == b.block) = false := by simpa using hne
  change Sem.run P (α := Value) (do
    let some t := (#[tS, tS] : Array TypeId)[0]? | stuck "slices.overlaps: no parameter types"
    let .slice elem ← underlying t | stuck "slices.overlaps: slice type expected"
    let size ← sizeOf elem
    match (some a : Option Addr), (some b : Option Addr) with
    | some a, some b =>
      if la = 0 ∨ lb = 0 ∨ size = 0 then pure (Value.bool false)
      else if a.block != b.block && (← frozen a) && (← frozen b) then unsupported .addressObserved
      else do
        if a.block != b.block then do
          noView a; noView b
          if ← mayBeOne a b then return Value.bool ((← choose (.extern "sameAddr.stringBytes" 2)) == 1)
        pure (Value.bool (a.block == b.block && a.off < b.off + lb * size && b.off < a.off + la * size))
    | _, _ => pure (Value.bool false)) w = _
  by_cases h0 : la = 0 ∨ lb = 0 ∨ size = 0
  · simp [run_underlying ht, hz, h0]
  · cases kA with
    | zero => exact absurd rfl hkA
    | succ kA =>
      cases hf1 : w.frozen? a <;> cases hf2 : w.frozen? { block := a.block, off := kA + 1 } <;>
      simp [run_underlying ht, hz, h0, hnb, hnb', frozen, noView, viewAt, mayBeOne, stringish, shape, Sem.run, hsa, hsb, hfb, hfe, hf1, hf2]
end Go.Lib
namespace Go.Proofs.Ytfjbdbdjhkmifaa
open Go.RowKit Go.Pw
/-- in a world where the cell at a is there, and b's block is an own row: overlaps is false -/
theorem overlaps_any (w : World) (ba oa la ca bb ob lb cb : Nat) (u : Value) (cur : Array Value) (e : TypeId) (hne : ba ≠ bb) (ha : w.cell? ⟨ba, oa, none⟩ = some u) (hb : w.heap[bb]? = some (.cells cur e (0, 0))) :
    (callFunc 90 #[.slice (some ⟨ba, oa, none⟩) la ca, .slice (some ⟨bb, ob, none⟩) lb cb]).run Try.prog w = .ok (.value (.bool false)) w := by
  obtain ⟨tA, kA, hsh, hlt, hsp⟩ := World.shape?_of_cell? ha
  have hsb : w.shape? bb = some (e, cur.size) := by simp [World.shape?, hb]
  rw [run_callFunc_extern Try.func90 (by kernel_rfl) (by kernel_rfl) (by kernel_rfl) (e := Extern.SlicesOverlaps.overlaps #[22, 22] #[4]) (by kernel_rfl),
    Lib.run_overlaps_apart' w 22 4 9 Try.underlying22 1 Try.sizeOf9 ⟨ba, oa, none⟩ ⟨bb, ob, none⟩ la ca lb cb hne tA e kA cur.size hsh hsb (by have : oa < kA := hlt; omega) (by simp [World.frozen?, hb]) (by simp [World.frozen?, hb])]
  rfl
theorem overlaps_own (w : World) (ba oa la ca bb ob lb cb : Nat) (u : Value) (cur : Array Value) (e : TypeId) (hne : ba ≠ bb) (h0 : 0 < cur.size) (ha : w.cell? ⟨ba, oa, none⟩ = some u) (hb : w.heap[bb]? = some (.cells cur e (0, 0))) :
    (callFunc 90 #[.slice (some ⟨bb, ob, none⟩) lb cb, .slice (some ⟨ba, oa, none⟩) la ca]).run Try.prog w = .ok (.value (.bool false)) w := by
  obtain ⟨tA, kA, hsh, hlt, hsp⟩ := World.shape?_of_cell? ha
  have hsb : w.shape? bb = some (e, cur.size) := by simp [World.shape?, hb]
  rw [run_callFunc_extern Try.func90 (by kernel_rfl) (by kernel_rfl) (by kernel_rfl) (e := Extern.SlicesOverlaps.overlaps #[22, 22] #[4]) (by kernel_rfl),
    Lib.run_overlaps_apart w 22 4 9 Try.underlying22 1 Try.sizeOf9 ⟨bb, ob, none⟩ ⟨ba, oa, none⟩ lb cb la ca (fun h => hne h.symm) e tA cur.size kA hsb hsh (by have : oa < kA := hlt; omega) (by simp [World.frozen?, hb]) (by simp [World.frozen?, hb])]
  rfl
end Go.Proofs.Ytfjbdbdjhkmifaa
