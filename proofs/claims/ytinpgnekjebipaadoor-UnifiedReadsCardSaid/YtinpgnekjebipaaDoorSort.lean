/- slices.SortStableFunc of a slice of strings that has fewer than 20 elements. -/
import Derived.Test.YtinpgnekjebipaaDoorProg
import Derived.Test.YtinpgnekjebipaaDoorMem
import Derived.Test.YtinpgnekjebipaaDoorInsP
import Derived.WalkKit
import Derived.WalkLawsBesides
import Derived.WalkSpells
import Derived.LoopTactic
import Derived.RegionTactic
import Derived.Deep.RegionHeld3
import Derived.Outline
import Derived.Deep.QuietTactic
import Derived.BigQuiet
set_option linter.unusedVariables false
set_option linter.unusedSimpArgs false
namespace Go.Pw
open Go.RowKit
/-- below N all blocks but one are as they were -/
structure But (N B : Nat) (w w' : World) : Prop where
  os : w'.os = w.os
  tape : w'.tape = w.tape
  output : w'.output = w.output
  size : w.heap.size ≤ w'.heap.size
  block : ∀ k, k < N → k ≠ B → w'.heap[k]? = w.heap[k]?
theorem But.refl (N B : Nat) (w : World) : But N B w w := ⟨rfl, rfl, rfl, Nat.le_refl _, fun _ _ _ => rfl⟩
theorem But.trans {N B : Nat} {a b c : World} (h : But N B a b) (k : But N B b c) : But N B a c :=
  ⟨k.os.trans h.os, k.tape.trans h.tape, k.output.trans h.output, Nat.le_trans h.size k.size, fun i hi hn => (k.block i hi hn).trans (h.block i hi hn)⟩
theorem But.of_below {N B M : Nat} {w w' : World} (h : Below M w w') (hM : N ≤ M) : But N B w w' := ⟨h.os, h.tape, h.output, h.size, fun k hk _ => h.block k (by omega)⟩
theorem But.below {N B M : Nat} {w w' : World} (h : But N B w w') (hM : M ≤ N) (hB : M ≤ B) : Below M w w' := ⟨h.os, h.tape, h.output, h.size, fun k hk => h.block k (by omega) (by omega)⟩
theorem But.drew {N B : Nat} {a w : World} (h : But N B a w) : But N B a w.drew := ⟨h.os, h.tape, h.output, h.size, h.block⟩
theorem But.setCell {N B : Nat} {a w : World} (h : But N B a w) (j : Nat) (u : Value) : But N B a (w.setCell ⟨B, j, none⟩ u) :=
  ⟨h.os, h.tape, h.output, by simpa [World.setCell] using h.size, fun k hk hn => (Below.heap_setCell _ _ _ _ (by simpa using hn)).trans (h.block k hk hn)⟩
theorem But.cell {N B : Nat} {w w' : World} (h : But N B w w') {p : Addr} (hp : p.block < N) (hn : p.block ≠ B) : w'.cell? p = w.cell? p := World.cell?_of_block (w := w) (h.block p.block hp hn)

/-- a row of strings that may be written -/
def RowS (w : World) (B o : Nat) (l : List ByteArray) : Prop := B < w.heap.size ∧ ∀ i s, l[i]? = some s → w.cell? ⟨B, o + i, none⟩ = some (.string s) ∧ w.frozen? ⟨B, o + i, none⟩ = false
theorem RowS.below {w w' : World} {B o M : Nat} {l : List ByteArray} (h : RowS w B o l) (hb : Below M w w') (hM : B < M) : RowS w' B o l :=
  ⟨by have := hb.size; have := h.1; omega, fun i s hs => ⟨(hb.cell (p := ⟨B, o + i, none⟩) hM).trans (h.2 i s hs).1, (hb.frozen (p := ⟨B, o + i, none⟩) hM).trans (h.2 i s hs).2⟩⟩
theorem RowS.drew {w : World} {B o : Nat} {l : List ByteArray} (h : RowS w B o l) : RowS w.drew B o l := h
theorem RowS.set {w : World} {B o i : Nat} {l : List ByteArray} (h : RowS w B o l) (s : ByteArray) (hi : i < l.length) : RowS (w.setCell ⟨B, o + i, none⟩ (.string s)) B o (l.set i s) := by
  refine ⟨by simpa [World.setCell] using h.1, fun k x hx => ?_⟩
  by_cases e : i = k
  · subst e
    rw [List.getElem?_set_self hi] at hx
    injection hx with hx
    subst hx
    obtain ⟨h1, h2⟩ := h.2 i _ (List.getElem?_eq_getElem hi)
    refine ⟨?_, ?_⟩
    · exact World.cell?_setCell_same _ _ _ h1
    · simpa using h2
  · rw [List.getElem?_set_ne e] at hx
    obtain ⟨h1, h2⟩ := h.2 k x hx
    refine ⟨?_, ?_⟩
    · exact (World.cell?_setCell_other _ _ _ _ (by intro h; injection h with _ h _; omega)).trans h1
    · simpa using h2
end Go.Pw
namespace Go.Proofs.YtinpgnekjebipaaDoor
open Go.RowKit Go.Pw

section
end
end Go.Proofs.YtinpgnekjebipaaDoor
