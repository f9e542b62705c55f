/- A row of ints that may be written. Plain lemmas; no program in sight. -/
import Derived.Test.YtfjbdbdjhkmifaaSort
set_option linter.unusedVariables false
set_option linter.unusedSimpArgs false
namespace Go.Pw
open Go.RowKit
/-- a comparison of numbers, and the bound below which they lie -/
structure Cfn where
  n : Nat
  f : Int → Int → Int
instance : CoeFun Cfn (fun _ => Int → Int → Int) := ⟨Cfn.f⟩
def IOk (cf : Cfn) (x : Int) : Prop := 0 ≤ x ∧ x < (cf.n : Int)
/-- a row of ints that may be written -/
def RowI (w : World) (B o : Nat) (l : List Int) : Prop := B < w.heap.size ∧ ∀ i s, l[i]? = some s → w.cell? ⟨B, o + i, none⟩ = some (.int .i64 s) ∧ w.frozen? ⟨B, o + i, none⟩ = false
theorem RowI.below {w w' : World} {B o M : Nat} {l : List Int} (h : RowI w B o l) (hb : Below M w w') (hM : B < M) : RowI w' B o l :=
  ⟨by have := hb.size; have := h.1; omega, fun i s hs => ⟨(hb.cell (p := ⟨B, o + i, none⟩) hM).trans (h.2 i s hs).1, (hb.frozen (p := ⟨B, o + i, none⟩) hM).trans (h.2 i s hs).2⟩⟩
theorem RowI.drew {w : World} {B o : Nat} {l : List Int} (h : RowI w B o l) : RowI w.drew B o l := h
theorem RowI.set {w : World} {B o i : Nat} {l : List Int} (h : RowI w B o l) (s : Int) (hi : i < l.length) : RowI (w.setCell ⟨B, o + i, none⟩ (.int .i64 s)) B o (l.set i s) := by
  refine ⟨by simpa [World.setCell] using h.1, fun k x hx => ?_⟩
  by_cases e : i = k
  · subst e
    rw [List.getElem?_set_self hi] at hx
    injection hx with hx
    subst hx
    obtain ⟨h1, h2⟩ := h.2 i _ (List.getElem?_eq_getElem hi)
    refine ⟨?_, ?_⟩
    · exact World.cell?_setCell_same _ _ _ h1
    · simpa using h2
  · rw [List.getElem?_set_ne e] at hx
    obtain ⟨h1, h2⟩ := h.2 k x hx
    refine ⟨?_, ?_⟩
    · exact (World.cell?_setCell_other _ _ _ _ (by intro h; injection h with _ h _; omega)).trans h1
    · simpa using h2
end Go.Pw
