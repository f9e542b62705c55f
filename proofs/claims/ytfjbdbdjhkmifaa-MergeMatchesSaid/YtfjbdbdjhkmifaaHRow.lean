/- A row of hunks that may be written: four cells each. Plain lemmas; no program in sight. -/
import Derived.Test.YtfjbdbdjhkmifaaSort
set_option linter.unusedVariables false
set_option linter.unusedSimpArgs false
namespace Go.Pw
open Go.RowKit
/-- a hunk as it lies in a row: its numbers, and its slices' values -/
structure H4 where
  f : Int
  t : Int
  oa : Option Addr
  ol : Nat
  oc : Nat
  na : Option Addr
  nl : Nat
  nc : Nat
abbrev H4.val (x : H4) : Value := .agg #[.int .i64 x.f, .int .i64 x.t, .slice x.oa x.ol x.oc, .slice x.na x.nl x.nc]
def H4.ok (x : H4) : Prop := 0 ≤ x.f ∧ x.f ≤ 1000000
/-- the four cells of a hunk that may be written -/
def At4 (w : World) (B o : Nat) (x : H4) : Prop :=
  (w.cell? ⟨B, o, none⟩ = some (.int .i64 x.f) ∧ w.cell? ⟨B, o + 1, none⟩ = some (.int .i64 x.t) ∧ w.cell? ⟨B, o + 2, none⟩ = some (.slice x.oa x.ol x.oc) ∧ w.cell? ⟨B, o + 3, none⟩ = some (.slice x.na x.nl x.nc)) ∧
  w.frozen? ⟨B, o, none⟩ = false ∧ w.frozen? ⟨B, o + 1, none⟩ = false ∧ w.frozen? ⟨B, o + 2, none⟩ = false ∧ w.frozen? ⟨B, o + 3, none⟩ = false
def RowH (w : World) (B o : Nat) (l : List H4) : Prop := B < w.heap.size ∧ ∀ i s, l[i]? = some s → At4 w B (o + i * 4) s
theorem At4.below {w w' : World} {B o M : Nat} {x : H4} (h : At4 w B o x) (hb : Below M w w') (hM : B < M) : At4 w' B o x := by
  obtain ⟨⟨a, b, c, d⟩, e, f, g, i⟩ := h
  refine ⟨⟨(hb.cell (p := ⟨B, _, none⟩) hM).trans a, (hb.cell (p := ⟨B, _, none⟩) hM).trans b, (hb.cell (p := ⟨B, _, none⟩) hM).trans c, (hb.cell (p := ⟨B, _, none⟩) hM).trans d⟩, ?_⟩
  exact ⟨(hb.frozen (p := ⟨B, _, none⟩) hM).trans e, (hb.frozen (p := ⟨B, _, none⟩) hM).trans f, (hb.frozen (p := ⟨B, _, none⟩) hM).trans g, (hb.frozen (p := ⟨B, _, none⟩) hM).trans i⟩
theorem RowH.below {w w' : World} {B o M : Nat} {l : List H4} (h : RowH w B o l) (hb : Below M w w') (hM : B < M) : RowH w' B o l :=
  ⟨by have := hb.size; have := h.1; omega, fun i s hs => (h.2 i s hs).below hb hM⟩
theorem RowH.drew {w : World} {B o : Nat} {l : List H4} (h : RowH w B o l) : RowH w.drew B o l := h
/-- the world in which a hunk is written -/
abbrev put4 (w : World) (B o : Nat) (s : H4) : World :=
  (((w.setCell ⟨B, o, none⟩ (.int .i64 s.f)).setCell ⟨B, o + 1, none⟩ (.int .i64 s.t)).setCell ⟨B, o + 2, none⟩ (.slice s.oa s.ol s.oc)).setCell ⟨B, o + 3, none⟩ (.slice s.na s.nl s.nc)
theorem put4_other {w : World} {B o : Nat} {s : H4} {j : Nat} (h : j < o ∨ o + 4 ≤ j) : (put4 w B o s).cell? ⟨B, j, none⟩ = w.cell? ⟨B, j, none⟩ := by
  have k : ∀ (w : World) (a : Nat) (v : Value), a ≠ j → (w.setCell ⟨B, a, none⟩ v).cell? ⟨B, j, none⟩ = w.cell? ⟨B, j, none⟩ := fun w a v ha =>
    World.cell?_setCell_other _ _ _ _ (by intro h; injection h with _ h _; omega)
  unfold put4
  rw [k _ _ _ (by omega), k _ _ _ (by omega), k _ _ _ (by omega), k _ _ _ (by omega)]
theorem put4_frozen {w : World} {B o : Nat} {s : H4} {p : Addr} : (put4 w B o s).frozen? p = w.frozen? p := by simp [put4]
theorem put4_at {w : World} {B o : Nat} {x s : H4} (h : At4 w B o x) : At4 (put4 w B o s) B o s := by
  obtain ⟨⟨a, b, c, d⟩, e, f, g, i⟩ := h
  have k : ∀ (w : World) (a j : Nat) (v : Value), a ≠ j → (w.setCell ⟨B, a, none⟩ v).cell? ⟨B, j, none⟩ = w.cell? ⟨B, j, none⟩ := fun w a j v ha =>
    World.cell?_setCell_other _ _ _ _ (by intro h; injection h with _ h _; omega)
  have s0 : ∀ (w : World) (j : Nat) (v u : Value), w.cell? ⟨B, j, none⟩ = some u → (w.setCell ⟨B, j, none⟩ v).cell? ⟨B, j, none⟩ = some v := fun w j v u hu => World.cell?_setCell_same _ _ _ hu
  refine ⟨⟨?_, ?_, ?_, ?_⟩, by rw [put4_frozen]; exact e, by rw [put4_frozen]; exact f, by rw [put4_frozen]; exact g, by rw [put4_frozen]; exact i⟩
  · unfold put4
    rw [k _ _ _ _ (by omega), k _ _ _ _ (by omega), k _ _ _ _ (by omega)]
    exact s0 _ _ _ _ a
  · unfold put4
    rw [k _ _ _ _ (by omega), k _ _ _ _ (by omega)]
    refine s0 _ _ _ _ ((k _ _ _ _ (by omega)).trans b)
  · unfold put4
    rw [k _ _ _ _ (by omega)]
    refine s0 _ _ _ _ ((k _ _ _ _ (by omega)).trans ((k _ _ _ _ (by omega)).trans c))
  · unfold put4
    refine s0 _ _ _ _ ((k _ _ _ _ (by omega)).trans ((k _ _ _ _ (by omega)).trans ((k _ _ _ _ (by omega)).trans d)))
theorem RowH.set {w : World} {B o i : Nat} {l : List H4} (h : RowH w B o l) (s : H4) (hi : i < l.length) : RowH (put4 w B (o + i * 4) s) B o (l.set i s) := by
  refine ⟨by simpa [put4, World.setCell] using h.1, fun k x hx => ?_⟩
  by_cases e : i = k
  · subst e
    rw [List.getElem?_set_self hi] at hx
    injection hx with hx
    subst hx
    exact put4_at (h.2 i _ (List.getElem?_eq_getElem hi))
  · rw [List.getElem?_set_ne e] at hx
    obtain ⟨⟨a, b, c, d⟩, f⟩ := h.2 k x hx
    refine ⟨⟨(put4_other (by omega)).trans a, (put4_other (by omega)).trans b, (put4_other (by omega)).trans c, (put4_other (by omega)).trans d⟩, ?_⟩
    simp only [put4_frozen]
    exact f
end Go.Pw
