/- Pieces of a merge in memory, and their text. Plain lemmas; no program in sight. -/
import Derived.Test.YtfjbdbdjhkmifaaHunk
set_option linter.unusedVariables false
set_option linter.unusedSimpArgs false
namespace Go.Pw
open Go.RowKit

/-- a piece as data -/
structure Pc where
  conf : Bool
  lines : List ByteArray
  base : List ByteArray
  a : List ByteArray
  b : List ByteArray
/-- the values of its slices -/
structure PcV where
  lines : Value
  base : Value
  a : Value
  b : Value
def pcCells : List Pc → List PcV → List Value
  | p :: ps, v :: vs => .bool p.conf :: v.lines :: v.base :: v.a :: v.b :: pcCells ps vs
  | _, _ => []
theorem pcCells_length : ∀ (ps : List Pc) (vs : List PcV), vs.length = ps.length → (pcCells ps vs).length = ps.length * 5
  | [], [], _ => rfl
  | h :: hs, v :: vs, e => by simp at e; simp [pcCells, pcCells_length hs vs e]; omega
  | [], v :: vs, e => by simp at e
  | h :: hs, [], e => by simp at e
theorem pcCells_at : ∀ (ps : List Pc) (vs : List PcV) (i : Nat) (p : Pc) (v : PcV), ps[i]? = some p → vs[i]? = some v → vs.length = ps.length →
    (pcCells ps vs)[5 * i]? = some (.bool p.conf) ∧ (pcCells ps vs)[5 * i + 1]? = some v.lines ∧ (pcCells ps vs)[5 * i + 2]? = some v.base ∧ (pcCells ps vs)[5 * i + 3]? = some v.a ∧ (pcCells ps vs)[5 * i + 4]? = some v.b
  | h :: hs, v :: vs, 0, _, _, e1, e2, _ => by simp at e1 e2; subst e1 e2; simp [pcCells]
  | h :: hs, v :: vs, i + 1, g, u, e1, e2, e => by
    have := pcCells_at hs vs i g u (by simpa using e1) (by simpa using e2) (by simpa using e)
    rw [show 5 * (i + 1) = 5 * i + 1 + 1 + 1 + 1 + 1 by omega]
    simpa [pcCells] using this
  | [], _, _, _, _, e1, _, _ => by simp at e1
  | h :: hs, [], _, _, _, _, e2, _ => by simp at e2
/-- what a piece's values read as -/
def PcRd (w : World) (p : Pc) (v : PcV) : Prop := Strs w v.lines p.lines ∧ Strs w v.base p.base ∧ Strs w v.a p.a ∧ Strs w v.b p.b
theorem PcRd.below {w w' : World} {p : Pc} {v : PcV} (h : PcRd w p v) (hb : Below w.heap.size w w') : PcRd w' p v := ⟨h.1.below hb, h.2.1.below hb, h.2.2.1.below hb, h.2.2.2.below hb⟩
/-- A slice of pieces that reads as the list ps. -/
def Pieces (w : World) (v : Value) (ps : List Pc) : Prop :=
  ∃ vs : List PcV, vs.length = ps.length ∧ Rd w 5 v ps.length (pcCells ps vs) ∧ ∀ (i : Nat) (p : Pc) (u : PcV), ps[i]? = some p → vs[i]? = some u → PcRd w p u
theorem Pieces.below {w w' : World} {v : Value} {ps : List Pc} (h : Pieces w v ps) (hb : Below w.heap.size w w') : Pieces w' v ps := by
  obtain ⟨vs, h1, h2, h3⟩ := h
  exact ⟨vs, h1, h2.below hb, fun i p u e1 e2 => (h3 i p u e1 e2).below hb⟩

/-- lines with a sign ahead of each, as a text -/
def signedT (sg : List UInt8) : List ByteArray → List UInt8
  | [] => []
  | s :: l => sg ++ s.data.toList ++ [10] ++ signedT sg l
def resT (l : List ByteArray) : List UInt8 := signedT [] l
theorem signedT_append (sg : List UInt8) : ∀ (l m : List ByteArray), signedT sg (l ++ m) = signedT sg l ++ signedT sg m
  | [], m => rfl
  | s :: l, m => by simp [signedT, signedT_append sg l m]
theorem signedT_snoc (sg : List UInt8) (l : List ByteArray) (s : ByteArray) : signedT sg (l ++ [s]) = signedT sg l ++ (sg ++ s.data.toList ++ [10]) := by
  rw [signedT_append]; simp [signedT]
/-- the letters and values of lines -/
def linesW : List ByteArray → Nat
  | [] => 0
  | s :: l => s.size + 1 + linesW l
theorem resT_length : ∀ (l : List ByteArray), (resT l).length = linesW l
  | [] => rfl
  | s :: l => by
    have := resT_length l
    unfold resT at this ⊢
    simp [signedT, linesW, this]
    omega
def pcW (p : Pc) : Nat := linesW p.lines + linesW p.base + linesW p.a + linesW p.b + 1
def pcsW : List Pc → Nat
  | [] => 0
  | p :: ps => pcW p + pcsW ps
def cut7 (c : UInt8) : List UInt8 := [c, c, c, c, c, c, c, 10]
/-- the text of a conflict -/
def confT (p : Pc) : List UInt8 := cut7 60 ++ resT p.a ++ cut7 124 ++ resT p.base ++ cut7 61 ++ resT p.b ++ cut7 62
/-- the text of a piece, as the reference writes it -/
def pcT (p : Pc) : List UInt8 := resT p.lines ++ (if p.conf then confT p else [])
def pcsT : List Pc → List UInt8
  | [] => []
  | p :: ps => pcT p ++ pcsT ps
theorem pcT_length (p : Pc) : (pcT p).length ≤ 33 * pcW p := by
  unfold pcT pcW confT
  have h1 := resT_length p.lines
  have h2 := resT_length p.base
  have h3 := resT_length p.a
  have h4 := resT_length p.b
  split <;> simp [cut7, h1, h2, h3, h4] <;> omega
theorem pcsT_length : ∀ (ps : List Pc), (pcsT ps).length ≤ 33 * pcsW ps
  | [] => by simp [pcsT]
  | p :: ps => by
    have h1 := pcT_length p
    have h2 := pcsT_length ps
    simp [pcsT, pcsW]; omega
theorem pcsW_mem {ps : List Pc} {p : Pc} (h : p ∈ ps) : pcW p ≤ pcsW ps := by
  induction ps with
  | nil => cases h
  | cons q ps ih =>
    simp only [pcsW]
    rcases List.mem_cons.1 h with e | e
    · subst e; omega
    · have := ih e; omega
theorem pcsT_take_succ {ps : List Pc} {k : Nat} (h : k < ps.length) : pcsT (ps.take (k + 1)) = pcsT (ps.take k) ++ pcT ps[k] := by
  rw [List.take_succ_eq_append_getElem h]
  generalize ps.take k = l
  generalize ps[k] = p
  induction l with
  | nil => simp [pcsT]
  | cons q l ih => simp [pcsT, ih]
theorem pcsT_take_le (ps : List Pc) (k : Nat) : (pcsT (ps.take k)).length ≤ (pcsT ps).length := by
  induction ps generalizing k with
  | nil => simp
  | cons p ps ih =>
    cases k with
    | zero => simp [pcsT]
    | succ k => have := ih k; simp [pcsT]; omega
theorem pcsW_len (ps : List Pc) : ps.length ≤ pcsW ps := by
  induction ps with
  | nil => simp
  | cons p ps ih => simp [pcsW, pcW]; omega
end Go.Pw
