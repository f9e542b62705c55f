/- A decimal as it is read: plain. -/
import Derived.Test.YtoieicdnehnacaaGreatDoorSeqX
set_option linter.unusedVariables false
namespace Go.Pw
open Go.RowKit
/-- a natural number in digits: some, and nothing else -/
def isNumL (l : List UInt8) : Bool := !l.isEmpty && l.all digB
/-- the parts of a decimal: its sign, what stands ahead of the full stop, what stands behind it, whether there is one -/
def dNeg (l : List UInt8) : Bool := Lib.hasPrefix l [45]
def dRest (l : List UInt8) : List UInt8 := Lib.trimPrefix l [45]
/-- at the first full stop -/
def dotAt : List UInt8 → List UInt8 × List UInt8 × Bool
  | [] => ([], [], false)
  | c :: l => if c = 46 then ([], l, true) else (c :: (dotAt l).1, (dotAt l).2.1, (dotAt l).2.2)
def dWhole (l : List UInt8) : List UInt8 := (dotAt (dRest l)).1
def dPart (l : List UInt8) : List UInt8 := (dotAt (dRest l)).2.1
def dDot (l : List UInt8) : Bool := (dotAt (dRest l)).2.2
/-- the form of a decimal, but for the sign of 0 -/
def dForm (l : List UInt8) : Bool := isNumL (dWhole l) && !(decide (1 < (dWhole l).length) && ((dWhole l).getD 0 0 == 48)) && !(dDot l && !isNumL (dPart l))
def dMag (l : List UInt8) : Nat := valL (dWhole l ++ dPart l)
def dOk (l : List UInt8) : Bool := dForm l && !(dNeg l && decide (dMag l = 0))
/-- its value, without the full stop -/
def dVal (l : List UInt8) : Int := if dNeg l then -(dMag l : Int) else (dMag l : Int)
theorem isNumL_iff {l : List UInt8} : isNumL l = true ↔ 0 < l.length ∧ DigL l := by
  unfold isNumL DigL
  rw [Bool.and_eq_true, List.all_eq_true]
  constructor
  · rintro ⟨h1, h2⟩
    refine ⟨?_, fun c hc => ?_⟩
    · cases l with
      | nil => simp at h1
      | cons c l => simp
    · have := (digB_iff c).1 (h2 c hc)
      omega
  · rintro ⟨h1, h2⟩
    refine ⟨?_, fun c hc => (digB_iff c).2 (by have := h2 c hc; omega)⟩
    cases l with
    | nil => simp at h1
    | cons c l => rfl
theorem isNumL_take (l : List UInt8) : isNumL l = (decide (0 < l.length) && decide ((l.takeWhile digB).length = l.length)) := by
  unfold isNumL
  have h1 : l.isEmpty = !decide (0 < l.length) := by cases l <;> simp
  have h2 : l.all digB = decide ((l.takeWhile digB).length = l.length) := by
    clear h1
    induction l with
    | nil => rfl
    | cons c l ih =>
      rw [List.all_cons, List.takeWhile_cons]
      cases hc : digB c
      · simp
      · simp [ih]
  rw [h1, h2, Bool.not_not]
theorem dotAt_len : ∀ l : List UInt8, (dotAt l).1.length + (dotAt l).2.1.length ≤ l.length
  | [] => by simp [dotAt]
  | c :: l => by
    have := dotAt_len l
    rw [dotAt]
    split
    · simp
    · simp only [List.length_cons]; omega
theorem dRest_len (l : List UInt8) : (dRest l).length ≤ l.length := trimPrefix_len l [45]
theorem dParts_len (l : List UInt8) : (dWhole l).length + (dPart l).length ≤ l.length := Nat.le_trans (dotAt_len _) (dRest_len l)
theorem dotAt_dot {l : List UInt8} (h : (dotAt l).2.2 = false) : (dotAt l).2.1 = [] := by
  induction l with
  | nil => rfl
  | cons c l ih =>
    rw [dotAt] at h ⊢
    split
    · rename_i hc; rw [if_pos hc] at h; cases h
    · rename_i hc; rw [if_neg hc] at h; exact ih h
theorem dForm_dig {l : List UInt8} (h : dForm l = true) : DigL (dWhole l ++ dPart l) := by
  unfold dForm at h
  rw [Bool.and_eq_true, Bool.and_eq_true] at h
  obtain ⟨⟨h1, _⟩, h3⟩ := h
  refine dig_append (isNumL_iff.1 h1).2 ?_
  cases hd : dDot l
  · rw [show dPart l = [] from dotAt_dot hd]; intro c hc; simp at hc
  · rw [hd] at h3
    simp at h3
    exact (isNumL_iff.1 h3).2
/-- what strings.Cut makes of a text at a full stop -/
theorem dotAt_ix : ∀ l : List UInt8, (Lib.indexByte l 46 = -1 ∧ dotAt l = (l, [], false)) ∨ ∃ k : Nat, Lib.indexByte l 46 = (k : Int) ∧ k < l.length ∧ dotAt l = (l.take k, l.drop (k + 1), true)
  | [] => .inl ⟨rfl, rfl⟩
  | c :: l => by
    by_cases hc : c = 46
    · subst hc
      exact .inr ⟨0, rfl, by simp, by rw [dotAt]; simp⟩
    · have hb : (c == 46) = false := by simpa using hc
      rcases dotAt_ix l with ⟨h1, h2⟩ | ⟨k, h1, h2, h3⟩
      · refine .inl ⟨?_, by rw [dotAt, if_neg hc, h2]⟩
        simp [Lib.indexByte, hc, h1]
      · refine .inr ⟨k + 1, ?_, by simp; omega, by rw [dotAt, if_neg hc, h3]; simp⟩
        have : ¬ ((k : Int) = -1) := by omega
        simp [Lib.indexByte, hc, h1, this]
end Go.Pw
