/- Plain: two lists of lines in order are compared. -/
import Derived.Test.YtoieicdnehnacaaGreatDoorSorts
set_option linter.unusedVariables false
namespace Go.Pw

/-- how two lines stand to each other, by their bytes -/
def cbL (a b : ByteArray) : Int := Lib.compareBytes a.data.toList b.data.toList
theorem cb_flip : ∀ (a b : List UInt8), Lib.compareBytes a b = -Lib.compareBytes b a
  | [], [] => rfl
  | [], _ :: _ => rfl
  | _ :: _, [] => rfl
  | a :: x, b :: y => by
    rw [Lib.compareBytes, Lib.compareBytes]
    by_cases h1 : a < b
    · have h2 : ¬ b < a := fun h => absurd (UInt8.lt_trans h1 h) (UInt8.lt_irrefl a)
      rw [if_pos h1, if_neg h2, if_pos h1]
    · by_cases h2 : b < a
      · rw [if_neg h1, if_pos h2, if_pos h2]; rfl
      · rw [if_neg h1, if_neg h2, if_neg h2, if_neg h1]; exact cb_flip x y
theorem cbL_flip (a b : ByteArray) : cbL a b = -cbL b a := cb_flip _ _
/-- are lines in order -/
def ordB : List ByteArray → Bool
  | a :: b :: l => decide (cbL a b ≤ 0) && ordB (b :: l)
  | _ => true
theorem ordB_iff : ∀ (l : List ByteArray), ordB l = true ↔ ∀ (i : Nat) a b, l[i]? = some a → l[i + 1]? = some b → cbL a b ≤ 0
  | [] => ⟨fun _ i a b h _ => by simp at h, fun _ => rfl⟩
  | [x] => ⟨fun _ i a b _ h => by simp at h, fun _ => rfl⟩
  | x :: y :: l => by
    rw [ordB, Bool.and_eq_true, decide_eq_true_eq, ordB_iff (y :: l)]
    constructor
    · rintro ⟨h1, h2⟩ i a b ha hb
      cases i with
      | zero => simp at ha hb; subst ha hb; exact h1
      | succ i => exact h2 i a b (by simpa using ha) (by simpa using hb)
    · intro h
      exact ⟨h 0 x y rfl rfl, fun i a b ha hb => h (i + 1) a b (by simpa using ha) (by simpa using hb)⟩

theorem ordB_drop {l : List ByteArray} {k : Nat} (h : k + 1 < l.length) : ordB (l.drop k) = (decide (cbL l[k] l[k + 1] ≤ 0) && ordB (l.drop (k + 1))) := by
  rw [List.drop_eq_getElem_cons (show k < l.length by omega), List.drop_eq_getElem_cons h, ordB]
theorem ordB_of_drop {l : List ByteArray} {k : Nat} (h : ordB (l.drop k) = false) : ordB l = false := by
  cases e : ordB l
  · rfl
  · rw [ordB_iff] at e
    have : ordB (l.drop k) = true := (ordB_iff _).2 fun i a b ha hb => by
      rw [List.getElem?_drop] at ha hb
      exact e (k + i) a b ha hb
    rw [this] at h; cases h
theorem ordB_last {l : List ByteArray} {k : Nat} (h : l.length ≤ k + 1) : ordB (l.drop k) = true := by
  match e : l.drop k with
  | [] => rfl
  | [x] => rfl
  | x :: y :: m =>
    have := congrArg List.length e
    simp at this; omega
theorem less_dec (a b : ByteArray) : Op.bytesLess a.data.toList b.data.toList = decide (cbL a b < 0) := by
  unfold cbL
  by_cases e : a.data.toList = b.data.toList
  · rw [e, cb_same]
    cases h : Op.bytesLess b.data.toList b.data.toList
    · rfl
    · have := cb_less h
      rw [cb_same] at this; cases this
  · cases h : Op.bytesLess a.data.toList b.data.toList
    · rw [cb_more h e]; rfl
    · rw [cb_less h]; rfl
def tabsL (hide : Nat) : Nat → List UInt8
  | 0 => []
  | k + 1 => tabsL hide k ++ (if hide.testBit k then [] else [9])
theorem tabsL_le (hide : Nat) : ∀ k, (tabsL hide k).length ≤ k
  | 0 => Nat.le_refl _
  | k + 1 => by
    have := tabsL_le hide k
    rw [tabsL, List.length_append]
    split <;> simp <;> omega
/-- a line told in a column -/
def tellL (hide col : Nat) (s : ByteArray) : List ByteArray := if hide.testBit col then [] else [mkB (tabsL hide col ++ s.data.toList)]
def commF (hide : Nat) : Nat → List ByteArray → List ByteArray → List ByteArray
  | 0, _, _ => []
  | n + 1, [], [] => []
  | n + 1, a :: x, [] => tellL hide 0 a ++ commF hide n x []
  | n + 1, [], b :: y => tellL hide 1 b ++ commF hide n [] y
  | n + 1, a :: x, b :: y => if cbL a b < 0 then tellL hide 0 a ++ commF hide n x (b :: y) else if 0 < cbL a b then tellL hide 1 b ++ commF hide n (a :: x) y else tellL hide 2 a ++ commF hide n x y
theorem commF_nil (hide : Nat) : ∀ n, commF hide n [] [] = []
  | 0 => rfl
  | n + 1 => rfl
theorem commF_fuel (hide : Nat) : ∀ (n m : Nat) (x y : List ByteArray), x.length + y.length ≤ n → x.length + y.length ≤ m → commF hide n x y = commF hide m x y
  | n, m, [], [], _, _ => by rw [commF_nil, commF_nil]
  | 0, _, a :: x, y, h, _ => by simp at h
  | 0, _, [], b :: y, h, _ => by simp at h
  | n + 1, 0, a :: x, y, _, h => by simp at h
  | n + 1, 0, [], b :: y, _, h => by simp at h
  | n + 1, m + 1, a :: x, [], h1, h2 => by
    rw [commF, commF, commF_fuel hide n m x [] (by simp at h1 ⊢; omega) (by simp at h2 ⊢; omega)]
  | n + 1, m + 1, [], b :: y, h1, h2 => by
    rw [commF, commF, commF_fuel hide n m [] y (by simp at h1 ⊢; omega) (by simp at h2 ⊢; omega)]
  | n + 1, m + 1, a :: x, b :: y, h1, h2 => by
    simp only [List.length_cons] at h1 h2
    rw [commF, commF, commF_fuel hide n m x (b :: y) (by simp only [List.length_cons]; omega) (by simp only [List.length_cons]; omega), commF_fuel hide n m (a :: x) y (by simp only [List.length_cons]; omega) (by simp only [List.length_cons]; omega), commF_fuel hide n m x y (by omega) (by omega)]
/-- what is told of two lists of lines -/
def commL (hide : Nat) (x y : List ByteArray) : List ByteArray := commF hide (x.length + y.length) x y
section
variable (hide : Nat) (a b : ByteArray) (x y : List ByteArray)
theorem commL_nil : commL hide [] [] = [] := rfl
theorem commL_a : commL hide (a :: x) [] = tellL hide 0 a ++ commL hide x [] := by
  unfold commL
  rw [show (a :: x).length + ([] : List ByteArray).length = x.length + ([] : List ByteArray).length + 1 by simp, commF]
theorem commL_b : commL hide [] (b :: y) = tellL hide 1 b ++ commL hide [] y := by
  unfold commL
  rw [show ([] : List ByteArray).length + (b :: y).length = ([] : List ByteArray).length + y.length + 1 by simp, commF]
theorem commL_lt (h : cbL a b < 0) : commL hide (a :: x) (b :: y) = tellL hide 0 a ++ commL hide x (b :: y) := by
  unfold commL
  rw [show (a :: x).length + (b :: y).length = x.length + (b :: y).length + 1 by simp; omega, commF, if_pos h]
theorem commL_gt (h : 0 < cbL a b) : commL hide (a :: x) (b :: y) = tellL hide 1 b ++ commL hide (a :: x) y := by
  unfold commL
  rw [show (a :: x).length + (b :: y).length = (a :: x).length + y.length + 1 by simp; omega, commF, if_neg (by omega), if_pos h]
theorem commL_eq (h : cbL a b = 0) : commL hide (a :: x) (b :: y) = tellL hide 2 a ++ commL hide x y := by
  unfold commL
  rw [show (a :: x).length + (b :: y).length = (x.length + y.length + 1) + 1 by simp; omega, commF, if_neg (by omega), if_neg (by omega), commF_fuel hide (x.length + y.length + 1) (x.length + y.length) x y (by omega) (by omega)]
end
theorem tellL_ok {hide col : Nat} {s z : ByteArray} {M : Nat} (hs : s.size ≤ M) (hz : z ∈ tellL hide col s) : z.size ≤ M + col := by
  unfold tellL at hz
  split at hz
  · cases hz
  · simp at hz
    subst hz
    have := tabsL_le hide col
    rw [mkB_size, List.length_append, len_size]; omega
theorem tellL_len (hide col : Nat) (s : ByteArray) : (tellL hide col s).length ≤ 1 := by
  unfold tellL; split <;> simp
theorem commF_ok (hide M : Nat) : ∀ (n : Nat) (x y : List ByteArray), (∀ s ∈ x, s.size ≤ M) → (∀ s ∈ y, s.size ≤ M) → (commF hide n x y).length ≤ n ∧ ∀ z ∈ commF hide n x y, z.size ≤ M + 2
  | 0, _, _, _, _ => ⟨Nat.le_refl _, fun z hz => by cases hz⟩
  | n + 1, [], [], _, _ => ⟨Nat.zero_le _, fun z hz => by cases hz⟩
  | n + 1, a :: x, [], hx, hy => by
    obtain ⟨h1, h2⟩ := commF_ok hide M n x [] (fun s hs => hx s (List.mem_cons_of_mem _ hs)) hy
    have h3 := tellL_len hide 0 a
    rw [commF]
    refine ⟨by rw [List.length_append]; omega, fun z hz => ?_⟩
    rcases List.mem_append.1 hz with hz | hz
    · have := tellL_ok (hx a (by simp)) hz; omega
    · exact h2 z hz
  | n + 1, [], b :: y, hx, hy => by
    obtain ⟨h1, h2⟩ := commF_ok hide M n [] y hx (fun s hs => hy s (List.mem_cons_of_mem _ hs))
    have h3 := tellL_len hide 1 b
    rw [commF]
    refine ⟨by rw [List.length_append]; omega, fun z hz => ?_⟩
    rcases List.mem_append.1 hz with hz | hz
    · have := tellL_ok (hy b (by simp)) hz; omega
    · exact h2 z hz
  | n + 1, a :: x, b :: y, hx, hy => by
    have k0 := commF_ok hide M n x (b :: y) (fun s hs => hx s (List.mem_cons_of_mem _ hs)) hy
    have k1 := commF_ok hide M n (a :: x) y hx (fun s hs => hy s (List.mem_cons_of_mem _ hs))
    have k2 := commF_ok hide M n x y (fun s hs => hx s (List.mem_cons_of_mem _ hs)) (fun s hs => hy s (List.mem_cons_of_mem _ hs))
    have h0 := tellL_len hide 0 a
    have h1 := tellL_len hide 1 b
    have h2 := tellL_len hide 2 a
    rw [commF]
    split
    · refine ⟨by rw [List.length_append]; omega, fun z hz => ?_⟩
      rcases List.mem_append.1 hz with hz | hz
      · have := tellL_ok (hx a (by simp)) hz; omega
      · exact k0.2 z hz
    · split
      · refine ⟨by rw [List.length_append]; omega, fun z hz => ?_⟩
        rcases List.mem_append.1 hz with hz | hz
        · have := tellL_ok (hy b (by simp)) hz; omega
        · exact k1.2 z hz
      · refine ⟨by rw [List.length_append]; omega, fun z hz => ?_⟩
        rcases List.mem_append.1 hz with hz | hz
        · have := tellL_ok (hx a (by simp)) hz; omega
        · exact k2.2 z hz
theorem commL_ok {hide M : Nat} {x y : List ByteArray} (hx : ∀ s ∈ x, s.size ≤ M) (hy : ∀ s ∈ y, s.size ≤ M) : (commL hide x y).length ≤ x.length + y.length ∧ ∀ z ∈ commL hide x y, z.size ≤ M + 2 := commF_ok hide M _ x y hx hy
end Go.Pw
