/- Plain: the lines of a text, as strings.Split cuts them and as the reference reads them. -/
import Derived.Lib.SplitLaws
import Derived.Lib.IndexBytes
set_option linter.unusedVariables false
namespace Go.Pw

/-- the lines, what has been read of the line at hand given -/
def lnF : List UInt8 → List UInt8 → List (List UInt8)
  | cur, [] => if cur = [] then [] else [cur]
  | cur, c :: l => if c = 10 then cur :: lnF [] l else lnF (cur ++ [c]) l
/-- the pieces between line feeds -/
def spl : List UInt8 → List UInt8 → List (List UInt8)
  | cur, [] => [cur]
  | cur, c :: l => if c = 10 then cur :: spl [] l else spl (cur ++ [c]) l
theorem lnF_nl : ∀ (l cur : List UInt8), lnF cur (l ++ [10]) = spl cur l
  | [], cur => by simp [lnF, spl]
  | c :: l, cur => by
    rw [List.cons_append, lnF, spl]
    split
    · rw [lnF_nl l []]
    · rw [lnF_nl l]
theorem lnF_plain : ∀ (l cur : List UInt8) (h : l ≠ []), l.getLast h ≠ 10 → lnF cur l = spl cur l
  | [], _, h, _ => absurd rfl h
  | [c], cur, _, h10 => by
    have h : ¬ c = 10 := by simpa using h10
    simp [lnF, spl, h]
  | c :: d :: l, cur, _, h10 => by
    have hl : (d :: l).getLast (by simp) ≠ 10 := by simpa using h10
    rw [lnF, spl]
    split
    · rw [lnF_plain (d :: l) [] (by simp) hl]
    · rw [lnF_plain (d :: l) _ (by simp) hl]
theorem spl_cur : ∀ (l cur x : List UInt8), (∀ c ∈ x, c ≠ 10) → spl cur (x ++ l) = spl (cur ++ x) l
  | l, cur, [], _ => by simp
  | l, cur, c :: x, h => by
    have hc : ¬ c = 10 := h c (by simp)
    rw [List.cons_append, spl, if_neg hc, spl_cur l _ x fun d hd => h d (by simp [hd])]
    simp
theorem ix_split : ∀ (l : List UInt8), (Lib.indexByte l 10 = -1 ∧ ∀ c ∈ l, c ≠ 10) ∨ ∃ x y, l = x ++ 10 :: y ∧ Lib.indexByte l 10 = (x.length : Int) ∧ ∀ c ∈ x, c ≠ 10
  | [] => .inl ⟨rfl, by simp⟩
  | b :: l => by
    by_cases hb : b = 10
    · subst hb
      exact .inr ⟨[], l, rfl, by simp [Lib.indexByte], by simp⟩
    · rcases ix_split l with ⟨h1, h2⟩ | ⟨x, y, rfl, h2, h3⟩
      · refine .inl ⟨by simp [Lib.indexByte, hb, h1], ?_⟩
        intro c hc
        rcases List.mem_cons.1 hc with e | e
        · subst e; exact hb
        · exact h2 c e
      · refine .inr ⟨b :: x, y, rfl, ?_, ?_⟩
        · have : ¬ ((x.length : Int) = -1) := by omega
          simp [Lib.indexByte, hb, h2, this]
        · intro c hc
          rcases List.mem_cons.1 hc with e | e
          · subst e; exact hb
          · exact h3 c e
theorem splitK_spl : ∀ (n : Nat) (l : List UInt8), l.length ≤ n → Lib.splitK [10] 0 (Lib.count l [10]) l = spl [] l := by
  intro n
  induction n with
  | zero =>
    intro l hl
    have : l = [] := List.eq_nil_of_length_eq_zero (by omega)
    subst this
    rw [Lib.count_one]; rfl
  | succ n ih =>
    intro l hl
    rw [Lib.count_one]
    rcases ix_split l with ⟨h1, h2⟩ | ⟨x, y, rfl, h2, h3⟩
    · have hc : l.count 10 = 0 := List.count_eq_zero.2 fun h => h2 10 h rfl
      have e := spl_cur [] [] l h2
      rw [hc, Lib.splitK]
      simp [spl] at e
      rw [e]
    · have hx : x.count 10 = 0 := List.count_eq_zero.2 fun h => h3 10 h rfl
      have hc : (x ++ 10 :: y).count 10 = y.count 10 + 1 := by simp [hx]
      have hi : Lib.index (x ++ 10 :: y) [10] = (x.length : Int) := by rw [Lib.index_one]; exact h2
      rw [hc, Lib.splitK, hi]
      rw [if_neg (by simp), spl_cur (10 :: y) [] x h3]
      have hy := ih y (by simp at hl; omega)
      rw [Lib.count_one] at hy
      have e1 : ((x.length : Int)).toNat = x.length := by omega
      rw [e1]
      have e2 : (x ++ 10 :: y).drop (x.length + [(10 : UInt8)].length) = y := by
        rw [show x.length + [(10 : UInt8)].length = x.length + 1 from rfl, ← List.drop_drop, List.drop_left]; rfl
      rw [e2, hy, spl, if_pos rfl]
      simp
end Go.Pw
