/- Plain: the pieces of a text between bytes. -/
import Derived.Test.YtinpgnekjebipaaDoorTextW
import Derived.Lib.SplitLaws
import Derived.Lib.IndexBytes
set_option linter.unusedVariables false
namespace Go.Pw
open Go.RowKit
/-- the pieces between bytes b, what has been read of the piece at hand given -/
def splC (b : UInt8) : List UInt8 → List UInt8 → List (List UInt8)
  | cur, [] => [cur]
  | cur, c :: l => if c = b then cur :: splC b [] l else splC b (cur ++ [c]) l
theorem splC_len (b : UInt8) : ∀ (l cur : List UInt8), (splC b cur l).length = l.count b + 1
  | [], cur => by simp [splC]
  | c :: l, cur => by
    rw [splC]
    by_cases h : c = b
    · subst h; simp [splC_len c l []]
    · rw [if_neg h, splC_len b l, List.count_cons_of_ne h]
theorem splC_cur (b : UInt8) : ∀ (l cur x : List UInt8), (∀ c ∈ x, c ≠ b) → splC b cur (x ++ l) = splC b (cur ++ x) l
  | l, cur, [], _ => by simp
  | l, cur, c :: x, h => by
    have hc : ¬ c = b := h c (by simp)
    rw [List.cons_append, splC, if_neg hc, splC_cur b l _ x fun d hd => h d (by simp [hd])]
    simp
theorem ixC_split (b : UInt8) : ∀ (l : List UInt8), (Lib.indexByte l b = -1 ∧ ∀ c ∈ l, c ≠ b) ∨ ∃ x y, l = x ++ b :: y ∧ Lib.indexByte l b = (x.length : Int) ∧ ∀ c ∈ x, c ≠ b
  | [] => .inl ⟨rfl, by simp⟩
  | d :: l => by
    by_cases hb : d = b
    · subst hb
      exact .inr ⟨[], l, rfl, by simp [Lib.indexByte], by simp⟩
    · rcases ixC_split b l with ⟨h1, h2⟩ | ⟨x, y, rfl, h2, h3⟩
      · refine .inl ⟨by simp [Lib.indexByte, hb, h1], ?_⟩
        intro c hc
        rcases List.mem_cons.1 hc with e | e
        · subst e; exact hb
        · exact h2 c e
      · refine .inr ⟨d :: x, y, rfl, ?_, ?_⟩
        · have : ¬ ((x.length : Int) = -1) := by omega
          simp [Lib.indexByte, hb, h2, this]
        · intro c hc
          rcases List.mem_cons.1 hc with e | e
          · subst e; exact hb
          · exact h3 c e
theorem splitK_splC (b : UInt8) : ∀ (n : Nat) (l : List UInt8), l.length ≤ n → Lib.splitK [b] 0 (Lib.count l [b]) l = splC b [] l := by
  intro n
  induction n with
  | zero =>
    intro l hl
    have : l = [] := List.eq_nil_of_length_eq_zero (by omega)
    subst this
    rw [Lib.count_one]; rfl
  | succ n ih =>
    intro l hl
    rw [Lib.count_one]
    rcases ixC_split b l with ⟨h1, h2⟩ | ⟨x, y, rfl, h2, h3⟩
    · have hc : l.count b = 0 := List.count_eq_zero.2 fun h => h2 b h rfl
      have e := splC_cur b [] [] l h2
      rw [hc, Lib.splitK]
      simp [splC] at e
      rw [e]
    · have hx : x.count b = 0 := List.count_eq_zero.2 fun h => h3 b h rfl
      have hc : (x ++ b :: y).count b = y.count b + 1 := by simp [hx]
      have hi : Lib.index (x ++ b :: y) [b] = (x.length : Int) := by rw [Lib.index_one]; exact h2
      rw [hc, Lib.splitK, hi]
      rw [if_neg (by simp), splC_cur b (b :: y) [] x h3]
      have hy := ih y (by simp at hl; omega)
      rw [Lib.count_one] at hy
      have e1 : ((x.length : Int)).toNat = x.length := by omega
      rw [e1]
      have e2 : (x ++ b :: y).drop (x.length + [b].length) = y := by
        rw [show x.length + [b].length = x.length + 1 from rfl, ← List.drop_drop, List.drop_left]; rfl
      rw [e2, hy, splC, if_pos rfl]
      simp
theorem splitB_splC (s : ByteArray) (b : UInt8) : Lib.splitB ⟨#[b]⟩ 0 (Lib.countB s ⟨#[b]⟩) s = (splC b [] s.data.toList).map mkB := by
  have h := Lib.splitB_data ⟨#[b]⟩ 0 (Lib.countB s ⟨#[b]⟩) s
  have e : Lib.splitK [b] 0 (Lib.count s.data.toList [b]) s.data.toList = splC b [] s.data.toList := splitK_splC b _ _ (Nat.le_refl _)
  rw [← e]
  show _ = (Lib.splitK (⟨#[b]⟩ : ByteArray).data.toList 0 (Lib.countB s ⟨#[b]⟩) s.data.toList).map mkB
  rw [← h, List.map_map]
  conv => lhs; rw [← List.map_id (Lib.splitB ⟨#[b]⟩ 0 (Lib.countB s ⟨#[b]⟩) s)]
  exact List.map_congr_left fun x _ => (mkB_list x).symm
end Go.Pw
