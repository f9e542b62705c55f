/- Plain: parts of a text, by its lines with their line feeds or by bytes. -/
import Derived.Test.YtkikbejpgfhfoaaDoorTextW
set_option linter.unusedVariables false
set_option linter.unusedSimpArgs false
namespace Go.Pw
/-- the lines with their line feeds, what has been read of the line at hand given -/
def uts : List UInt8 → List UInt8 → List (List UInt8)
  | cur, [] => if cur = [] then [] else [cur]
  | cur, c :: l => if c = 10 then (cur ++ [c]) :: uts [] l else uts (cur ++ [c]) l
/-- as strings.SplitAfter cuts -/
def splA : List UInt8 → List UInt8 → List (List UInt8)
  | cur, [] => [cur]
  | cur, c :: l => if c = 10 then (cur ++ [c]) :: splA [] l else splA (cur ++ [c]) l
theorem splA_ne : ∀ (l cur : List UInt8), splA cur l ≠ []
  | [], cur => by simp [splA]
  | c :: l, cur => by
    rw [splA]
    split
    · simp
    · exact splA_ne l _
theorem splA_len : ∀ (l cur : List UInt8), (splA cur l).length = l.count 10 + 1
  | [], cur => by simp [splA]
  | c :: l, cur => by
    rw [splA]
    by_cases h : c = 10
    · subst h; simp [splA_len l []]
    · rw [if_neg h, splA_len l, List.count_cons_of_ne h]
theorem splA_cur : ∀ (l cur x : List UInt8), (∀ c ∈ x, c ≠ 10) → splA cur (x ++ l) = splA (cur ++ x) l
  | l, cur, [], _ => by simp
  | l, cur, c :: x, h => by
    have hc : ¬ c = 10 := h c (by simp)
    rw [List.cons_append, splA, if_neg hc, splA_cur l _ x fun d hd => h d (by simp [hd])]
    simp
theorem splitK_splA : ∀ (n : Nat) (l : List UInt8), l.length ≤ n → Lib.splitK [10] 1 (Lib.count l [10]) l = splA [] l := by
  intro n
  induction n with
  | zero =>
    intro l hl
    have : l = [] := List.eq_nil_of_length_eq_zero (by omega)
    subst this
    rw [Lib.count_one]; rfl
  | succ n ih =>
    intro l hl
    rw [Lib.count_one]
    rcases ix_split l with ⟨h1, h2⟩ | ⟨x, y, rfl, h2, h3⟩
    · have hc : l.count 10 = 0 := List.count_eq_zero.2 fun h => h2 10 h rfl
      have e := splA_cur [] [] l h2
      rw [hc, Lib.splitK]
      simp [splA] at e
      rw [e]
    · have hx : x.count 10 = 0 := List.count_eq_zero.2 fun h => h3 10 h rfl
      have hc : (x ++ 10 :: y).count 10 = y.count 10 + 1 := by simp [hx]
      have hi : Lib.index (x ++ 10 :: y) [10] = (x.length : Int) := by rw [Lib.index_one]; exact h2
      rw [hc, Lib.splitK, hi]
      rw [if_neg (by simp), splA_cur (10 :: y) [] x h3]
      have hy := ih y (by simp at hl; omega)
      rw [Lib.count_one] at hy
      have e1 : ((x.length : Int)).toNat = x.length := by omega
      rw [e1]
      have e2 : (x ++ 10 :: y).drop (x.length + [(10 : UInt8)].length) = y := by
        rw [show x.length + [(10 : UInt8)].length = x.length + 1 from rfl, ← List.drop_drop, List.drop_left]; rfl
      rw [e2, hy, splA, if_pos rfl]
      have e3 : (x ++ 10 :: y).take (x.length + 1) = x ++ [10] := by
        rw [List.take_append, List.take_of_length_le (by omega), show x.length + 1 - x.length = 1 by omega]; rfl
      rw [e3]; rfl
theorem uts_splA : ∀ (l cur : List UInt8), ((splA cur l).getLast? = some [] → uts cur l = (splA cur l).dropLast) ∧ ((splA cur l).getLast? ≠ some [] → uts cur l = splA cur l)
  | [], cur => by
    rw [splA, uts]
    by_cases h : cur = []
    · subst h; simp
    · simp [h]
  | c :: l, cur => by
    rw [splA, uts]
    by_cases h : c = 10
    · rw [if_pos h, if_pos h]
      obtain ⟨h1, h2⟩ := uts_splA l []
      have hne := splA_ne l []
      rw [List.getLast?_cons_of_ne_nil hne, List.dropLast_cons_of_ne_nil hne]
      exact ⟨fun h => by rw [h1 h], fun h => by rw [h2 h]⟩
    · rw [if_neg h, if_neg h]
      exact uts_splA l _
theorem uts_flat : ∀ (l cur : List UInt8), (uts cur l).flatten = cur ++ l
  | [], cur => by
    rw [uts]
    split
    · rename_i h; subst h; rfl
    · simp
  | c :: l, cur => by
    rw [uts]
    split
    · rw [List.flatten_cons, uts_flat l []]; simp
    · rw [uts_flat l _]; simp
theorem uts_len : ∀ (l cur : List UInt8), (uts cur l).length ≤ l.length + (if cur = [] then 0 else 1)
  | [], cur => by
    rw [uts]
    split <;> simp
  | c :: l, cur => by
    rw [uts]
    split
    · have := uts_len l []
      simp at this ⊢
      split <;> omega
    · have := uts_len l (cur ++ [c])
      simp at this ⊢
      split <;> omega
/-- where pieces begin -/
def sts : Nat → List (List UInt8) → List Nat
  | _, [] => []
  | b, u :: us => b :: sts (b + u.length) us
theorem sts_len : ∀ (us : List (List UInt8)) (b : Nat), (sts b us).length = us.length
  | [], _ => rfl
  | u :: us, b => by simp [sts, sts_len us]
theorem sts_at : ∀ (us : List (List UInt8)) (b k : Nat), k < us.length → (sts b us)[k]? = some (b + (us.take k).flatten.length)
  | u :: us, b, 0, _ => by simp [sts]
  | u :: us, b, k + 1, h => by
    rw [sts, List.getElem?_cons_succ, sts_at us _ k (by simpa using h), List.take_succ_cons, List.flatten_cons, List.length_append, Nat.add_assoc]
/-- where lines begin -/
def bgs : Nat → Bool → List UInt8 → List Nat
  | _, _, [] => []
  | i, nl, c :: l => (if nl then [i] else []) ++ bgs (i + 1) (c == 10) l
theorem bgs_uts : ∀ (l : List UInt8) (i : Nat), bgs i true l = sts i (uts [] l) ∧ ∀ (cur : List UInt8) (b : Nat), cur ≠ [] → b + cur.length = i → b :: bgs i false l = sts b (uts cur l)
  | [], i => by
    refine ⟨rfl, fun cur b h _ => ?_⟩
    rw [uts, if_neg h]; rfl
  | c :: l, i => by
    obtain ⟨h1, h2⟩ := bgs_uts l (i + 1)
    by_cases hc : c = 10
    · subst hc
      refine ⟨?_, fun cur b h hb => ?_⟩
      · rw [bgs, uts, if_pos rfl, if_pos rfl, sts]
        simp [h1]
      · rw [bgs, uts, if_pos rfl, sts]
        have e : b + (cur ++ [(10 : UInt8)]).length = i + 1 := by simp; omega
        rw [e]
        simp [h1]
    · have hf : (c == 10) = false := by simpa using hc
      refine ⟨?_, fun cur b h hb => ?_⟩
      · rw [bgs, uts, if_pos rfl, if_neg hc, hf]
        exact h2 ([] ++ [c]) i (by simp) (by simp)
      · rw [bgs, uts, if_neg hc, hf]
        exact h2 (cur ++ [c]) b (by simp) (by simp; omega)
/-- the places that the reference counts, among the first k -/
def bgN (by_ : Bool) (s : List UInt8) : Nat → List Nat
  | 0 => []
  | i + 1 => bgN by_ s i ++ (if by_ = true ∨ i = 0 ∨ s[i - 1]? = some 10 then [i] else [])
theorem bgN_le (by_ : Bool) (s : List UInt8) : ∀ k, (bgN by_ s k).length ≤ k ∧ ∀ x ∈ bgN by_ s k, x < k
  | 0 => ⟨Nat.le_refl _, by simp [bgN]⟩
  | k + 1 => by
    obtain ⟨h1, h2⟩ := bgN_le by_ s k
    rw [bgN]
    constructor
    · rw [List.length_append]; split <;> simp <;> omega
    · intro x hx
      rcases List.mem_append.1 hx with hx | hx
      · have := h2 x hx; omega
      · split at hx
        · simp at hx; omega
        · cases hx
theorem bgN_true (s : List UInt8) : ∀ k, bgN true s k = List.range k
  | 0 => rfl
  | k + 1 => by rw [bgN, bgN_true s k, List.range_succ]; simp
theorem bgN_bgs : ∀ (l p : List UInt8) (nl : Bool), (nl = true ↔ p = [] ∨ p.getLast? = some 10) → bgN false (p ++ l) (p.length + l.length) = bgN false (p ++ l) p.length ++ bgs p.length nl l
  | [], p, nl, _ => by simp [bgs]
  | c :: l, p, nl, h => by
    have ih := bgN_bgs l (p ++ [c]) (c == 10) (by simp)
    rw [List.append_assoc] at ih
    have e1 : (p ++ [c]).length + l.length = p.length + (c :: l).length := by simp; omega
    have e2 : (p ++ [c]).length = p.length + 1 := by simp
    rw [e1, e2] at ih
    rw [show p ++ (c :: l) = p ++ ([c] ++ l) from rfl, ih, bgN, bgs, List.append_assoc]
    congr 1
    congr 1
    have hiff : (false = true ∨ p.length = 0 ∨ (p ++ ([c] ++ l))[p.length - 1]? = some 10) ↔ nl = true := by
      rw [h]
      constructor
      · rintro (h | h | h)
        · cases h
        · exact .inl (List.eq_nil_of_length_eq_zero h)
        · by_cases hp : p.length = 0
          · exact .inl (List.eq_nil_of_length_eq_zero hp)
          · right
            rw [List.getElem?_append_left (by omega)] at h
            rw [List.getLast?_eq_getElem?]; exact h
      · rintro (h | h)
        · subst h; exact .inr (.inl rfl)
        · have hp : p ≠ [] := by intro e; subst e; simp at h
          have hp2 : 0 < p.length := List.length_pos_iff.2 hp
          refine .inr (.inr ?_)
          rw [List.getElem?_append_left (by omega)]
          rw [List.getLast?_eq_getElem?] at h; exact h
    by_cases hnl : nl = true
    · rw [if_pos (hiff.2 hnl), if_pos hnl]
    · rw [if_neg (fun h => hnl (hiff.1 h)), if_neg hnl]
theorem bgN_lines (l : List UInt8) : bgN false l l.length = sts 0 (uts [] l) := by
  have h := bgN_bgs l [] true (by simp)
  simp [bgN] at h
  rw [h, (bgs_uts l 0).1]
/-- the pieces that a part is counted in -/
def pcs (by_ : Bool) (l : List UInt8) : List (List UInt8) := if by_ then l.map fun c => [c] else uts [] l
theorem flat_single : ∀ l : List UInt8, (l.map fun c => [c]).flatten = l
  | [] => rfl
  | c :: l => by simp [flat_single l]
theorem pcs_flat (by_ : Bool) (l : List UInt8) : (pcs by_ l).flatten = l := by
  unfold pcs
  split
  · exact flat_single l
  · rw [uts_flat]; rfl
theorem sts_single : ∀ (l : List UInt8) (b : Nat), sts b (l.map fun c => [c]) = (List.range l.length).map (b + ·)
  | [], _ => rfl
  | c :: l, b => by
    have ih := sts_single l (b + 1)
    have e : (List.range (c :: l).length).map (b + ·) = b :: (List.range l.length).map (b + 1 + ·) := by
      rw [show (c :: l).length = l.length + 1 from rfl, List.range_succ_eq_map, List.map_cons, List.map_map]
      congr 1
      exact List.map_congr_left fun a _ => by simp; omega
    rw [e, ← ih]; rfl
theorem bgN_pcs (by_ : Bool) (l : List UInt8) : bgN by_ l l.length = sts 0 (pcs by_ l) := by
  unfold pcs
  cases by_
  · exact bgN_lines l
  · rw [bgN_true, if_pos rfl, sts_single]; simp
/-- place k of the pieces -/
def plc (us : List (List UInt8)) (k : Nat) : Nat := (us.take k).flatten.length
theorem plc_over {us : List (List UInt8)} {k : Nat} (h : us.length ≤ k) : plc us k = us.flatten.length := by unfold plc; rw [List.take_of_length_le h]
theorem flat_parts (us : List (List UInt8)) (k : Nat) : us.flatten = (us.take k).flatten ++ (us.drop k).flatten := by rw [← List.flatten_append, List.take_append_drop]
theorem plc_take (us : List (List UInt8)) (k : Nat) : us.flatten.take (plc us k) = (us.take k).flatten := by
  rw [flat_parts us k]
  unfold plc
  rw [List.take_left]
theorem plc_drop (us : List (List UInt8)) (k : Nat) : us.flatten.drop (plc us k) = (us.drop k).flatten := by
  rw [flat_parts us k]
  unfold plc
  rw [List.drop_left]
theorem plc_le (us : List (List UInt8)) (k : Nat) : plc us k ≤ us.flatten.length := by
  rw [flat_parts us k, List.length_append]; unfold plc; omega
end Go.Pw
