/- Cutting parts out of lines: plain. -/
import Derived.Test.YtkikbejpgfhfoaaGreatDoorTextW
import Derived.Test.YtkikbejpgfhfoaaGreatDoorJoinG
set_option linter.unusedVariables false
namespace Go.Pw
open Go.RowKit
/-- the pieces between bytes b, what has been read of the piece at hand given -/
def splC (b : UInt8) : List UInt8 → List UInt8 → List (List UInt8)
  | cur, [] => [cur]
  | cur, c :: l => if c = b then cur :: splC b [] l else splC b (cur ++ [c]) l
theorem splC_len (b : UInt8) : ∀ (l cur : List UInt8), (splC b cur l).length = l.count b + 1
  | [], cur => by simp [splC]
  | c :: l, cur => by
    rw [splC]
    by_cases h : c = b
    · subst h; simp [splC_len c l []]
    · rw [if_neg h, splC_len b l, List.count_cons_of_ne h]
theorem splC_cur (b : UInt8) : ∀ (l cur x : List UInt8), (∀ c ∈ x, c ≠ b) → splC b cur (x ++ l) = splC b (cur ++ x) l
  | l, cur, [], _ => by simp
  | l, cur, c :: x, h => by
    have hc : ¬ c = b := h c (by simp)
    rw [List.cons_append, splC, if_neg hc, splC_cur b l _ x fun d hd => h d (by simp [hd])]
    simp
theorem ixC_split (b : UInt8) : ∀ (l : List UInt8), (Lib.indexByte l b = -1 ∧ ∀ c ∈ l, c ≠ b) ∨ ∃ x y, l = x ++ b :: y ∧ Lib.indexByte l b = (x.length : Int) ∧ ∀ c ∈ x, c ≠ b
  | [] => .inl ⟨rfl, by simp⟩
  | d :: l => by
    by_cases hb : d = b
    · subst hb
      exact .inr ⟨[], l, rfl, by simp [Lib.indexByte], by simp⟩
    · rcases ixC_split b l with ⟨h1, h2⟩ | ⟨x, y, rfl, h2, h3⟩
      · refine .inl ⟨by simp [Lib.indexByte, hb, h1], ?_⟩
        intro c hc
        rcases List.mem_cons.1 hc with e | e
        · subst e; exact hb
        · exact h2 c e
      · refine .inr ⟨d :: x, y, rfl, ?_, ?_⟩
        · have : ¬ ((x.length : Int) = -1) := by omega
          simp [Lib.indexByte, hb, h2, this]
        · intro c hc
          rcases List.mem_cons.1 hc with e | e
          · subst e; exact hb
          · exact h3 c e
theorem splitK_splC (b : UInt8) : ∀ (n : Nat) (l : List UInt8), l.length ≤ n → Lib.splitK [b] 0 (Lib.count l [b]) l = splC b [] l := by
  intro n
  induction n with
  | zero =>
    intro l hl
    have : l = [] := List.eq_nil_of_length_eq_zero (by omega)
    subst this
    rw [Lib.count_one]; rfl
  | succ n ih =>
    intro l hl
    rw [Lib.count_one]
    rcases ixC_split b l with ⟨h1, h2⟩ | ⟨x, y, rfl, h2, h3⟩
    · have hc : l.count b = 0 := List.count_eq_zero.2 fun h => h2 b h rfl
      have e := splC_cur b [] [] l h2
      rw [hc, Lib.splitK]
      simp [splC] at e
      rw [e]
    · have hx : x.count b = 0 := List.count_eq_zero.2 fun h => h3 b h rfl
      have hc : (x ++ b :: y).count b = y.count b + 1 := by simp [hx]
      have hi : Lib.index (x ++ b :: y) [b] = (x.length : Int) := by rw [Lib.index_one]; exact h2
      rw [hc, Lib.splitK, hi]
      rw [if_neg (by simp), splC_cur b (b :: y) [] x h3]
      have hy := ih y (by simp at hl; omega)
      rw [Lib.count_one] at hy
      have e1 : ((x.length : Int)).toNat = x.length := by omega
      rw [e1]
      have e2 : (x ++ b :: y).drop (x.length + [b].length) = y := by
        rw [show x.length + [b].length = x.length + 1 from rfl, ← List.drop_drop, List.drop_left]; rfl
      rw [e2, hy, splC, if_pos rfl]
      simp
/-- the pieces by their places -/
theorem splC_to (line : ByteArray) (b : UInt8) : ∀ i, i ≤ line.size → splC b [] line.data.toList = ((fldTo line ⟨#[b]⟩ i).1.map fun p => (line.data.toList.take p.2).drop p.1) ++ splC b ((line.data.toList.take i).drop (fldTo line ⟨#[b]⟩ i).2) (line.data.toList.drop i)
  | 0, _ => by simp [fldTo]
  | i + 1, h => by
    have hl := len_size line
    have ih := splC_to line b i (by omega)
    obtain ⟨hf, _, _⟩ := fldTo_ok line ⟨#[b]⟩ i
    have hi : i < line.data.toList.length := by omega
    have hd : line.data.toList.drop i = line.data.toList[i] :: line.data.toList.drop (i + 1) := List.drop_eq_getElem_cons hi
    have hb : bt line i = line.data.toList[i] := by unfold bt; rw [List.getD_eq_getElem?_getD, List.getElem?_eq_getElem hi]; rfl
    have hs : bt (⟨#[b]⟩ : ByteArray) 0 = b := rfl
    have hh : fldHit line ⟨#[b]⟩ i = (line.data.toList[i] == b) := by
      unfold fldHit
      rw [if_neg (show ¬ (⟨#[b]⟩ : ByteArray).size = 0 from fun h => by cases h), hb, hs]
    rw [ih, hd, splC]
    by_cases hc : line.data.toList[i] = b
    · have e : fldTo line ⟨#[b]⟩ (i + 1) = ((fldTo line ⟨#[b]⟩ i).1 ++ [((fldTo line ⟨#[b]⟩ i).2, i)], i + 1) := by
        rw [fldTo, hh, hc, if_pos (by simp)]
        rfl
      rw [if_pos hc, e, List.map_append, List.append_assoc]
      simp
    · have e : fldTo line ⟨#[b]⟩ (i + 1) = fldTo line ⟨#[b]⟩ i := by
        rw [fldTo, hh, if_neg (by simpa using hc)]
      rw [if_neg hc, e]
      congr 2
      rw [List.take_succ_eq_append_getElem hi, List.drop_append_of_le_length (by rw [List.length_take]; omega)]
theorem splC_fld (line : ByteArray) (b : UInt8) : (fldL line ⟨#[b]⟩).map (fun p => line.extract p.1 p.2) = (splC b [] line.data.toList).map mkB := by
  have hl := len_size line
  have h := splC_to line b line.size (Nat.le_refl _)
  rw [show line.data.toList.drop line.size = [] from List.drop_of_length_le (by omega)] at h
  rw [h, List.map_append]
  unfold fldL
  rw [List.map_append, List.map_map]
  have e : ∀ p : Nat × Nat, line.extract p.1 p.2 = mkB ((line.data.toList.take p.2).drop p.1) := fun p => by
    rw [← mkB_list (line.extract p.1 p.2), Lib.extract_data, List.drop_take]
  congr 1
  · exact List.map_congr_left fun p _ => e p
  · rw [List.map_cons, List.map_nil, e]; rfl
/-- what is cut out of lines, as data -/
structure Ct where
  fields : Bool
  ranges : List (Int × Int)
  compl : Bool
  sep : ByteArray
  only : Bool
  betw : ByteArray
def rngCells : List (Int × Int) → List Value
  | [] => []
  | r :: rs => .int .i64 r.1 :: .int .i64 r.2 :: rngCells rs
theorem rngCells_len : ∀ l : List (Int × Int), (rngCells l).length = l.length * 2
  | [] => rfl
  | r :: rs => by rw [rngCells, List.length_cons, List.length_cons, rngCells_len rs, List.length_cons]; omega
theorem rngCells_at : ∀ (l : List (Int × Int)) (i : Nat) (r : Int × Int), l[i]? = some r → (rngCells l)[i * 2]? = some (.int .i64 r.1) ∧ (rngCells l)[i * 2 + 1]? = some (.int .i64 r.2)
  | [], i, r, h => by simp at h
  | q :: rs, 0, r, h => by
    simp at h
    subst h
    exact ⟨rfl, rfl⟩
  | q :: rs, i + 1, r, h => by
    have h' : rs[i]? = some r := by simpa using h
    obtain ⟨a, b⟩ := rngCells_at rs i r h'
    have e : (i + 1) * 2 = i * 2 + 1 + 1 := by omega
    rw [e, rngCells]
    exact ⟨by simpa using a, by simpa using b⟩
def rngHit (n : Int) (r : Int × Int) : Bool := decide (r.1 ≤ n) && (r.2 == 0 || decide (n ≤ r.2))
/-- is a number taken -/
def tkn (c : Ct) (n : Int) : Bool := (c.ranges.any (rngHit n)) != c.compl
def rngOk (r : Int × Int) : Bool := (decide (1 ≤ r.1) && decide (r.1 ≤ 4096)) && (r.2 == 0 || (decide (r.1 ≤ r.2) && decide (r.2 ≤ 4096)))
def nlC (s : ByteArray) : Bool := decide (0 ≤ Lib.indexByte s.data.toList 10)
def cform (c : Ct) : Bool := (((c.fields && (((c.sep.size : Int) != 1) || (c.sep.toList == [10]))) || (!c.fields && !c.sep.toList.isEmpty)) || nlC c.betw) || decide ((4096 : Int) < (c.betw.size : Int))
/-- what refuses a cut -/
def cutErr (c : Ct) : Int := if c.ranges.length = 0 then 23 else if 64 < c.ranges.length then 2 else if c.ranges.all rngOk then (if cform c then 5 else 0) else 3
/-- the bytes that are taken of the first k, and whether there were any -/
def cbTo (c : Ct) (s : ByteArray) : Nat → List UInt8 × Bool
  | 0 => ([], false)
  | k + 1 => if tkn c ((k : Int) + 1) then ((if (cbTo c s k).2 && !tkn c (k : Int) then (cbTo c s k).1 ++ c.betw.data.toList else (cbTo c s k).1) ++ [bt s k], true) else cbTo c s k
def cutBytes (c : Ct) (s : ByteArray) : ByteArray := mkB (cbTo c s s.size).1
theorem cbTo_len (c : Ct) (s : ByteArray) : ∀ k, (cbTo c s k).1.length ≤ k * (c.betw.size + 1)
  | 0 => by simp [cbTo]
  | k + 1 => by
    have ih := cbTo_len c s k
    have hl := len_size c.betw
    have e : (k + 1) * (c.betw.size + 1) = k * (c.betw.size + 1) + (c.betw.size + 1) := Nat.succ_mul _ _
    rw [cbTo]
    split
    · dsimp only
      rw [List.length_append]
      split
      · rw [List.length_append]; simp; omega
      · simp; omega
    · omega
/-- the words that are taken of the first k -/
def cwTo (c : Ct) (ws : List ByteArray) : Nat → List ByteArray
  | 0 => []
  | k + 1 => if tkn c ((k : Int) + 1) then cwTo c ws k ++ [ws.getD k ⟨#[]⟩] else cwTo c ws k
def cutWords (c : Ct) (ws : List ByteArray) : ByteArray := jnB c.betw (cwTo c ws ws.length)
theorem jnB_snoc (sep : ByteArray) (l : List ByteArray) (x : ByteArray) : jnB sep (l ++ [x]) = (if l = [] then x else jnB sep l ++ (sep ++ x)) := by
  have key : ∀ k, k ≤ l.length → jnP sep (l ++ [x]) k = jnP sep l k := by
    intro k
    induction k with
    | zero => intro _; rfl
    | succ k ih =>
      intro hk
      rw [jnP, jnP, ih (by omega)]
      congr 1
      rw [List.getD_eq_getElem?_getD, List.getD_eq_getElem?_getD, List.getElem?_append_left (by omega)]
  unfold jnB
  rw [List.length_append, List.length_singleton, jnP, key _ (Nat.le_refl _)]
  have hx : (l ++ [x]).getD l.length ⟨#[]⟩ = x := by simp
  rw [hx]
  by_cases h : l = []
  · subst h
    rw [if_pos rfl]
    show mkB ([] ++ [] ++ x.data.toList) = x
    rw [List.nil_append, List.nil_append, mkB_list]
  · have h0 : ¬ l.length = 0 := fun e => h (List.eq_nil_of_length_eq_zero e)
    rw [if_neg h, if_neg h0]
    unfold mkB
    apply ByteArray.ext
    simp
/-- a line of a cut; none: it is left out -/
def cutLine (c : Ct) (s : ByteArray) : Option ByteArray :=
  if c.fields then (if decide (0 ≤ Lib.indexByte s.data.toList (bt c.sep 0)) then some (cutWords c ((splC (bt c.sep 0) [] s.data.toList).map mkB)) else if c.only then none else some s)
  else some (cutBytes c s)
def cutLs (c : Ct) (l : List ByteArray) : List ByteArray := l.filterMap (cutLine c)
theorem cutLs_next {c : Ct} {L : List ByteArray} {k : Nat} (h : k < L.length) : cutLs c (L.take (k + 1)) = cutLs c (L.take k) ++ (cutLine c L[k]).toList := by
  unfold cutLs
  rw [List.take_succ_eq_append_getElem h, List.filterMap_append]
  congr 1
end Go.Pw
