/- Plain: the longest common subsequence's length. -/
set_option linter.unusedVariables false
set_option linter.unusedSimpArgs false
namespace Go.Pw
variable {α : Type} [DecidableEq α]

/-- how many pairs of lines can stay -/
def lcs : List α → List α → Nat
  | [], _ => 0
  | _ :: _, [] => 0
  | x :: xs, y :: ys => if x = y then lcs xs ys + 1 else max (lcs xs (y :: ys)) (lcs (x :: xs) ys)
termination_by a b => a.length + b.length

theorem lcs_nil_right (a : List α) : lcs a [] = 0 := by cases a <;> simp [lcs]
theorem lcs_nil_left (b : List α) : lcs ([] : List α) b = 0 := by simp [lcs]

/-- one line more: as many, or one more -/
theorem lcs_cons : ∀ (n : Nat) (xs ys : List α), xs.length + ys.length ≤ n → (∀ x, lcs xs ys ≤ lcs (x :: xs) ys ∧ lcs (x :: xs) ys ≤ lcs xs ys + 1) ∧ (∀ y, lcs xs ys ≤ lcs xs (y :: ys) ∧ lcs xs (y :: ys) ≤ lcs xs ys + 1)
  | 0, xs, ys, h => by
    have h1 : xs = [] := List.eq_nil_of_length_eq_zero (by omega)
    have h2 : ys = [] := List.eq_nil_of_length_eq_zero (by omega)
    subst h1 h2
    simp [lcs]
  | n + 1, xs, ys, h => by
    constructor
    · intro x
      match ys with
      | [] => simp [lcs_nil_right]
      | y :: ys =>
        have h1 := (lcs_cons n xs ys (by simp at h; omega)).1 x
        have h2 := (lcs_cons n xs ys (by simp at h; omega)).2 y
        rw [lcs]
        split
        · omega
        · omega
    · intro y
      match xs with
      | [] => simp [lcs_nil_left]
      | x :: xs =>
        have h1 := (lcs_cons n xs ys (by simp at h; omega)).1 x
        have h2 := (lcs_cons n xs ys (by simp at h; omega)).2 y
        rw [lcs]
        split
        · omega
        · omega
theorem lcs_cons_left (x : α) (xs ys : List α) : lcs xs ys ≤ lcs (x :: xs) ys ∧ lcs (x :: xs) ys ≤ lcs xs ys + 1 := (lcs_cons _ xs ys (Nat.le_refl _)).1 x
theorem lcs_cons_right (y : α) (xs ys : List α) : lcs xs ys ≤ lcs xs (y :: ys) ∧ lcs xs (y :: ys) ≤ lcs xs ys + 1 := (lcs_cons _ xs ys (Nat.le_refl _)).2 y
theorem lcs_le : ∀ (xs ys : List α), lcs xs ys ≤ xs.length
  | [], ys => by simp [lcs_nil_left]
  | x :: xs, ys => by have := (lcs_cons_left x xs ys).2; have := lcs_le xs ys; simp; omega

/-- how many pairs can stay of a from r and of b from c on -/
def ell (a b : List α) (r c : Nat) : Int := (lcs (a.drop r) (b.drop c) : Nat)
theorem ell_bd (a b : List α) (r c : Nat) : 0 ≤ ell a b r c ∧ ell a b r c ≤ a.length := by
  have := lcs_le (a.drop r) (b.drop c)
  unfold ell
  simp at this
  omega
theorem ell_eq {a b : List α} {r c : Nat} (hr : r < a.length) (hc : c < b.length) (h : a[r] = b[c]) : ell a b r c = ell a b (r + 1) (c + 1) + 1 := by
  unfold ell
  rw [List.drop_eq_getElem_cons hr, List.drop_eq_getElem_cons hc, lcs, if_pos h]
  simp
theorem ell_ne {a b : List α} {r c : Nat} (hr : r < a.length) (hc : c < b.length) (h : ¬ a[r] = b[c]) : ell a b r c = max (ell a b (r + 1) c) (ell a b r (c + 1)) := by
  unfold ell
  rw [List.drop_eq_getElem_cons hr, List.drop_eq_getElem_cons hc, lcs, if_neg h]
  omega
theorem ell_right {a b : List α} {r c : Nat} (hc : b.length ≤ c) : ell a b r c = 0 := by
  unfold ell; rw [List.drop_of_length_le hc, lcs_nil_right]; rfl
theorem ell_left {a b : List α} {r c : Nat} (hr : a.length ≤ r) : ell a b r c = 0 := by
  unfold ell; rw [List.drop_of_length_le hr, lcs_nil_left]; rfl

theorem ell_down {a b : List α} {r c : Nat} (hr : r < a.length) : ell a b (r + 1) c ≤ ell a b r c ∧ ell a b r c ≤ ell a b (r + 1) c + 1 := by
  unfold ell
  have := lcs_cons_left a[r] (a.drop (r + 1)) (b.drop c)
  rw [← List.drop_eq_getElem_cons hr] at this
  omega
theorem ell_side {a b : List α} {r c : Nat} (hc : c < b.length) : ell a b r (c + 1) ≤ ell a b r c ∧ ell a b r c ≤ ell a b r (c + 1) + 1 := by
  unfold ell
  have := lcs_cons_right b[c] (a.drop r) (b.drop (c + 1))
  rw [← List.drop_eq_getElem_cons hc] at this
  omega
theorem ell_max {a b : List α} {r c : Nat} (hr : r < a.length) (hc : c < b.length) : max (ell a b (r + 1) c) (max (ell a b r (c + 1)) (ell a b (r + 1) (c + 1) + 1)) = ell a b (r + 1) (c + 1) + 1 := by
  have h1 := (ell_side (a := a) (b := b) (r := r + 1) (c := c) hc).2
  have h2 := (ell_down (a := a) (b := b) (r := r) (c := c + 1) hr).2
  omega
/-- the table while it is filled: all behind (i, j) is there -/
def tab (a b : List α) (i j : Int) (r c : Nat) : Int := if i < r ∨ (i = r ∧ j < c) then ell a b r c else 0
theorem tab_start (a b : List α) (r c : Nat) (hr : r < a.length + 1) (hc : c < b.length + 1) : 0 = tab a b ((a.length : Int) - 1) ((b.length : Int) - 1) r c := by
  unfold tab
  split
  · rename_i h
    rcases h with h | h
    · rw [ell_left (by omega)]
    · rw [ell_right (by omega)]
  · rfl
theorem tab_row (a b : List α) (i : Int) (r c : Nat) (hc : c < b.length + 1) : tab a b i (-1) r c = tab a b (i - 1) ((b.length : Int) - 1) r c := by
  unfold tab
  by_cases h : i ≤ r
  · rw [if_pos (by omega), if_pos (by omega)]
  · rw [if_neg (by omega)]
    split
    · rw [ell_right (by omega)]
    · rfl
theorem tab_ne {a b : List α} {i j : Nat} (hr : i < a.length) (hc : j < b.length) (h : ¬ a[i] = b[j]) (r c : Nat) :
    (if r = i ∧ c = j then max (ell a b (i + 1) j) (ell a b i (j + 1)) else tab a b i j r c) = tab a b i ((j : Int) - 1) r c := by
  unfold tab
  by_cases e : r = i ∧ c = j
  · obtain ⟨rfl, rfl⟩ := e
    rw [if_pos ⟨rfl, rfl⟩, if_pos (by omega), ell_ne hr hc h]
  · rw [if_neg e]
    by_cases e2 : (i : Int) < r ∨ ((i : Int) = r ∧ (j : Int) < c)
    · rw [if_pos e2, if_pos (by omega)]
    · rw [if_neg e2, if_neg (by omega)]
theorem tab_eq {a b : List α} {i j : Nat} (hr : i < a.length) (hc : j < b.length) (h : a[i] = b[j]) (x : Int) (r c : Nat) :
    (if r = i ∧ c = j then ell a b (i + 1) (j + 1) + 1 else if r = i ∧ c = j then x else tab a b i j r c) = tab a b i ((j : Int) - 1) r c := by
  unfold tab
  by_cases e : r = i ∧ c = j
  · obtain ⟨rfl, rfl⟩ := e
    rw [if_pos ⟨rfl, rfl⟩, if_pos (by omega), ell_eq hr hc h]
  · rw [if_neg e, if_neg e]
    by_cases e2 : (i : Int) < r ∨ ((i : Int) = r ∧ (j : Int) < c)
    · rw [if_pos e2, if_pos (by omega)]
    · rw [if_neg e2, if_neg (by omega)]
theorem tab_at_down (a b : List α) (i j : Nat) : tab a b i j (i + 1) j = ell a b (i + 1) j := by unfold tab; rw [if_pos (by omega)]
theorem tab_at_right (a b : List α) (i j : Nat) : tab a b i j i (j + 1) = ell a b i (j + 1) := by unfold tab; rw [if_pos (by omega)]
theorem tab_at_both (a b : List α) (i j : Nat) : tab a b i j (i + 1) (j + 1) = ell a b (i + 1) (j + 1) := by unfold tab; rw [if_pos (by omega)]
theorem tab_done (a b : List α) (j : Int) (r c : Nat) : tab a b (-1) j r c = ell a b r c := by unfold tab; rw [if_pos (by omega)]

/-- the place of the first x, if there is one -/
def place (x : α) : List α → Option Nat
  | [] => none
  | y :: ys => if y = x then some 0 else (place x ys).map (· + 1)
theorem place_lt {x : α} : ∀ {l : List α} {n : Nat}, place x l = some n → n < l.length
  | [], n, h => by simp [place] at h
  | y :: ys, n, h => by
    simp only [place] at h
    split at h
    · simp at h; subst h; simp
    · cases hp : place x ys with
      | none => simp [hp] at h
      | some m => simp [hp] at h; have := place_lt hp; simp; omega
theorem place_at {x : α} : ∀ {l : List α} {n : Nat} (h : place x l = some n), l[n]'(place_lt h) = x
  | [], n, h => by simp [place] at h
  | y :: ys, n, h => by
    have h0 := h
    simp only [place] at h
    split at h
    · simp at h; subst h; simpa
    · cases hp : place x ys with
      | none => simp [hp] at h
      | some m =>
        simp [hp] at h
        subst h
        simpa using place_at hp

/-- the pairs of lines that stay -/
def stayL : List α → List α → Nat → Nat → List (Nat × Nat)
  | [], _, _, _ => []
  | x :: xs, bs, i, k =>
    if lcs (x :: xs) bs = 0 then [] else
    match place x bs with
    | some n => if lcs xs (bs.drop (n + 1)) + 1 = lcs (x :: xs) bs then (i, k + n) :: stayL xs (bs.drop (n + 1)) (i + 1) (k + n + 1) else stayL xs bs (i + 1) k
    | none => stayL xs bs (i + 1) k
def stayAt (a b : List α) (i k : Nat) : List (Nat × Nat) := stayL (a.drop i) (b.drop k) i k
theorem stay_end {a b : List α} {i k : Nat} (h : ¬ (i < a.length ∧ 0 < ell a b i k)) : stayAt a b i k = [] := by
  unfold stayAt
  by_cases hi : i < a.length
  · rw [List.drop_eq_getElem_cons hi, stayL, if_pos]
    rw [← List.drop_eq_getElem_cons hi]
    have : ¬ 0 < ell a b i k := fun h' => h ⟨hi, h'⟩
    unfold ell at this
    omega
  · rw [List.drop_of_length_le (by omega)]; rfl
theorem stay_take {a b : List α} {i k n : Nat} (hi : i < a.length) (h0 : 0 < ell a b i k) (hp : place a[i] (b.drop k) = some n) (he : ell a b (i + 1) (k + n + 1) + 1 = ell a b i k) :
    stayAt a b i k = (i, k + n) :: stayAt a b (i + 1) (k + n + 1) := by
  unfold stayAt
  rw [List.drop_eq_getElem_cons hi, stayL, ← List.drop_eq_getElem_cons hi]
  unfold ell at h0 he
  rw [if_neg (by omega), hp]
  simp only
  rw [List.drop_drop, if_pos (by rw [show k + (n + 1) = k + n + 1 by omega]; omega)]
  rfl
theorem stay_skip {a b : List α} {i k n : Nat} (hi : i < a.length) (h0 : 0 < ell a b i k) (hp : place a[i] (b.drop k) = some n) (he : ¬ ell a b (i + 1) (k + n + 1) + 1 = ell a b i k) :
    stayAt a b i k = stayAt a b (i + 1) k := by
  unfold stayAt
  rw [List.drop_eq_getElem_cons hi, stayL, ← List.drop_eq_getElem_cons hi]
  unfold ell at h0 he
  rw [if_neg (by omega), hp]
  simp only
  rw [List.drop_drop, if_neg (by rw [show k + (n + 1) = k + n + 1 by omega]; omega)]
theorem stay_none {a b : List α} {i k : Nat} (hi : i < a.length) (h0 : 0 < ell a b i k) (hp : place a[i] (b.drop k) = none) :
    stayAt a b i k = stayAt a b (i + 1) k := by
  unfold stayAt
  rw [List.drop_eq_getElem_cons hi, stayL, ← List.drop_eq_getElem_cons hi]
  unfold ell at h0
  rw [if_neg (by omega), hp]
end Go.Pw
