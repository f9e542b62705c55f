/- Plain: the numbers of days. -/
set_option linter.unusedVariables false
namespace Go.Pw

/-- the days of the years from 1 on ahead of a year -/
def yb (y : Int) : Int := 365 * (y - 1) + (y - 1) / 4 - (y - 1) / 100 + (y - 1) / 400
def leapB (y : Int) : Bool := decide (y % 4 = 0) && (decide (¬ y % 100 = 0) || decide (y % 400 = 0))
def lp (y : Int) : Int := if leapB y then 1 else 0
def mdays (y : Int) (m : Nat) : Int := if m = 2 then 28 + lp y else if m = 4 ∨ m = 6 ∨ m = 9 ∨ m = 11 then 30 else 31
/-- the days of the first months -/
def cum (y : Int) : Nat → Int
  | 0 => 0
  | k + 1 => cum y k + mdays y (k + 1)
theorem lp_01 (y : Int) : lp y = 0 ∨ lp y = 1 := by unfold lp; split <;> simp
theorem yb_succ (y : Int) (h : 1 ≤ y) : yb (y + 1) = yb y + 365 + lp y := by
  unfold yb lp leapB
  by_cases h4 : y % 4 = 0
  · by_cases h1 : y % 100 = 0
    · by_cases h2 : y % 400 = 0
      · simp [h4, h1, h2]; omega
      · simp [h4, h1, h2]; omega
    · simp [h4, h1]; omega
  · simp [h4]; omega
theorem yb_mono {x y : Int} (h1 : 1 ≤ x) (h : x ≤ y) : yb x ≤ yb y := by unfold yb; omega
theorem yb_lt {x y : Int} (h1 : 1 ≤ x) (h : x < y) : yb x + 365 ≤ yb y := by unfold yb; omega
theorem mdays_pos (y : Int) (m : Nat) : 28 ≤ mdays y m ∧ mdays y m ≤ 31 := by
  have := lp_01 y
  unfold mdays
  split
  · omega
  · split <;> omega
theorem cum_12 (y : Int) : cum y 12 = 365 + lp y := by
  simp [cum, mdays]; omega
theorem cum_mono (y : Int) {k n : Nat} (h : k ≤ n) : cum y k ≤ cum y n := by
  induction n with
  | zero => have : k = 0 := by omega
            subst this; exact Int.le_refl _
  | succ n ih =>
    by_cases e : k = n + 1
    · subst e; exact Int.le_refl _
    · have := ih (by omega)
      have := mdays_pos y (n + 1)
      rw [cum]; omega
/-- the number of a day that there is -/
def dn (y : Int) (m : Nat) (d : Int) : Int := yb y - 719162 + d - 1 + cum y (m - 1)
theorem yb_1970 : yb 1970 = 719162 := by decide
/-- the year of a day is one -/
theorem year_one {x y n : Int} (hx : 1 ≤ x) (hy : 1 ≤ y) (h1 : yb x ≤ n) (h2 : n < yb (x + 1)) (h3 : yb y ≤ n) (h4 : n < yb (y + 1)) : x = y := by
  rcases Int.lt_trichotomy x y with h | h | h
  · have := yb_mono (x := x + 1) (y := y) (by omega) (by omega); omega
  · exact h
  · have := yb_mono (x := y + 1) (y := x) (by omega) (by omega); omega
/-- the first guess of a year is not too late -/
theorem guess_pos {n : Int} (h : 0 ≤ n) : yb (1970 + n / 366 - 1) ≤ n + 719162 := by unfold yb; omega
theorem guess_neg {n : Int} (h : n < 0) (h1 : -719162 ≤ n) (h2 : 1 ≤ 1970 + -((-n) / 365) - 1) : yb (1970 + -((-n) / 365) - 1) ≤ n + 719162 := by unfold yb; omega
end Go.Pw
