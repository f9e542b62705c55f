/- A time is written by a format: plain: the parts of a format, and what a directive tells. -/
import Derived.Test.YtifpmigghplmoaaGreatDoorNumbP
import Derived.Test.YtifpmigghplmoaaGreatDoorDatesY
set_option linter.unusedVariables false
namespace Go.Pw
open Go.RowKit
/-- the letters of directives -/
def dLetters : List UInt8 := [89, 121, 109, 100, 72, 77, 83, 106, 101, 117, 97, 98, 115, 70, 84, 110, 116, 37]
/-- the parts of a format: a letter and 0, or 0 and a byte -/
def dParse : List UInt8 → Option (List (UInt8 × UInt8))
  | [] => some []
  | [c] => if c = 37 then none else some [(0, c)]
  | c :: d :: r =>
    if c = 37 then (if d ∈ dLetters then (dParse r).map ((d, 0) :: ·) else none)
    else (dParse (d :: r)).map ((0, c) :: ·)
theorem dParse_nil : dParse [] = some [] := rfl
theorem dParse_byte {c : UInt8} (r : List UInt8) (h : c ≠ 37) : dParse (c :: r) = (dParse r).map ((0, c) :: ·) := by
  cases r with
  | nil => rw [dParse.eq_2, if_neg h]; rfl
  | cons d r => rw [dParse.eq_3, if_neg h]
theorem dParse_end : dParse [37] = none := by
  rw [dParse.eq_2, if_pos rfl]
theorem dParse_no {d : UInt8} (r : List UInt8) (h : d ∉ dLetters) : dParse (37 :: d :: r) = none := by
  rw [dParse.eq_3, if_pos rfl, if_neg h]
theorem dParse_yes {d : UInt8} (r : List UInt8) (h : d ∈ dLetters) : dParse (37 :: d :: r) = (dParse r).map ((d, 0) :: ·) := by
  rw [dParse.eq_3, if_pos rfl, if_pos h]
/-- where the reading of a format stands -/
def DAtI (l : List UInt8) (i : Nat) (acc : List (UInt8 × UInt8)) : Prop := i ≤ l.length ∧ acc.length ≤ i ∧ dParse l = (dParse (l.drop i)).map (acc ++ ·)
theorem DAtI.start (l : List UInt8) : DAtI l 0 [] := ⟨Nat.zero_le _, Nat.le_refl _, by simp⟩
theorem map_app (acc : List (UInt8 × UInt8)) (p : UInt8 × UInt8) (o : Option (List (UInt8 × UInt8))) : (o.map (p :: ·)).map (acc ++ ·) = o.map ((acc ++ [p]) ++ ·) := by
  cases o <;> simp
theorem DAtI.byte {l : List UInt8} {i : Nat} {acc : List (UInt8 × UInt8)} (h : DAtI l i acc) (hi : i < l.length) (hc : l[i] ≠ 37) : DAtI l (i + 1) (acc ++ [(0, l[i])]) := by
  obtain ⟨h1, h2, h3⟩ := h
  refine ⟨by omega, by simp; omega, ?_⟩
  rw [h3, List.drop_eq_getElem_cons hi, dParse_byte _ hc, map_app]
theorem DAtI.yes {l : List UInt8} {i : Nat} {acc : List (UInt8 × UInt8)} (h : DAtI l i acc) (hi : i + 1 < l.length) (hc : l[i] = 37) (hd : l[i + 1] ∈ dLetters) : DAtI l (i + 2) (acc ++ [(l[i + 1], 0)]) := by
  obtain ⟨h1, h2, h3⟩ := h
  refine ⟨by omega, by simp; omega, ?_⟩
  rw [h3, List.drop_eq_getElem_cons (show i < l.length by omega), List.drop_eq_getElem_cons hi, hc, dParse_yes _ hd, map_app]
theorem DAtI.no {l : List UInt8} {i : Nat} {acc : List (UInt8 × UInt8)} (h : DAtI l i acc) (hi : i + 1 < l.length) (hc : l[i] = 37) (hd : l[i + 1] ∉ dLetters) : dParse l = none := by
  obtain ⟨h1, h2, h3⟩ := h
  rw [h3, List.drop_eq_getElem_cons (show i < l.length by omega), List.drop_eq_getElem_cons hi, hc, dParse_no _ hd]; rfl
theorem DAtI.last {l : List UInt8} {i : Nat} {acc : List (UInt8 × UInt8)} (h : DAtI l i acc) (hi : i + 1 = l.length) (hc : l[i]'(by omega) = 37) : dParse l = none := by
  obtain ⟨h1, h2, h3⟩ := h
  rw [h3, List.drop_eq_getElem_cons (show i < l.length by omega), List.drop_eq_nil_of_le (by omega), hc, dParse_end]; rfl
theorem DAtI.done {l : List UInt8} {i : Nat} {acc : List (UInt8 × UInt8)} (h : DAtI l i acc) (hi : l.length ≤ i) : dParse l = some acc := by
  obtain ⟨h1, h2, h3⟩ := h
  rw [h3, List.drop_eq_nil_of_le hi, dParse_nil]; simp
/-- each part has a letter of a directive, or none -/
theorem dParse_letters : ∀ (n : Nat) (l : List UInt8), l.length ≤ n → ∀ ps, dParse l = some ps → ∀ p ∈ ps, (p.1 = 0 ∨ (p.1 ∈ dLetters ∧ p.1 ≠ 0)) := by
  intro n
  induction n with
  | zero =>
    intro l hl ps h
    obtain rfl : l = [] := List.eq_nil_of_length_eq_zero (by omega)
    rw [dParse_nil] at h
    obtain rfl := Option.some.inj h
    simp
  | succ n ih =>
    intro l hl ps h
    match l, hl, h with
    | [], hl, h =>
      rw [dParse_nil] at h
      obtain rfl := Option.some.inj h
      simp
    | c :: r, hl, h =>
      by_cases hc : c = 37
      · subst hc
        match r, hl, h with
        | [], hl, h => rw [dParse_end] at h; cases h
        | d :: r', hl, h =>
          by_cases hd : d ∈ dLetters
          · rw [dParse_yes _ hd] at h
            obtain ⟨qs, hq, rfl⟩ := Option.map_eq_some_iff.1 h
            intro p hp
            rcases List.mem_cons.1 hp with rfl | hp
            · refine .inr ⟨hd, ?_⟩
              intro e
              simp only at e
              subst e
              revert hd; decide
            · exact ih r' (by simp at hl; omega) qs hq p hp
          · rw [dParse_no _ hd] at h; cases h
      · rw [dParse_byte _ hc] at h
        obtain ⟨qs, hq, rfl⟩ := Option.map_eq_some_iff.1 h
        intro p hp
        rcases List.mem_cons.1 hp with rfl | hp
        · exact .inl rfl
        · exact ih r (by simp at hl; omega) qs hq p hp

theorem dParse_len : ∀ (n : Nat) (l : List UInt8), l.length ≤ n → ∀ ps, dParse l = some ps → ps.length ≤ l.length := by
  intro n
  induction n with
  | zero =>
    intro l hl ps h
    obtain rfl : l = [] := List.eq_nil_of_length_eq_zero (by omega)
    rw [dParse_nil] at h
    obtain rfl := Option.some.inj h
    simp
  | succ n ih =>
    intro l hl ps h
    match l, hl, h with
    | [], hl, h =>
      rw [dParse_nil] at h
      obtain rfl := Option.some.inj h
      simp
    | c :: r, hl, h =>
      by_cases hc : c = 37
      · subst hc
        match r, hl, h with
        | [], hl, h => rw [dParse_end] at h; cases h
        | d :: r', hl, h =>
          by_cases hd : d ∈ dLetters
          · rw [dParse_yes _ hd] at h
            obtain ⟨qs, hq, rfl⟩ := Option.map_eq_some_iff.1 h
            have := ih r' (by simp at hl; omega) qs hq
            simp only [List.length_cons]; omega
          · rw [dParse_no _ hd] at h; cases h
      · rw [dParse_byte _ hc] at h
        obtain ⟨qs, hq, rfl⟩ := Option.map_eq_some_iff.1 h
        have := ih r (by simp at hl; omega) qs hq
        simp only [List.length_cons]; omega

/-- a time in its parts -/
structure DMo where
  y : Int
  m : Int
  d : Int
  h : Int
  mi : Int
  s : Int
  wk : Int
  day : Int
  t : Int
def dNames : List (List UInt8) := [[77, 111, 110], [84, 117, 101], [87, 101, 100], [84, 104, 117], [70, 114, 105], [83, 97, 116], [83, 117, 110]]
def mNames : List (List UInt8) := [[74, 97, 110], [70, 101, 98], [77, 97, 114], [65, 112, 114], [77, 97, 121], [74, 117, 110], [74, 117, 108], [65, 117, 103], [83, 101, 112], [79, 99, 116], [78, 111, 118], [68, 101, 99]]
/-- what a directive tells -/
def dTold (x : DMo) (c : UInt8) : List UInt8 :=
  if c = 89 then fillN x.y 4 true else
  if c = 121 then fillN (x.y % 100) 2 true else
  if c = 109 then fillN x.m 2 true else
  if c = 100 then fillN x.d 2 true else
  if c = 72 then fillN x.h 2 true else
  if c = 77 then fillN x.mi 2 true else
  if c = 83 then fillN x.s 2 true else
  if c = 106 then fillN x.day 3 true else
  if c = 101 then fillN x.d 2 false else
  if c = 117 then Lib.itoa x.wk else
  if c = 97 then dNames.getD (x.wk - 1).toNat [] else
  if c = 98 then mNames.getD (x.m - 1).toNat [] else
  if c = 115 then Lib.itoa x.t else
  if c = 70 then fillN x.y 4 true ++ 45 :: (fillN x.m 2 true ++ 45 :: fillN x.d 2 true) else
  if c = 84 then fillN x.h 2 true ++ 58 :: (fillN x.mi 2 true ++ 58 :: fillN x.s 2 true) else
  if c = 110 then [10] else
  if c = 116 then [9] else [37]
/-- the parts lie where a time's parts lie -/
def DMo.good (x : DMo) : Prop := (0 ≤ x.y ∧ x.y ≤ 9999) ∧ (1 ≤ x.m ∧ x.m ≤ 12) ∧ (0 ≤ x.d ∧ x.d ≤ 31) ∧ (0 ≤ x.h ∧ x.h ≤ 23) ∧ (0 ≤ x.mi ∧ x.mi ≤ 59) ∧ (0 ≤ x.s ∧ x.s ≤ 59) ∧ (1 ≤ x.wk ∧ x.wk ≤ 7) ∧ (0 ≤ x.day ∧ x.day ≤ 366) ∧ (-9223372036854775808 ≤ x.t ∧ x.t ≤ 9223372036854775807)
/-- the parts of a time on a day with a number, with so many seconds -/
def dMo (n r t y m d : Int) : DMo := ⟨y, m, d, r / 3600, r / 60 % 60, r % 60, (n + 3) % 7 + 1, n + 719162 - yb y + 1, t⟩
theorem Civ.good {n y d r t : Int} {m : Nat} (h : Civ n y m d) (hr : 0 ≤ r ∧ r < 86400) (ht : -9223372036854775808 ≤ t ∧ t ≤ 9223372036854775807) : (dMo n r t y m d).good := by
  obtain ⟨a1, a2, a3, a4, a5, a6, a7, a8, a9⟩ := h
  obtain ⟨r1, r2⟩ := hr
  have hc : cum y m - cum y (m - 1) ≤ 31 := by
    have := cum_step y m a5
    have := (mdays_pos y m).2
    omega
  have hb := yb_succ y a1
  have hl := lp_01 y
  unfold DMo.good dMo
  simp only
  refine ⟨⟨by omega, by omega⟩, ⟨by omega, by omega⟩, ⟨by omega, by omega⟩, ⟨by omega, by omega⟩, ⟨by omega, by omega⟩, ⟨by omega, by omega⟩, ⟨by omega, by omega⟩, ⟨by omega, by omega⟩, ht⟩
theorem fillN_len2 {n : Int} {w : Nat} {z : Bool} (h0 : -9223372036854775808 ≤ n) (h1 : n ≤ 9223372036854775807) (hw : w ≤ 4) : (fillN n w z).length ≤ 26 := by
  have h2 := Lib.itoa_length_le n h0 h1
  have h3 := itoa_pos_len n
  unfold fillN
  split
  · simp only [List.length_cons, List.length_append, List.length_replicate, List.length_drop]; omega
  · simp only [List.length_append, List.length_replicate]; omega
theorem dTold_len {x : DMo} (h : x.good) (c : UInt8) : (dTold x c).length ≤ 100 := by
  obtain ⟨a1, a2, a3, a4, a5, a6, a7, a8, a9⟩ := h
  have l1 := fillN_len2 (n := x.y) (w := 4) (z := true) (by omega) (by omega) (by omega)
  have l2 := fillN_len2 (n := x.y % 100) (w := 2) (z := true) (by omega) (by omega) (by omega)
  have l3 := fillN_len2 (n := x.m) (w := 2) (z := true) (by omega) (by omega) (by omega)
  have l4 := fillN_len2 (n := x.d) (w := 2) (z := true) (by omega) (by omega) (by omega)
  have l5 := fillN_len2 (n := x.h) (w := 2) (z := true) (by omega) (by omega) (by omega)
  have l6 := fillN_len2 (n := x.mi) (w := 2) (z := true) (by omega) (by omega) (by omega)
  have l7 := fillN_len2 (n := x.s) (w := 2) (z := true) (by omega) (by omega) (by omega)
  have l8 := fillN_len2 (n := x.day) (w := 3) (z := true) (by omega) (by omega) (by omega)
  have l9 := fillN_len2 (n := x.d) (w := 2) (z := false) (by omega) (by omega) (by omega)
  have m1 := Lib.itoa_length_le x.wk (by omega) (by omega)
  have m2 := Lib.itoa_length_le x.t (by omega) (by omega)
  have hn : ∀ k, (dNames.getD k []).length ≤ 3 := fun k => by
    match k with
    | 0 | 1 | 2 | 3 | 4 | 5 | 6 => decide
    | k + 7 => simp [dNames]
  have hm : ∀ k, (mNames.getD k []).length ≤ 3 := fun k => by
    match k with
    | 0 | 1 | 2 | 3 | 4 | 5 | 6 | 7 | 8 | 9 | 10 | 11 => decide
    | k + 12 => simp [mNames]
  have hn' := hn (x.wk - 1).toNat
  have hm' := hm (x.m - 1).toNat
  unfold dTold
  have key : ∀ (p : Prop) [Decidable p] (a b : List UInt8), a.length ≤ 100 → b.length ≤ 100 → (if p then a else b).length ≤ 100 := by
    intro p _ a b ha hb
    by_cases hp : p
    · rw [if_pos hp]; exact ha
    · rw [if_neg hp]; exact hb
  repeat (refine key _ _ _ (by (try simp only [List.length_append, List.length_cons, List.length_nil]); omega) ?_)
  simp only [List.length_cons, List.length_nil]; omega
/-- the text of the parts of a format -/
def dText (x : DMo) (ps : List (UInt8 × UInt8)) : List UInt8 := ps.flatMap fun p => if p.1 = 0 then [p.2] else dTold x p.1
theorem dText_snoc (x : DMo) (ps : List (UInt8 × UInt8)) (p : UInt8 × UInt8) : dText x (ps ++ [p]) = dText x ps ++ (if p.1 = 0 then [p.2] else dTold x p.1) := by
  unfold dText
  rw [List.flatMap_append]; simp
theorem dText_len {x : DMo} (h : x.good) : ∀ ps : List (UInt8 × UInt8), (dText x ps).length ≤ 100 * ps.length
  | [] => by simp [dText]
  | p :: ps => by
    have h1 := dText_len h ps
    have h2 := dTold_len h p.1
    unfold dText at *
    rw [List.flatMap_cons, List.length_append, List.length_cons]
    have : (if p.1 = 0 then [p.2] else dTold x p.1).length ≤ 100 := by split <;> simp_all
    omega
end Go.Pw
