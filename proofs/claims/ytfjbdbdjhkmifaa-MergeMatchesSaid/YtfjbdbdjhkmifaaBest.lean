/- Plain: the first pair of lines that stay, found as the reference does. -/
import Derived.Test.YtfjbdbdjhkmifaaPairs
set_option linter.unusedVariables false
namespace Go.Pw
variable {α : Type} [DecidableEq α]

/-- the lines p of a and q of b are the same, and as many pairs stay behind them as L tells -/
def Hit (a b : List α) (L : Int) (p q : Nat) : Prop := ∃ (hp : p < a.length) (hq : q < b.length), a[p] = b[q] ∧ ell a b (p + 1) (q + 1) + 1 = L

theorem ell_mono (a b : List α) (r : Nat) : ∀ (d c : Nat), ell a b r (c + d) ≤ ell a b r c
  | 0, c => by simp
  | d + 1, c => by
    have ih := ell_mono a b r d c
    by_cases h : c + d < b.length
    · have := (ell_side (a := a) (b := b) (r := r) (c := c + d) h).1
      rw [show c + (d + 1) = c + d + 1 by omega]; omega
    · rw [ell_right (by omega)]
      have := (ell_bd a b r c).1; omega

theorem ell_none {a b : List α} {i : Nat} (hi : i < a.length) : ∀ (d k : Nat), b.length - k = d → place a[i] (b.drop k) = none → ell a b i k = ell a b (i + 1) k
  | 0, k, hd, _ => by rw [ell_right (by omega), ell_right (by omega)]
  | d + 1, k, hd, hp => by
    have hk : k < b.length := by omega
    rw [List.drop_eq_getElem_cons hk, place] at hp
    split at hp
    · cases hp
    · rename_i hne
      have hp' : place a[i] (b.drop (k + 1)) = none := by simpa using hp
      have ih := ell_none hi d (k + 1) (by omega) hp'
      rw [ell_ne hi hk (fun e => hne e.symm), ih]
      have := (ell_side (a := a) (b := b) (r := i + 1) (c := k) hk).1
      omega
theorem ell_some {a b : List α} {i : Nat} (hi : i < a.length) : ∀ (d k n : Nat), b.length - k = d → place a[i] (b.drop k) = some n → ell a b i k = max (ell a b (i + 1) k) (ell a b (i + 1) (k + n + 1) + 1)
  | 0, k, n, hd, hp => by
    have := place_lt hp
    simp at this; omega
  | d + 1, k, n, hd, hp => by
    have hk : k < b.length := by omega
    rw [List.drop_eq_getElem_cons hk, place] at hp
    split at hp
    · rename_i he
      simp at hp
      subst hp
      rw [ell_eq hi hk he.symm]
      have := (ell_side (a := a) (b := b) (r := i + 1) (c := k) hk).2
      simp only [Nat.add_zero]
      omega
    · rename_i hne
      cases hp' : place a[i] (b.drop (k + 1)) with
      | none => simp [hp'] at hp
      | some m =>
        simp [hp'] at hp
        subst hp
        have ih := ell_some hi d (k + 1) m (by omega) hp'
        rw [ell_ne hi hk (fun e => hne e.symm), ih, show k + 1 + m + 1 = k + (m + 1) + 1 by omega]
        have := (ell_side (a := a) (b := b) (r := i + 1) (c := k) hk).1
        omega
theorem place_first {x : α} : ∀ {l : List α} {n j : Nat} (h : place x l = some n) (hj : j < l.length), l[j] = x → n ≤ j
  | y :: ys, n, j, h, hj, he => by
    rw [place] at h
    split at h
    · simp at h; omega
    · rename_i hne
      cases hp : place x ys with
      | none => simp [hp] at h
      | some m =>
        simp [hp] at h
        cases j with
        | zero => exact absurd he hne
        | succ j => have := place_first hp (by simpa using hj) (by simpa using he); omega
theorem place_none {x : α} : ∀ {l : List α} {j : Nat} (h : place x l = none) (hj : j < l.length), l[j] ≠ x
  | y :: ys, j, h, hj, he => by
    rw [place] at h
    split at h
    · cases h
    · rename_i hne
      have hp : place x ys = none := by simpa using h
      cases j with
      | zero => exact hne he
      | succ j => exact place_none hp (by simpa using hj) (by simpa using he)

/-- (x, y) comes first of the pairs that are hit from (i, k) on; or there is none -/
def First (a b : List α) (L : Int) (i k : Nat) : List (Nat × Nat) → Prop
  | [] => ∀ p q, i ≤ p → k ≤ q → ¬ Hit a b L p q
  | s :: rest => Hit a b L s.1 s.2 ∧ i ≤ s.1 ∧ k ≤ s.2 ∧ (∀ p q, i ≤ p → k ≤ q → Hit a b L p q → s.1 < p ∨ (s.1 = p ∧ s.2 ≤ q)) ∧ rest = stayAt a b (s.1 + 1) (s.2 + 1)
theorem First.down {a b : List α} {L : Int} {i k : Nat} (hno : ∀ q, k ≤ q → ¬ Hit a b L i q) : ∀ {l : List (Nat × Nat)}, First a b L (i + 1) k l → First a b L i k l
  | [], h => fun p q hp hq hh => by
    by_cases e : p = i
    · subst e; exact hno q hq hh
    · exact h p q (by omega) hq hh
  | s :: rest, ⟨h1, h2, h3, h4, h5⟩ => ⟨h1, by omega, h3, fun p q hp hq hh => by
    by_cases e : p = i
    · subst e; exact absurd hh (hno q hq)
    · exact h4 p q (by omega) hq hh, h5⟩
theorem stay_first (a b : List α) : ∀ (d i k : Nat), a.length - i = d → First a b (ell a b i k) i k (stayAt a b i k)
  | d, i, k, hd => by
    by_cases hend : i < a.length ∧ 0 < ell a b i k
    · obtain ⟨hi, h0⟩ := hend
      match d, hd with
      | 0, hd => omega
      | d + 1, hd =>
      cases hp : place a[i] (b.drop k) with
      | none =>
        rw [stay_none hi h0 hp]
        have e := ell_none hi _ k rfl hp
        rw [e]
        refine First.down (fun q hq hh => ?_) (stay_first a b d (i + 1) k (by omega))
        obtain ⟨_, hq2, he, _⟩ := hh
        have := place_none hp (j := q - k) (by simp; omega)
        apply this
        rw [List.getElem_drop]
        simp only [show k + (q - k) = q by omega]
        exact he.symm
      | some n =>
        have hn := place_lt hp
        have hat := place_at hp
        rw [List.getElem_drop] at hat
        simp at hn
        have hs := ell_some hi _ k n rfl hp
        by_cases he : ell a b (i + 1) (k + n + 1) + 1 = ell a b i k
        · rw [stay_take hi h0 hp he]
          refine ⟨⟨hi, by show k + n < b.length; omega, hat.symm, he⟩, Nat.le_refl _, by show k ≤ k + n; omega, fun p q hp' hq hh => ?_, rfl⟩
          show i < p ∨ (i = p ∧ k + n ≤ q)
          by_cases e : i = p
          · right
            refine ⟨e, ?_⟩
            subst e
            obtain ⟨_, hq2, hee, _⟩ := hh
            have := place_first hp (j := q - k) (by simp; omega) (by rw [List.getElem_drop]; simp only [show k + (q - k) = q by omega]; exact hee.symm)
            omega
          · left; omega
        · rw [stay_skip hi h0 hp he]
          have e : ell a b i k = ell a b (i + 1) k := by
            rw [hs] at he ⊢
            omega
          have IH := stay_first a b d (i + 1) k (by omega)
          rw [← e] at IH
          refine First.down (fun q hq hh => ?_) IH
          obtain ⟨_, hq2, hee, hl⟩ := hh
          have h1 := place_first hp (j := q - k) (by simp; omega) (by rw [List.getElem_drop]; simp only [show k + (q - k) = q by omega]; exact hee.symm)
          have h2 := ell_mono a b (i + 1) (q - k - n) (k + n + 1)
          rw [show k + n + 1 + (q - k - n) = q + 1 by omega] at h2
          omega
    · rw [stay_end hend]
      intro p q hp hq hh
      obtain ⟨hp2, hq2, _, hl⟩ := hh
      have h1 := (ell_bd a b (p + 1) (q + 1)).1
      exact hend ⟨by omega, by omega⟩

/-- what the search holds: the first of the hits at places behind (z, u) -/
def Best (a b : List α) (L : Int) (k : Nat) (z u : Int) (x y : Nat) : Prop :=
  (x = a.length ∧ y = b.length ∧ ∀ p q : Nat, k ≤ q → (z < p ∨ (z = p ∧ u < q)) → ¬ Hit a b L p q) ∨
  (Hit a b L x y ∧ k ≤ y ∧ (z < x ∨ (z = x ∧ u < y)) ∧ ∀ p q : Nat, k ≤ q → (z < p ∨ (z = p ∧ u < q)) → Hit a b L p q → x < p ∨ (x = p ∧ y ≤ q))
theorem best_start (a b : List α) (L : Int) (k : Nat) (u : Int) : Best a b L k ((a.length : Int) - 1) u a.length b.length ∨ True := .inr trivial
theorem best_none (a b : List α) (L : Int) (k : Nat) : Best a b L k ((a.length : Int) - 1) ((b.length : Int) - 1) a.length b.length := by
  refine .inl ⟨rfl, rfl, fun p q _ h hh => ?_⟩
  obtain ⟨h1, h2, _⟩ := hh
  omega
theorem best_row {a b : List α} {L : Int} {k : Nat} {z u : Int} {x y : Nat} (h : Best a b L k z u x y) (hu : u < k) : Best a b L k (z - 1) ((b.length : Int) - 1) x y := by
  rcases h with ⟨h1, h2, h3⟩ | ⟨h1, h2, h3, h4⟩
  · refine .inl ⟨h1, h2, fun p q hq hp hh => h3 p q hq ?_ hh⟩
    obtain ⟨_, hq2, _⟩ := hh
    omega
  · refine .inr ⟨h1, h2, by omega, fun p q hq hp hh => h4 p q hq ?_ hh⟩
    obtain ⟨_, hq2, _⟩ := hh
    omega
theorem best_hit {a b : List α} {L : Int} {k : Nat} {z u : Nat} {x y : Nat} (h : Best a b L k z u x y) (hku : k ≤ u) (hh : Hit a b L z u) : Best a b L k z ((u : Int) - 1) z u := by
  refine .inr ⟨hh, hku, by omega, fun p q hq hp hh' => ?_⟩
  omega
theorem best_miss {a b : List α} {L : Int} {k : Nat} {z u : Nat} {x y : Nat} (h : Best a b L k z u x y) (hh : ¬ Hit a b L z u) : Best a b L k z ((u : Int) - 1) x y := by
  rcases h with ⟨h1, h2, h3⟩ | ⟨h1, h2, h3, h4⟩
  · refine .inl ⟨h1, h2, fun p q hq hp hh' => ?_⟩
    by_cases e : p = z ∧ q = u
    · obtain ⟨rfl, rfl⟩ := e; exact hh hh'
    · exact h3 p q hq (by omega) hh'
  · refine .inr ⟨h1, h2, by omega, fun p q hq hp hh' => ?_⟩
    by_cases e : p = z ∧ q = u
    · obtain ⟨rfl, rfl⟩ := e; exact absurd hh' hh
    · exact h4 p q hq (by omega) hh'
theorem best_done_nil {a b : List α} {i k : Nat} {x y : Nat} (h : Best a b (ell a b i k) k ((i : Int) - 1) ((b.length : Int) - 1) x y) (hs : stayAt a b i k = []) : x = a.length ∧ y = b.length := by
  have hf := stay_first a b _ i k rfl
  rw [hs] at hf
  rcases h with ⟨h1, h2, _⟩ | ⟨h1, h2, h3, _⟩
  · exact ⟨h1, h2⟩
  · obtain ⟨_, hy, _⟩ := id h1
    exact absurd h1 (hf x y (by omega) h2)
theorem best_done_cons {a b : List α} {i k : Nat} {x y : Nat} {s : Nat × Nat} {rest : List (Nat × Nat)} (h : Best a b (ell a b i k) k ((i : Int) - 1) ((b.length : Int) - 1) x y) (hs : stayAt a b i k = s :: rest) :
    x = s.1 ∧ y = s.2 ∧ rest = stayAt a b (s.1 + 1) (s.2 + 1) := by
  have hf := stay_first a b _ i k rfl
  rw [hs] at hf
  obtain ⟨f1, f2, f3, f4, f5⟩ := hf
  rcases h with ⟨h1, h2, h3⟩ | ⟨h1, h2, h3, h4⟩
  · exact absurd f1 (h3 s.1 s.2 f3 (by omega))
  · obtain ⟨_, hy, _⟩ := id h1
    have g1 := f4 x y (by omega) h2 h1
    have g2 := h4 s.1 s.2 f3 (by omega) f1
    exact ⟨by omega, by omega, f5⟩
end Go.Pw
