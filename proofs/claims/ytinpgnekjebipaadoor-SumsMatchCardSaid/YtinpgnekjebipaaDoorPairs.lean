/- Plain: pairs of lines that stay, in order. -/
import Derived.Test.YtinpgnekjebipaaDoorLcs
set_option linter.unusedVariables false
namespace Go.Pw
variable {α : Type} [DecidableEq α]

/-- pairs that go up, from (f, t) on, below (n, m) -/
def Chain (n m : Nat) : Nat → Nat → List (Nat × Nat) → Prop
  | f, t, [] => f ≤ n ∧ t ≤ m
  | f, t, p :: ps => f ≤ p.1 ∧ t ≤ p.2 ∧ p.1 < n ∧ p.2 < m ∧ Chain n m (p.1 + 1) (p.2 + 1) ps
theorem Chain.weaken {n m f f' t t' : Nat} : ∀ {ps : List (Nat × Nat)}, Chain n m f t ps → f' ≤ f → t' ≤ t → Chain n m f' t' ps
  | [], h, h1, h2 => ⟨by have := h.1; omega, by have := h.2; omega⟩
  | p :: ps, h, h1, h2 => ⟨by have := h.1; omega, by have := h.2.1; omega, h.2.2.1, h.2.2.2.1, h.2.2.2.2⟩
theorem Chain.le {n m f t : Nat} : ∀ {ps : List (Nat × Nat)}, Chain n m f t ps → f ≤ n ∧ t ≤ m
  | [], h => h
  | p :: ps, h => ⟨by have := h.1; have := h.2.2.1; omega, by have := h.2.1; have := h.2.2.2.1; omega⟩
theorem stayL_chain (n m : Nat) : ∀ (xs ys : List α) (i k : Nat), i + xs.length = n → k + ys.length = m → Chain n m i k (stayL xs ys i k)
  | [], ys, i, k, h1, h2 => ⟨by simp at h1; omega, by omega⟩
  | x :: xs, ys, i, k, h1, h2 => by
    simp only [List.length_cons] at h1
    rw [stayL]
    split
    · exact ⟨by omega, by omega⟩
    · cases hp : place x ys with
      | none => exact (stayL_chain n m xs ys (i + 1) k (by omega) h2).weaken (by omega) (Nat.le_refl _)
      | some j =>
        have hj := place_lt hp
        simp only
        split
        · exact ⟨Nat.le_refl _, by simp, by simp; omega, by simp; omega, stayL_chain n m xs (ys.drop (j + 1)) (i + 1) (k + j + 1) (by omega) (by simp; omega)⟩
        · exact (stayL_chain n m xs ys (i + 1) k (by omega) h2).weaken (by omega) (Nat.le_refl _)
theorem stay_chain (a b : List α) : Chain a.length b.length 0 0 (stayAt a b 0 0) := stayL_chain _ _ _ _ _ _ (by simp) (by simp)
end Go.Pw
