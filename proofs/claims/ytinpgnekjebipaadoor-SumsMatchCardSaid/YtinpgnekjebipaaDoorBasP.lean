/- The digits of numbers in a base: plain. -/
import Derived.Test.YtinpgnekjebipaaDoorMem
import Derived.Lib.ItoaNum
set_option linter.unusedVariables false
namespace Go.Pw
open Go.RowKit
/-- a digit's small letter -/
def dgc (d : Nat) : UInt8 := if d < 10 then UInt8.ofNat (48 + d) else UInt8.ofNat (87 + d)
/-- the digits of a number in a base -/
def basP (b u : Nat) : List UInt8 :=
  if h : u < b ∨ b < 2 then [dgc u] else basP b (u / b) ++ [dgc (u % b)]
termination_by u
decreasing_by exact Nat.div_lt_self (by omega) (by omega)
theorem basP_small {b u : Nat} (h : u < b) : basP b u = [dgc u] := by rw [basP, dif_pos (.inl h)]
theorem basP_big {b u : Nat} (hb : 2 ≤ b) (h : ¬ u < b) : basP b u = basP b (u / b) ++ [dgc (u % b)] := by rw [basP, dif_neg (by omega)]
theorem basP_ten (u : Nat) : basP 10 u = Lib.decDigits u := by
  induction u using Nat.strongRecOn with
  | _ u ih =>
    by_cases h : u < 10
    · rw [basP_small h, Lib.decDigits, dif_pos h]; unfold dgc; rw [if_pos h]
    · rw [basP_big (by omega) h, Lib.decDigits, dif_neg h, ih (u / 10) (by omega)]
      unfold dgc; rw [if_pos (by omega)]
theorem basP_ne (b u : Nat) : basP b u ≠ [] := by
  rw [basP]; split <;> simp
theorem basP_len {b : Nat} (hb : 2 ≤ b) : ∀ (n u : Nat), u < b ^ (n + 1) → (basP b u).length ≤ n + 1
  | 0, u, h => by rw [basP_small (by simpa using h)]; simp
  | n + 1, u, h => by
    by_cases hs : u < b
    · rw [basP_small hs]; simp
    · rw [basP_big hb hs, List.length_append, List.length_singleton]
      have h2 : u / b < b ^ (n + 1) := by
        rw [Nat.div_lt_iff_lt_mul (by omega)]
        rw [Nat.pow_succ] at h; exact h
      have := basP_len hb n (u / b) h2
      omega
theorem dgc_lt {d : Nat} (h : d < 16) : (dgc d).toNat < 128 := by
  have : ∀ d : Fin 16, (dgc d.val).toNat < 128 := by decide
  exact this ⟨d, h⟩
theorem basP_ascii {b : Nat} (hb : 2 ≤ b) (h16 : b ≤ 16) : ∀ (n u : Nat), u ≤ n → ∀ c ∈ basP b u, c.toNat < 128 := by
  intro n
  induction n with
  | zero =>
    intro u h c hc
    rw [basP_small (by omega)] at hc
    obtain rfl := List.mem_singleton.1 hc
    exact dgc_lt (by omega)
  | succ n ih =>
    intro u h c hc
    by_cases hs : u < b
    · rw [basP_small hs] at hc
      obtain rfl := List.mem_singleton.1 hc
      exact dgc_lt (by omega)
    · rw [basP_big hb hs] at hc
      rcases List.mem_append.1 hc with hc | hc
      · refine ih (u / b) ?_ c hc
        have := Nat.div_lt_self (n := u) (k := b) (by omega) (by omega)
        omega
      · obtain rfl := List.mem_singleton.1 hc
        exact dgc_lt (by have := Nat.mod_lt u (y := b) (by omega); omega)
end Go.Pw
