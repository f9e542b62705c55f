/- Plain: numbers as bits, bytes out of bits. -/
import Derived.Lib.Bytealg
set_option linter.unusedVariables false
namespace Go.Pw

/-- the last n bits of v, the greatest first -/
def bitsN : Nat → Nat → List Bool
  | 0, _ => []
  | n + 1, v => bitsN n (v / 2) ++ [v % 2 == 1]
theorem bitsN_length : ∀ (n v : Nat), (bitsN n v).length = n
  | 0, _ => rfl
  | n + 1, v => by simp [bitsN, bitsN_length n]
theorem bitsN_add (m : Nat) : ∀ (n v : Nat), bitsN (m + n) v = bitsN m (v / 2 ^ n) ++ bitsN n v
  | 0, v => by simp [bitsN]
  | n + 1, v => by
    rw [show m + (n + 1) = (m + n) + 1 by omega, bitsN, bitsN_add m n, bitsN, List.append_assoc, Nat.div_div_eq_div_mul, Nat.pow_succ, Nat.mul_comm 2]
theorem bitsN_mod : ∀ (n v : Nat), bitsN n (v % 2 ^ n) = bitsN n v
  | 0, v => rfl
  | n + 1, v => by
    rw [bitsN, bitsN]
    have h1 : v % 2 ^ (n + 1) / 2 = v / 2 % 2 ^ n := by rw [Nat.pow_succ, Nat.mul_comm, Nat.mod_mul_right_div_self]
    have h2 : v % 2 ^ (n + 1) % 2 = v % 2 := by
      rw [Nat.pow_succ, Nat.mul_comm]
      exact Nat.mod_mul_right_mod v 2 (2 ^ n)
    rw [h1, h2, bitsN_mod n]

/-- the number of bits -/
def valB (l : List Bool) : Nat := l.foldl (fun a b => 2 * a + b.toNat) 0
theorem valB_snoc (l : List Bool) (b : Bool) : valB (l ++ [b]) = 2 * valB l + b.toNat := by simp [valB]
theorem valB_bitsN : ∀ (n v : Nat), v < 2 ^ n → valB (bitsN n v) = v
  | 0, v, h => by simp at h; subst h; rfl
  | n + 1, v, h => by
    rw [bitsN, valB_snoc, valB_bitsN n (v / 2) (by rw [Nat.pow_succ] at h; omega)]
    rcases Nat.mod_two_eq_zero_or_one v with e | e <;> simp [e] <;> omega

/-- the bits of bytes -/
def bitsOfBytes (l : List UInt8) : List Bool := l.flatMap fun b => bitsN 8 b.toNat
theorem bitsOfBytes_length (l : List UInt8) : (bitsOfBytes l).length = 8 * l.length := by
  induction l with
  | nil => rfl
  | cons x l ih => simp [bitsOfBytes, bitsN_length] at ih ⊢; omega
theorem bitsOfBytes_append (l m : List UInt8) : bitsOfBytes (l ++ m) = bitsOfBytes l ++ bitsOfBytes m := by simp [bitsOfBytes]

/-- bytes out of bits; what is left over is dropped -/
def bytesB : Nat → List Bool → List UInt8
  | 0, _ => []
  | k + 1, l => UInt8.ofNat (valB (l.take 8)) :: bytesB k (l.drop 8)
theorem bytesB_of (l : List UInt8) (rest : List Bool) : ∀ k, bytesB (l.length + k) (bitsOfBytes l ++ rest) = l ++ bytesB k rest := by
  intro k
  induction l with
  | nil => simp [bitsOfBytes]
  | cons x l ih =>
    have e : bitsOfBytes (x :: l) ++ rest = bitsN 8 x.toNat ++ (bitsOfBytes l ++ rest) := by simp [bitsOfBytes]
    rw [e, show (x :: l).length + k = (l.length + k) + 1 by simp; omega, bytesB]
    rw [List.take_left' (by simp [bitsN_length]), List.drop_left' (by simp [bitsN_length]), ih]
    rw [valB_bitsN 8 _ (by have := x.toNat_lt; omega)]
    simp
end Go.Pw
