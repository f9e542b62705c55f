/- Products, quotients and roots of natural numbers in digits: plain. -/
import Derived.Test.YtinpgnekjebipaaDoorDecP
set_option linter.unusedVariables false
namespace Go.Pw
open Go.RowKit
/-- the number of a row of numbers, at the base 10 -/
def valN : List Nat → Nat
  | [] => 0
  | c :: l => c * 10 ^ l.length + valN l
theorem valN_set : ∀ (C : List Nat) (j x c : Nat), C[j]? = some c → valN (C.set j x) + c * 10 ^ (C.length - 1 - j) = valN C + x * 10 ^ (C.length - 1 - j)
  | [], j, x, c, h => by simp at h
  | d :: C, 0, x, c, h => by
    obtain rfl : d = c := by simpa using h
    simp only [List.set_cons_zero, valN, List.length_cons, Nat.add_sub_cancel, Nat.sub_zero]
    omega
  | d :: C, j + 1, x, c, h => by
    have ih := valN_set C j x c (by simpa using h)
    have e : (d :: C).length - 1 - (j + 1) = C.length - 1 - j := by simp; omega
    rw [e, List.set_cons_succ, valN, valN, List.length_set]
    omega
theorem valN_zeros (n : Nat) : valN (List.replicate n 0) = 0 := by
  induction n with
  | zero => rfl
  | succ n ih => rw [List.replicate_succ, valN, ih]; simp
theorem valL_take_succ {A : List UInt8} {i : Nat} {a : UInt8} (h : A[i]? = some a) : valL (A.take (i + 1)) = valL (A.take i) * 10 + (a.toNat - 48) := by
  obtain ⟨hi, he⟩ := List.getElem?_eq_some_iff.1 h
  rw [List.take_succ_eq_append_getElem hi, valL_append, he]
  simp [valL]
/-- the digit at a place -/
def dgt (A : List UInt8) (i : Nat) : Nat := ((A[i]?).map fun c => c.toNat - 48).getD 0
theorem dgt_eq {A : List UInt8} {i : Nat} {a : UInt8} (h : A[i]? = some a) : dgt A i = a.toNat - 48 := by unfold dgt; rw [h]; rfl
theorem ten_split {n i : Nat} (h : i < n) : 10 ^ (n - i) = 10 * 10 ^ (n - 1 - i) := by
  rw [show n - i = (n - 1 - i) + 1 by omega, Nat.pow_succ, Nat.mul_comm]
/-- products that are added up in cells -/
structure MulAt (A B : List UInt8) (C : List Nat) (i k : Nat) : Prop where
  len : C.length = A.length + B.length
  le : ∀ c ∈ C, c ≤ 81 * (i * B.length + k)
  val : valN C = valL (A.take i) * 10 ^ (A.length - i) * valL B + dgt A i * 10 ^ (A.length - 1 - i) * (valL (B.take k) * 10 ^ (B.length - k))
theorem MulAt.start (A B : List UInt8) : MulAt A B (List.replicate (A.length + B.length) 0) 0 0 :=
  ⟨by simp, fun c hc => by rw [List.eq_of_mem_replicate hc]; omega, by rw [valN_zeros]; simp [valL]⟩
theorem MulAt.step {A B : List UInt8} {C : List Nat} {i k : Nat} (h : MulAt A B C i k) {a b : UInt8} {c : Nat} (ha : A[i]? = some a) (hb : B[k]? = some b) (hc : C[i + k + 1]? = some c) (h9 : a.toNat ≤ 57 ∧ b.toNat ≤ 57) :
    MulAt A B (C.set (i + k + 1) (c + (a.toNat - 48) * (b.toNat - 48))) i (k + 1) := by
  have hi := (List.getElem?_eq_some_iff.1 ha).1
  have hk := (List.getElem?_eq_some_iff.1 hb).1
  have hxy : (a.toNat - 48) * (b.toNat - 48) ≤ 9 * 9 := Nat.mul_le_mul (by omega) (by omega)
  have hcm : c ≤ 81 * (i * B.length + k) := h.le c (List.mem_of_getElem? hc)
  refine ⟨by rw [List.length_set]; exact h.len, fun x hx => ?_, ?_⟩
  · rcases List.mem_or_eq_of_mem_set hx with hx | rfl
    · have := h.le x hx; omega
    · omega
  · have hs := valN_set C (i + k + 1) (c + (a.toNat - 48) * (b.toNat - 48)) c hc
    rw [h.len] at hs
    have e1 : 10 ^ (A.length + B.length - 1 - (i + k + 1)) = 10 ^ (A.length - 1 - i) * 10 ^ (B.length - 1 - k) := by rw [← Nat.pow_add]; congr 1; omega
    rw [e1] at hs
    have hv := h.val
    rw [dgt_eq ha] at hv ⊢
    rw [valL_take_succ hb]
    rw [ten_split hk] at hv
    rw [show B.length - (k + 1) = B.length - 1 - k by omega]
    obtain ⟨P, hP⟩ : ∃ P, 10 ^ (A.length - 1 - i) = P := ⟨_, rfl⟩
    obtain ⟨Q, hQ⟩ : ∃ Q, 10 ^ (B.length - 1 - k) = Q := ⟨_, rfl⟩
    obtain ⟨X, hX⟩ : ∃ X, a.toNat - 48 = X := ⟨_, rfl⟩
    obtain ⟨Y, hY⟩ : ∃ Y, b.toNat - 48 = Y := ⟨_, rfl⟩
    obtain ⟨T, hT⟩ : ∃ T, valL (A.take i) * 10 ^ (A.length - i) * valL B = T := ⟨_, rfl⟩
    obtain ⟨V, hV⟩ : ∃ V, valL (B.take k) = V := ⟨_, rfl⟩
    rw [hP, hQ, hX, hY] at hs
    rw [hP, hQ, hX, hT, hV] at hv
    rw [hP, hQ, hX, hY, hT, hV]
    have e2 : (c + X * Y) * (P * Q) = c * (P * Q) + X * P * (Y * Q) := by
      rw [Nat.add_mul]; congr 1; ac_rfl
    have e3 : X * P * ((V * 10 + Y) * Q) = X * P * (V * (10 * Q)) + X * P * (Y * Q) := by
      rw [Nat.add_mul, Nat.mul_add, Nat.mul_assoc V 10 Q]
    rw [e2] at hs
    rw [e3]
    omega
theorem MulAt.next {A B : List UInt8} {C : List Nat} {i : Nat} (h : MulAt A B C i B.length) (hi : i < A.length) : MulAt A B C (i + 1) 0 := by
  refine ⟨h.len, fun c hc => by have := h.le c hc; rw [Nat.add_mul]; omega, ?_⟩
  have hv := h.val
  have ha : A[i]? = some A[i] := List.getElem?_eq_getElem hi
  rw [dgt_eq ha, List.take_length, Nat.sub_self, Nat.pow_zero, Nat.mul_one, ten_split hi] at hv
  rw [hv, valL_take_succ ha, show A.length - (i + 1) = A.length - 1 - i by omega, List.take_zero]
  simp only [valL, Nat.zero_mul, Nat.mul_zero, Nat.add_zero, Nat.add_mul]
  congr 1
  rw [← Nat.mul_assoc]
theorem MulAt.done {A B : List UInt8} {C : List Nat} (h : MulAt A B C A.length 0) : valN C = valL A * valL B := by
  have hv := h.val
  rw [List.take_length, Nat.sub_self, List.take_zero] at hv
  simpa [valL] using hv
/-- cells become digits -/
structure CarAt (C : List Nat) (O : List UInt8) (carry M n i : Nat) : Prop where
  lenC : C.length = n
  len : O.length = n
  car : carry ≤ M
  dig : DigL (O.drop i)
  val : valL (O.drop i) + carry * 10 ^ (n - i) = valN (C.drop i)
theorem CarAt.start {C : List Nat} {O : List UInt8} {M n : Nat} (hC : C.length = n) (hO : O.length = n) : CarAt C O 0 M n n := by
  refine ⟨hC, hO, Nat.zero_le _, ?_, ?_⟩
  · rw [List.drop_of_length_le (by omega)]; intro c hc; simp at hc
  · rw [List.drop_of_length_le (by omega), List.drop_of_length_le (by omega)]; simp [valL, valN]
theorem CarAt.step {C : List Nat} {O : List UInt8} {carry M n i x : Nat} (h : CarAt C O carry M n (i + 1)) (hi : i < n) (hx : C[i]? = some x) (hM : x ≤ M) {c : UInt8} (hc : c.toNat = 48 + (x + carry) % 10) : CarAt C (O.set i c) ((x + carry) / 10) M n i := by
  obtain ⟨l0, l1, l2, l3, l4⟩ := h
  obtain ⟨ix, ex⟩ := List.getElem?_eq_some_iff.1 hx
  have eO : (O.set i c).drop i = c :: O.drop (i + 1) := by
    rw [List.drop_eq_getElem_cons (by rw [List.length_set]; omega), List.getElem_set_self, List.drop_set_of_lt (by omega)]
  have eC : C.drop i = x :: C.drop (i + 1) := by rw [List.drop_eq_getElem_cons ix, ex]
  refine ⟨l0, by rw [List.length_set]; exact l1, by omega, ?_, ?_⟩
  · rw [eO]; intro y hy
    rcases List.mem_cons.1 hy with rfl | hy
    · omega
    · exact l3 y hy
  · rw [eO, eC, valL, valN, List.length_drop, List.length_drop, l1, l0, show n - i = (n - (i + 1)) + 1 by omega, Nat.pow_succ, hc, Nat.add_sub_cancel_left]
    obtain ⟨p, hp⟩ : ∃ p, 10 ^ (n - (i + 1)) = p := ⟨_, rfl⟩
    rw [hp] at l4 ⊢
    have hd : (x + carry) % 10 * p + (x + carry) / 10 * (p * 10) = x * p + carry * p := by
      rw [Nat.mul_comm p 10, ← Nat.mul_assoc, ← Nat.add_mul, ← Nat.add_mul]
      congr 1
      omega
    omega
theorem CarAt.done {C : List Nat} {O : List UInt8} {carry M n : Nat} (h : CarAt C O carry M n 0) (hlt : valN C < 10 ^ n) : DigL O ∧ valL O = valN C := by
  obtain ⟨l0, l1, l2, l3, l4⟩ := h
  simp only [List.drop_zero, Nat.sub_zero] at l3 l4
  refine ⟨l3, ?_⟩
  obtain ⟨p, hp⟩ : ∃ p, 10 ^ n = p := ⟨_, rfl⟩
  rw [hp] at hlt l4
  have : carry = 0 := by
    rcases Nat.eq_zero_or_pos carry with h | h
    · exact h
    · have : 1 * p ≤ carry * p := Nat.mul_le_mul_right _ h
      omega
  subst this
  omega
theorem mul_lt_ten {A B : List UInt8} (hA : DigL A) (hB : DigL B) : valL A * valL B < 10 ^ (A.length + B.length) := by
  rw [Nat.pow_add]
  exact Nat.mul_lt_mul'' (valL_lt A hA) (valL_lt B hB)
/-- a number is at least as large as its root -/
theorem root_le {x N p : Nat} (hp : 1 ≤ p) (h : x ^ p ≤ N) : x ≤ N := by
  refine Nat.le_trans ?_ h
  rcases Nat.eq_zero_or_pos x with h0 | h0
  · omega
  · calc x = x ^ 1 := (Nat.pow_one x).symm
      _ ≤ x ^ p := Nat.pow_le_pow_right h0 hp
end Go.Pw
