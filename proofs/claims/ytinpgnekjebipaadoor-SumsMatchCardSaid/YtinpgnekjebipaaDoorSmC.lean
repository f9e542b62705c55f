/- Sums: hexadecimal digits, the sum by remainders, Adler's sum: plain. -/
import Derived.Test.YtinpgnekjebipaaDoorBasP
set_option linter.unusedVariables false
namespace Go.Pw
open Go.RowKit
/-- so many hexadecimal digits -/
def hexN : Nat → Nat → List UInt8
  | 0, _ => []
  | k + 1, v => hexN k (v / 16) ++ [dgc (v % 16)]
theorem hexN_len : ∀ k v, (hexN k v).length = k
  | 0, _ => rfl
  | k + 1, v => by rw [hexN, List.length_append, hexN_len k]; rfl
theorem hexN_zero : ∀ k, hexN k 0 = List.replicate k 48
  | 0 => rfl
  | k + 1 => by
    rw [hexN, Nat.zero_div, hexN_zero k, List.replicate_succ', Nat.zero_mod]; rfl
theorem hexN_add : ∀ (k j b a : Nat), a < 16 ^ k → hexN (j + k) (b * 16 ^ k + a) = hexN j b ++ hexN k a
  | 0, j, b, a, h => by
    have : a = 0 := by simpa using h
    subst this
    simp [hexN]
  | k + 1, j, b, a, h => by
    rw [Nat.pow_succ] at h
    have e1 : (b * 16 ^ (k + 1) + a) / 16 = b * 16 ^ k + a / 16 := by
      rw [Nat.pow_succ, ← Nat.mul_assoc, Nat.mul_comm (b * 16 ^ k) 16, Nat.mul_add_div (by omega)]
    have e2 : (b * 16 ^ (k + 1) + a) % 16 = a % 16 := by
      rw [Nat.pow_succ, ← Nat.mul_assoc, Nat.mul_comm (b * 16 ^ k) 16, Nat.mul_add_mod]
    rw [← Nat.add_assoc, hexN, e1, e2, hexN_add k j b (a / 16) (by omega), hexN, List.append_assoc]
/-- digits with zeros ahead -/
theorem hexN_pad : ∀ (k v : Nat), v < 16 ^ (k + 1) → List.replicate (k + 1 - (basP 16 v).length) 48 ++ basP 16 v = hexN (k + 1) v
  | 0, v, h => by
    have hv : v < 16 := by simpa using h
    rw [basP_small hv, hexN, hexN]
    simp [Nat.mod_eq_of_lt hv]
  | k + 1, v, h => by
    by_cases hv : v < 16
    · rw [basP_small hv, hexN, Nat.div_eq_of_lt hv, hexN_zero, Nat.mod_eq_of_lt hv]; simp
    · have h2 : v / 16 < 16 ^ (k + 1) := by
        rw [Nat.pow_succ] at h; omega
      have ih := hexN_pad k (v / 16) h2
      rw [basP_big (by omega) hv, hexN, ← ih, List.length_append, List.length_singleton, Nat.add_sub_add_right, List.append_assoc]
/-- a step of the sum by remainders -/
def crcB (n : BitVec 32) : BitVec 32 := (n >>> 1) ^^^ (if n.getLsbD 0 then 0xEDB88320#32 else 0#32)
theorem crcB_xor (a b : BitVec 32) : crcB (a ^^^ b) = crcB a ^^^ crcB b := by
  unfold crcB
  rw [BitVec.ushiftRight_xor_distrib, BitVec.getLsbD_xor]
  generalize a >>> 1 = x
  generalize b >>> 1 = y
  cases a.getLsbD 0 <;> cases b.getLsbD 0 <;> simp
  · ac_rfl
  · ac_rfl
  · rw [show x ^^^ 0xEDB88320#32 ^^^ (y ^^^ 0xEDB88320#32) = (x ^^^ y) ^^^ (0xEDB88320#32 ^^^ 0xEDB88320#32) by ac_rfl]; simp
def crcR : Nat → BitVec 32 → BitVec 32
  | 0, n => n
  | k + 1, n => crcR k (crcB n)
theorem crcR_xor : ∀ (k : Nat) (a b : BitVec 32), crcR k (a ^^^ b) = crcR k a ^^^ crcR k b
  | 0, _, _ => rfl
  | k + 1, a, b => by rw [crcR, crcB_xor, crcR_xor k]; rfl
theorem crcR_next : ∀ (k : Nat) (n : BitVec 32), crcR (k + 1) n = crcB (crcR k n)
  | 0, _ => rfl
  | k + 1, n => by rw [crcR, crcR_next k (crcB n)]; rfl
theorem crcR_low : ∀ (k : Nat) (n : BitVec 32), (∀ i, i < k → n.getLsbD i = false) → crcR k n = n >>> k
  | 0, n, _ => by simp [crcR]
  | k + 1, n, h => by
    rw [crcR, show crcB n = n >>> 1 from ?_, crcR_low k (n >>> 1) (fun i hi => ?_)]
    · rw [Nat.add_comm k 1, BitVec.shiftRight_add]
    · rw [BitVec.getLsbD_ushiftRight]; exact h _ (by omega)
    · unfold crcB; rw [h 0 (by omega)]; simp
/-- a byte by a table is eight steps -/
theorem crc_table (n c : BitVec 32) (hc : ∀ i, 8 ≤ i → c.getLsbD i = false) : crcR 8 (n ^^^ c) = crcR 8 ((n ^^^ c) &&& 0xFF#32) ^^^ n >>> 8 := by
  have e : n ^^^ c = ((n ^^^ c) &&& 0xFF#32) ^^^ ((n ^^^ c) &&& ~~~0xFF#32) := by
    ext i hi
    simp only [BitVec.getElem_xor, BitVec.getElem_and, BitVec.getElem_not]
    cases (n[i] ^^ c[i]) <;> cases (0xFF#32)[i] <;> rfl
  conv => lhs; rw [e]
  rw [crcR_xor]
  congr 1
  rw [crcR_low 8]
  · ext i hi
    simp only [BitVec.getElem_ushiftRight, BitVec.getLsbD_and, BitVec.getLsbD_xor, BitVec.getLsbD_not]
    rw [hc (8 + i) (by omega)]
    have : (0xFF#32).getLsbD (8 + i) = false := by
      have : ∀ j : Fin 24, (0xFF#32).getLsbD (8 + j.val) = false := by decide
      by_cases h : i < 24
      · exact this ⟨i, h⟩
      · exact BitVec.getLsbD_of_ge _ _ (by omega)
    rw [this]
    by_cases h : 8 + i < 32
    · simp [h]
    · simp [h, BitVec.getLsbD_of_ge n (8 + i) (by omega)]
  · intro i hi
    rw [BitVec.getLsbD_and, BitVec.getLsbD_not]
    have : (0xFF#32).getLsbD i = true := by
      have : ∀ j : Fin 8, (0xFF#32).getLsbD j.val = true := by decide
      exact this ⟨i, hi⟩
    rw [this]; simp
/-- the sum by remainders, so far -/
def crcL : BitVec 32 → List UInt8 → BitVec 32
  | n, [] => n
  | n, c :: l => crcL (crcR 8 (n ^^^ BitVec.ofNat 32 c.toNat)) l
theorem crcL_snoc (c : UInt8) : ∀ (l : List UInt8) (n : BitVec 32), crcL n (l ++ [c]) = crcR 8 (crcL n l ^^^ BitVec.ofNat 32 c.toNat)
  | [], _ => rfl
  | d :: l, n => by rw [List.cons_append, crcL, crcL_snoc c l]; rfl
theorem byte_high (c : UInt8) : ∀ i, 8 ≤ i → (BitVec.ofNat 32 c.toNat).getLsbD i = false := fun i hi => by
  rw [BitVec.getLsbD_ofNat]
  have := c.toNat_lt
  rw [Nat.testBit_lt_two_pow (Nat.lt_of_lt_of_le this (Nat.pow_le_pow_right (by omega) hi))]
  simp
/-- the sum of bytes -/
def addL (l : List UInt8) : Nat := l.foldl (fun n c => (n + c.toNat) % 4294967296) 0
/-- Adler's sum -/
def adl (l : List UInt8) : Nat × Nat := l.foldl (fun p c => ((p.1 + c.toNat) % 65521, (p.2 + (p.1 + c.toNat) % 65521) % 65521)) (1, 0)
theorem foldl_snoc {α β : Type} (f : α → β → α) (a : α) (l : List β) (x : β) : (l ++ [x]).foldl f a = f (l.foldl f a) x := by rw [List.foldl_append]; rfl
theorem adl_snoc (l : List UInt8) (c : UInt8) : adl (l ++ [c]) = (((adl l).1 + c.toNat) % 65521, ((adl l).2 + ((adl l).1 + c.toNat) % 65521) % 65521) := foldl_snoc _ _ _ _
theorem addL_snoc (l : List UInt8) (c : UInt8) : addL (l ++ [c]) = (addL l + c.toNat) % 4294967296 := foldl_snoc _ _ _ _
theorem snoc_induction {P : List UInt8 → Prop} (h0 : P []) (h1 : ∀ l c, P l → P (l ++ [c])) (l : List UInt8) : P l := by
  have : ∀ n (l : List UInt8), l.length = n → P l := by
    intro n
    induction n with
    | zero => intro l h; obtain rfl := List.eq_nil_of_length_eq_zero h; exact h0
    | succ n ih =>
      intro l h
      have hne : l ≠ [] := by intro e; subst e; simp at h
      rw [← List.dropLast_concat_getLast hne]
      exact h1 _ _ (ih _ (by rw [List.length_dropLast]; omega))
  exact this _ l rfl
theorem adl_lt (l : List UInt8) : (adl l).1 < 65521 ∧ (adl l).2 < 65521 := by
  refine snoc_induction (P := fun l => (adl l).1 < 65521 ∧ (adl l).2 < 65521) (by decide) (fun l c ih => ?_) l
  rw [adl_snoc]
  exact ⟨Nat.mod_lt _ (by omega), Nat.mod_lt _ (by omega)⟩
theorem addL_lt (l : List UInt8) : addL l < 4294967296 := by
  refine snoc_induction (P := fun l => addL l < 4294967296) (by decide) (fun l c ih => ?_) l
  rw [addL_snoc]
  exact Nat.mod_lt _ (by omega)
theorem adl_hex (l : List UInt8) : hexN 8 ((adl l).2 * 65536 + (adl l).1) = hexN 4 (adl l).2 ++ hexN 4 (adl l).1 :=
  hexN_add 4 4 _ _ (by have := (adl_lt l).1; omega)
end Go.Pw
