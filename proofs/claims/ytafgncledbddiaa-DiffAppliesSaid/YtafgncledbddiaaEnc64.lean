/- Plain: texts to the base 64, as the program writes them, as the reference does, and read again. -/
import Derived.Test.YtafgncledbddiaaB64
set_option linter.unusedVariables false
namespace Go.Pw

def letter (v : Nat) : UInt8 := letters64.getD v 0
theorem letter_facts {v : Nat} (h : v < 64) : look64 (letter v) = (v : Int) ∧ ¬ letter v = 10 ∧ ¬ letter v = 61 := by
  have : ∀ x : Fin 64, look64 (letter x.val) = (x.val : Int) ∧ ¬ letter x.val = 10 ∧ ¬ letter x.val = 61 := by decide +kernel
  exact this ⟨v, h⟩

def num3 (l : List UInt8) : Nat := (l.getD 0 0).toNat * 65536 + (l.getD 1 0).toNat * 256 + (l.getD 2 0).toNat
theorem num3_lt (l : List UInt8) : num3 l < 16777216 := by
  have h1 := (l.getD 0 0).toNat_lt
  have h2 := (l.getD 1 0).toNat_lt
  have h3 := (l.getD 2 0).toNat_lt
  unfold num3
  omega
def sign (n len i : Nat) : UInt8 := if len < i then 61 else letter (n / 2 ^ (18 - 6 * i) % 64)
def encG (n len : Nat) : List UInt8 := [sign n len 0, sign n len 1, sign n len 2, sign n len 3]
def enc : List UInt8 → List UInt8
  | [] => []
  | [a] => encG (num3 [a]) 1
  | [a, b] => encG (num3 [a, b]) 2
  | a :: b :: c :: r => encG (num3 [a, b, c]) 3 ++ enc r
theorem encG_big (n len : Nat) (h : 3 ≤ len) : encG n len = encG n 3 := by
  unfold encG sign
  simp only [if_neg (show ¬ len < 0 by omega), if_neg (show ¬ len < 1 by omega), if_neg (show ¬ len < 2 by omega), if_neg (show ¬ len < 3 by omega), if_neg (show ¬ 3 < 0 by omega), if_neg (show ¬ 3 < 1 by omega), if_neg (show ¬ 3 < 2 by omega), if_neg (show ¬ 3 < 3 by omega)]
theorem enc_step : ∀ (l : List UInt8), l ≠ [] → enc l = encG (num3 l) l.length ++ enc (l.drop 3)
  | [], h => absurd rfl h
  | [a], _ => by simp [enc]
  | [a, b], _ => by simp [enc]
  | a :: b :: c :: r, _ => by
    rw [encG_big _ _ (by simp), enc]
    simp [num3]
theorem enc_length : ∀ (l : List UInt8), (enc l).length = (l.length + 2) / 3 * 4
  | [] => rfl
  | [a] => by simp [enc, encG]
  | [a, b] => by simp [enc, encG]
  | a :: b :: c :: r => by
    rw [enc, List.length_append, enc_length r]
    simp [encG]; omega

/-! read again -/
def pfold : List UInt8 → PS → Option PS
  | [], s => some s
  | c :: l, s => match pstep c s with | none => none | some s' => pfold l s'
theorem prun_of_pfold : ∀ (l : List UInt8) (s s' : PS) (i : Nat), pfold l s = some s' → prun l s i = .inr s'
  | [], s, s', i, h => by simp [pfold] at h; subst h; rfl
  | c :: l, s, s', i, h => by
    rw [pfold] at h
    rw [prun]
    cases hc : pstep c s with
    | none => rw [hc] at h; cases h
    | some t => rw [hc] at h; exact prun_of_pfold l t s' (i + 1) h
theorem pfold_append : ∀ (l m : List UInt8) (s s' : PS), pfold l s = some s' → pfold (l ++ m) s = pfold m s'
  | [], m, s, s', h => by simp [pfold] at h; subst h; rfl
  | c :: l, m, s, s', h => by
    rw [pfold] at h
    rw [List.cons_append, pfold]
    cases hc : pstep c s with
    | none => rw [hc] at h; cases h
    | some t => rw [hc] at h; exact pfold_append l m t s' h
theorem pfold_nl : ∀ (l m : List UInt8) (s : PS), pfold (l ++ 10 :: m) s = pfold (l ++ m) s
  | [], m, s => by
    rw [List.nil_append, pfold]
    simp [pstep]
  | c :: l, m, s => by
    rw [List.cons_append, List.cons_append, pfold, pfold]
    cases pstep c s with
    | none => rfl
    | some t => exact pfold_nl l m t
theorem pstep_letter {v n count : Nat} {out : List UInt8} (h : v < 64) : pstep (letter v) ⟨n, count, 0, out⟩ = some (PS.letter ⟨n, count, 0, out⟩ v) := by
  obtain ⟨h1, h2, h3⟩ := letter_facts h
  rw [pstep, if_neg h2, h1, if_pos ⟨by omega, rfl⟩]
  simp
theorem pstep_fill {n count filled : Nat} {out : List UInt8} (h : 2 ≤ count) (h1 : count + filled < 4) (h2 : n % 2 ^ (2 * (4 - count)) = 0) : pstep 61 ⟨n, count, filled, out⟩ = some ⟨n, count, filled + 1, out⟩ := by
  have e : look64 61 = -1 := by decide +kernel
  rw [pstep, if_neg (by decide), if_neg (fun h' => by have := h'.1; rw [e] at this; omega), if_pos ⟨rfl, h, h1, by simp [PS.tail0, h2]⟩]

theorem pf_letter {v n count : Nat} {out l : List UInt8} (h : v < 64) (hc : ¬ count + 1 = 4) : pfold (letter v :: l) ⟨n, count, 0, out⟩ = pfold l ⟨n * 64 + v, count + 1, 0, out⟩ := by
  rw [pfold, pstep_letter h]
  simp only [PS.letter, if_neg hc]
theorem pf_fourth {v n : Nat} {out l : List UInt8} (h : v < 64) : pfold (letter v :: l) ⟨n, 3, 0, out⟩ = pfold l ⟨0, 0, 0, out ++ bytes3 (n * 64 + v)⟩ := by
  rw [pfold, pstep_letter h]
  simp only [PS.letter, if_pos]
theorem pf_fill {n count filled : Nat} {out l : List UInt8} (h : 2 ≤ count) (h1 : count + filled < 4) (h2 : n % 2 ^ (2 * (4 - count)) = 0) : pfold (61 :: l) ⟨n, count, filled, out⟩ = pfold l ⟨n, count, filled + 1, out⟩ := by
  rw [pfold, pstep_fill h h1 h2]
theorem sign_0 (n len : Nat) : sign n len 0 = letter (n / 262144 % 64) := by rw [sign, if_neg (by omega)]
theorem sign_1 (n len : Nat) (h : 1 ≤ len) : sign n len 1 = letter (n / 4096 % 64) := by rw [sign, if_neg (by omega)]
theorem sign_2 (n len : Nat) (h : 2 ≤ len) : sign n len 2 = letter (n / 64 % 64) := by rw [sign, if_neg (by omega)]
theorem sign_3 (n len : Nat) (h : 3 ≤ len) : sign n len 3 = letter (n % 64) := by
  rw [sign, if_neg (by omega)]
  have e : n / 2 ^ (18 - 6 * 3) = n := by simp
  rw [e]
theorem sign_fill (n len i : Nat) (h : len < i) : sign n len i = 61 := by rw [sign, if_pos h]
theorem u8_ofNat_mod (x : Nat) (a : UInt8) (h : x % 256 = a.toNat) : UInt8.ofNat x = a := by
  apply UInt8.toNat_inj.1
  simpa using h
theorem m64 (x : Nat) : x % 64 < 64 := Nat.mod_lt _ (by decide)

theorem dec3 (a b c : UInt8) (out r : List UInt8) : pfold (encG (num3 [a, b, c]) 3 ++ r) ⟨0, 0, 0, out⟩ = pfold r ⟨0, 0, 0, out ++ [a, b, c]⟩ := by
  have hn := num3_lt [a, b, c]
  have hd : num3 [a, b, c] = a.toNat * 65536 + b.toNat * 256 + c.toNat := rfl
  have ha := a.toNat_lt
  have hb := b.toNat_lt
  have hc := c.toNat_lt
  generalize num3 [a, b, c] = N at *
  have e : (((0 * 64 + N / 262144 % 64) * 64 + N / 4096 % 64) * 64 + N / 64 % 64) * 64 + N % 64 = N := by omega
  rw [encG, sign_0, sign_1 _ _ (by omega), sign_2 _ _ (by omega), sign_3 _ _ (by omega)]
  simp only [List.cons_append, List.nil_append]
  rw [pf_letter (m64 _) (by omega), pf_letter (m64 _) (by omega), pf_letter (m64 _) (by omega), pf_fourth (m64 _), e, bytes3, u8_ofNat_mod _ a (by omega), u8_ofNat_mod _ b (by omega), u8_ofNat_mod _ c (by omega)]
theorem last_2 (n : Nat) (out : List UInt8) : PS.last ⟨n, 2, 2, out⟩ = out ++ [UInt8.ofNat (n / 16)] := by simp [PS.last]
theorem last_3 (n : Nat) (out : List UInt8) : PS.last ⟨n, 3, 1, out⟩ = out ++ [UInt8.ofNat (n / 1024), UInt8.ofNat (n / 4)] := by simp [PS.last]
theorem dec : ∀ (l out : List UInt8), ∃ st, pfold (enc l) ⟨0, 0, 0, out⟩ = some st ∧ (st.count + st.filled = 0 ∨ st.count + st.filled = 4) ∧ st.last = out ++ l
  | [], out => ⟨_, rfl, .inl rfl, by simp [PS.last]⟩
  | [a], out => by
    have hd : num3 [a] = a.toNat * 65536 := by simp [num3]
    have ha := a.toNat_lt
    rw [enc, hd]
    rw [encG, sign_0, sign_1 _ _ (by omega), sign_fill _ _ _ (by omega), sign_fill _ _ _ (by omega)]
    rw [pf_letter (m64 _) (by omega), pf_letter (m64 _) (by omega), pf_fill (by omega) (by omega) (by simp only [show 2 ^ (2 * (4 - (0 + 1 + 1))) = 16 from rfl]; omega), pf_fill (by omega) (by omega) (by simp only [show 2 ^ (2 * (4 - (0 + 1 + 1))) = 16 from rfl]; omega)]
    refine ⟨⟨_, 2, 2, out⟩, rfl, .inr rfl, ?_⟩
    rw [last_2, u8_ofNat_mod _ a (by omega)]
  | [a, b], out => by
    have hd : num3 [a, b] = a.toNat * 65536 + b.toNat * 256 := by simp [num3]
    have ha := a.toNat_lt
    have hb := b.toNat_lt
    rw [enc, hd]
    rw [encG, sign_0, sign_1 _ _ (by omega), sign_2 _ _ (by omega), sign_fill _ _ _ (by omega)]
    rw [pf_letter (m64 _) (by omega), pf_letter (m64 _) (by omega), pf_letter (m64 _) (by omega), pf_fill (by omega) (by omega) (by simp only [show 2 ^ (2 * (4 - (0 + 1 + 1 + 1))) = 4 from rfl]; omega)]
    refine ⟨⟨_, 3, 1, out⟩, rfl, .inr rfl, ?_⟩
    rw [last_3, u8_ofNat_mod _ a (by omega), u8_ofNat_mod _ b (by omega)]
  | a :: b :: c :: r, out => by
    rw [enc, dec3]
    obtain ⟨st, h1, h2, h3⟩ := dec r (out ++ [a, b, c])
    exact ⟨st, h1, h2, by rw [h3]; simp⟩

/-! the reference's text -/
def sixTo (B : List Bool) (i : Nat) : Nat → Nat
  | 0 => 0
  | j + 1 => 2 * sixTo B i j + (B.getD (i + j) false).toNat
def lets (k : Nat) (B : List Bool) : List UInt8 := (List.range k).map fun q => letter (sixTo B (6 * q) 6)
def pad4 (l : List UInt8) : List UInt8 := l ++ List.replicate ((4 - l.length % 4) % 4) 61
def refLetters (l : List UInt8) : List UInt8 := pad4 (lets ((8 * l.length + 5) / 6) (bitsOfBytes l))
theorem sixTo_lt (B : List Bool) (i : Nat) : ∀ j, sixTo B i j < 2 ^ j
  | 0 => by simp [sixTo]
  | j + 1 => by
    have := sixTo_lt B i j
    have h : (B.getD (i + j) false).toNat ≤ 1 := by cases B.getD (i + j) false <;> decide
    rw [sixTo, Nat.pow_succ]; omega
theorem sixTo_congr {B C : List Bool} {i k : Nat} : ∀ j, (∀ t, t < j → B.getD (i + t) false = C.getD (k + t) false) → sixTo B i j = sixTo C k j
  | 0, _ => rfl
  | j + 1, h => by rw [sixTo, sixTo, sixTo_congr j (fun t ht => h t (by omega)), h j (by omega)]
theorem lets_snoc (k : Nat) (B : List Bool) : lets (k + 1) B = lets k B ++ [letter (sixTo B (6 * k) 6)] := by simp [lets, List.range_succ]
theorem lets_add (B C : List Bool) (hB : B.length = 24) : ∀ k, lets (4 + k) (B ++ C) = lets 4 (B ++ C) ++ lets k C
  | 0 => by simp [lets]
  | k + 1 => by
    rw [show 4 + (k + 1) = (4 + k) + 1 by omega, lets_snoc (4 + k), lets_add B C hB k, lets_snoc k C, List.append_assoc]
    congr 4
    refine sixTo_congr 6 fun t ht => ?_
    rw [List.getD_eq_getElem?_getD, List.getD_eq_getElem?_getD, List.getElem?_append_right (by omega)]
    congr 2
    omega
theorem sixTo_bits (v : Nat) (C : List Bool) (i : Nat) (h : ∀ t, t < 6 → C.getD (i + t) false = (bitsN 6 v).getD t false) : sixTo C i 6 = v % 64 := by
  have e : sixTo C i 6 = sixTo (bitsN 6 v) 0 6 := sixTo_congr 6 fun t ht => by rw [h t ht]; simp
  rw [e]
  simp [sixTo, bitsN]
  have b : ∀ x : Nat, (x % 2 == 1).toNat = x % 2 := fun x => by rcases Nat.mod_two_eq_zero_or_one x with e | e <;> simp [e]
  simp only [b]
  omega
theorem getD4 (A B C D : List Bool) (hA : A.length = 6) (hB : B.length = 6) (hC : C.length = 6) {t : Nat} (ht : t < 6) :
    (A ++ (B ++ (C ++ D))).getD (6 * 0 + t) false = A.getD t false ∧ (A ++ (B ++ (C ++ D))).getD (6 * 1 + t) false = B.getD t false ∧ (A ++ (B ++ (C ++ D))).getD (6 * 2 + t) false = C.getD t false ∧ (A ++ (B ++ (C ++ D))).getD (6 * 3 + t) false = D.getD t false := by
  simp only [List.getD_eq_getElem?_getD]
  refine ⟨?_, ?_, ?_, ?_⟩
  · rw [List.getElem?_append_left (by omega)]; congr 2; omega
  · rw [List.getElem?_append_right (by omega), List.getElem?_append_left (by omega), hA]; congr 2; omega
  · rw [List.getElem?_append_right (by omega), List.getElem?_append_right (by omega), List.getElem?_append_left (by omega), hA, hB]; congr 2; omega
  · rw [List.getElem?_append_right (by omega), List.getElem?_append_right (by omega), List.getElem?_append_right (by omega), hA, hB, hC]; congr 2; omega
/-- a list of at most 24 bits, filled up by zeros, is a number of 24 bits -/
theorem lets4 (N : Nat) (C : List Bool) (k : Nat) (hk : k ≤ 4) (h : ∀ t, t < 6 * k → C.getD t false = (bitsN 24 N).getD t false) :
    lets k C = [letter (N / 262144 % 64), letter (N / 4096 % 64), letter (N / 64 % 64), letter (N % 64)].take k := by
  have s24 : bitsN 24 N = bitsN 6 (N / 262144) ++ (bitsN 6 (N / 4096) ++ (bitsN 6 (N / 64) ++ bitsN 6 N)) := by
    rw [show (24 : Nat) = 6 + 18 by rfl, bitsN_add, show (18 : Nat) = 6 + 12 by rfl, bitsN_add 6 12, show (12 : Nat) = 6 + 6 by rfl, bitsN_add 6 6]
  have G := fun t ht => getD4 (bitsN 6 (N / 262144)) (bitsN 6 (N / 4096)) (bitsN 6 (N / 64)) (bitsN 6 N) (bitsN_length _ _) (bitsN_length _ _) (bitsN_length _ _) (t := t) ht
  rw [s24] at h
  clear s24
  have f0 : 1 ≤ k → sixTo C (6 * 0) 6 = N / 262144 % 64 := fun hk => sixTo_bits _ _ _ fun t ht => by rw [h _ (by omega)]; exact (G t ht).1
  have f1 : 2 ≤ k → sixTo C (6 * 1) 6 = N / 4096 % 64 := fun hk => sixTo_bits _ _ _ fun t ht => by rw [h _ (by omega)]; exact (G t ht).2.1
  have f2 : 3 ≤ k → sixTo C (6 * 2) 6 = N / 64 % 64 := fun hk => sixTo_bits _ _ _ fun t ht => by rw [h _ (by omega)]; exact (G t ht).2.2.1
  have f3 : 4 ≤ k → sixTo C (6 * 3) 6 = N % 64 := fun hk => sixTo_bits _ _ _ fun t ht => by rw [h _ (by omega)]; exact (G t ht).2.2.2
  obtain rfl | rfl | rfl | rfl | rfl : k = 0 ∨ k = 1 ∨ k = 2 ∨ k = 3 ∨ k = 4 := by omega
  · simp [lets]
  · rw [lets_snoc, f0 (by omega)]; simp [lets]
  · rw [lets_snoc, lets_snoc, f0 (by omega), f1 (by omega)]; simp [lets]
  · rw [lets_snoc, lets_snoc, lets_snoc, f0 (by omega), f1 (by omega), f2 (by omega)]; simp [lets]
  · rw [lets_snoc, lets_snoc, lets_snoc, lets_snoc, f0 (by omega), f1 (by omega), f2 (by omega), f3 (by omega)]; simp [lets]
theorem getD_app (B : List Bool) (k t : Nat) : (B ++ List.replicate k false).getD t false = B.getD t false := by
  rw [List.getD_eq_getElem?_getD, List.getD_eq_getElem?_getD]
  by_cases h : t < B.length
  · rw [List.getElem?_append_left h]
  · rw [List.getElem?_append_right (by omega), List.getElem?_eq_none (l := B) (by omega), List.getElem?_replicate]
    split <;> rfl
theorem bits_zeros (m v : Nat) : ∀ k, bitsN m v ++ List.replicate k false = bitsN (m + k) (v * 2 ^ k)
  | 0 => by simp
  | k + 1 => by
    rw [List.replicate_succ', ← List.append_assoc, bits_zeros m v k, show m + (k + 1) = (m + k) + 1 by omega, bitsN, Nat.pow_succ, ← Nat.mul_assoc]
    congr 2
    · congr 1; omega
    · simp
theorem pad4_app (x y : List UInt8) (h : x.length = 4) : pad4 (x ++ y) = x ++ pad4 y := by
  unfold pad4
  rw [List.length_append, h, List.append_assoc, show (4 + y.length) % 4 = y.length % 4 by omega]
theorem refLetters_enc : ∀ (l : List UInt8), refLetters l = enc l
  | [] => rfl
  | [a] => by
    have hd : num3 [a] = a.toNat * 65536 := by simp [num3]
    have e : bitsOfBytes [a] = bitsN 8 a.toNat := by simp [bitsOfBytes]
    unfold refLetters
    rw [e, show (8 * [a].length + 5) / 6 = 2 by simp, lets4 (a.toNat * 65536) _ 2 (by omega) (fun t ht => by rw [← getD_app _ 16, bits_zeros]), enc, hd, encG, sign_0, sign_1 _ _ (by omega), sign_fill _ _ _ (by omega), sign_fill _ _ _ (by omega)]
    rfl
  | [a, b] => by
    have hd : num3 [a, b] = a.toNat * 65536 + b.toNat * 256 := by simp [num3]
    have hb := b.toNat_lt
    have e : bitsOfBytes [a, b] = bitsN 16 (a.toNat * 256 + b.toNat) := by
      rw [show (16 : Nat) = 8 + 8 by rfl, bitsN_add, show (2 : Nat) ^ 8 = 256 by rfl, show (a.toNat * 256 + b.toNat) / 256 = a.toNat by omega, ← bitsN_mod 8 (a.toNat * 256 + b.toNat), show (2 : Nat) ^ 8 = 256 by rfl, show (a.toNat * 256 + b.toNat) % 256 = b.toNat by omega]
      simp [bitsOfBytes]
    unfold refLetters
    rw [e, show (8 * [a, b].length + 5) / 6 = 3 by simp, lets4 ((a.toNat * 256 + b.toNat) * 256) _ 3 (by omega) (fun t ht => by rw [← getD_app _ 8, bits_zeros]), enc, hd, encG, sign_0, sign_1 _ _ (by omega), sign_2 _ _ (by omega), sign_fill _ _ _ (by omega)]
    rw [show (a.toNat * 256 + b.toNat) * 256 = a.toNat * 65536 + b.toNat * 256 by omega]
    rfl
  | a :: b :: c :: r => by
    have hd : num3 [a, b, c] = a.toNat * 65536 + b.toNat * 256 + c.toNat := rfl
    have ha := a.toNat_lt
    have hb := b.toNat_lt
    have hc := c.toNat_lt
    have e : bitsOfBytes (a :: b :: c :: r) = bitsN 24 (num3 [a, b, c]) ++ bitsOfBytes r := by
      rw [bits24 _ (num3_lt _), bytes3, u8_ofNat_mod (num3 [a, b, c] / 65536) a (by rw [hd]; omega), u8_ofNat_mod (num3 [a, b, c] / 256) b (by rw [hd]; omega), u8_ofNat_mod (num3 [a, b, c]) c (by rw [hd]; omega), ← bitsOfBytes_append]
      rfl
    unfold refLetters
    rw [e, show (8 * (a :: b :: c :: r).length + 5) / 6 = 4 + (8 * r.length + 5) / 6 by simp only [List.length_cons]; omega, lets_add _ _ (bitsN_length _ _), lets4 (num3 [a, b, c]) _ 4 (by omega) (fun t ht => by
      rw [List.getD_eq_getElem?_getD, List.getElem?_append_left (by rw [bitsN_length]; omega), List.getD_eq_getElem?_getD]), pad4_app _ _ (by rfl), enc, encG, sign_0, sign_1 _ _ (by omega), sign_2 _ _ (by omega), sign_3 _ _ (by omega)]
    have := refLetters_enc r
    unfold refLetters at this
    rw [this]
    rfl
end Go.Pw
