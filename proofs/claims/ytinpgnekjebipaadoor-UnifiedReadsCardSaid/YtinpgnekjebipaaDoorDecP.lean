/- Natural numbers as digits: plain. -/
import Derived.Test.YtinpgnekjebipaaDoorTextW
set_option linter.unusedVariables false
namespace Go.Pw
open Go.RowKit
/-- the number of a list of digits -/
def valL : List UInt8 → Nat
  | [] => 0
  | c :: l => (c.toNat - 48) * 10 ^ l.length + valL l
def DigL (l : List UInt8) : Prop := ∀ c ∈ l, 48 ≤ c.toNat ∧ c.toNat ≤ 57
/-- digits without zeros ahead -/
def Canon (l : List UInt8) : Prop := DigL l ∧ ∀ h : 0 < l.length, l[0] ≠ 48
theorem valL_append : ∀ l m : List UInt8, valL (l ++ m) = valL l * 10 ^ m.length + valL m
  | [], m => by simp [valL]
  | c :: l, m => by
    rw [List.cons_append, valL, valL, valL_append l m, List.length_append, Nat.pow_add, Nat.add_mul, Nat.mul_assoc]
    omega
theorem pow_pos10 (n : Nat) : 0 < 10 ^ n := Nat.pow_pos (by omega)
theorem valL_lt : ∀ l : List UInt8, DigL l → valL l < 10 ^ l.length
  | [], _ => by simp [valL]
  | c :: l, h => by
    have h1 := valL_lt l (fun x hx => h x (List.mem_cons_of_mem _ hx))
    have h2 := h c List.mem_cons_self
    have h3 : (c.toNat - 48) * 10 ^ l.length ≤ 9 * 10 ^ l.length := Nat.mul_le_mul_right _ (by omega)
    rw [valL, List.length_cons, Nat.pow_succ]
    omega
theorem byte_of {c d : UInt8} (h : c.toNat = d.toNat) : c = d := UInt8.toNat_inj.1 h
theorem valL_inj : ∀ l m : List UInt8, DigL l → DigL m → l.length = m.length → valL l = valL m → l = m
  | [], [], _, _, _, _ => rfl
  | [], _ :: _, _, _, h, _ => by simp at h
  | _ :: _, [], _, _, h, _ => by simp at h
  | c :: l, d :: m, h1, h2, h3, h4 => by
    have hl := valL_lt l (fun x hx => h1 x (List.mem_cons_of_mem _ hx))
    have hm := valL_lt m (fun x hx => h2 x (List.mem_cons_of_mem _ hx))
    have hc := h1 c List.mem_cons_self
    have hd := h2 d List.mem_cons_self
    have e : l.length = m.length := by simpa using h3
    rw [valL, valL, e] at h4
    rw [e] at hl
    have hp := pow_pos10 m.length
    have hcd : c.toNat - 48 = d.toNat - 48 := by
      have a1 : ((c.toNat - 48) * 10 ^ m.length + valL l) / 10 ^ m.length = c.toNat - 48 := by
        rw [Nat.mul_comm, Nat.mul_add_div hp, Nat.div_eq_of_lt hl]; rfl
      have a2 : ((d.toNat - 48) * 10 ^ m.length + valL m) / 10 ^ m.length = d.toNat - 48 := by
        rw [Nat.mul_comm, Nat.mul_add_div hp, Nat.div_eq_of_lt hm]; rfl
      rw [← a1, ← a2, h4]
    have hcd2 : c = d := byte_of (by omega)
    subst hcd2
    rw [valL_inj l m (fun x hx => h1 x (List.mem_cons_of_mem _ hx)) (fun x hx => h2 x (List.mem_cons_of_mem _ hx)) e (by omega)]
theorem valL_ge {l : List UInt8} (h : Canon l) (h0 : 0 < l.length) : 10 ^ (l.length - 1) ≤ valL l := by
  obtain ⟨h1, h2⟩ := h
  cases l with
  | nil => simp at h0
  | cons c l =>
    have hc := h1 c List.mem_cons_self
    have hz := h2 h0
    simp only [List.getElem_cons_zero] at hz
    have hne : c.toNat ≠ 48 := fun e => hz (byte_of e)
    rw [valL, List.length_cons, Nat.add_sub_cancel]
    have : 1 * 10 ^ l.length ≤ (c.toNat - 48) * 10 ^ l.length := Nat.mul_le_mul_right _ (by omega)
    omega
theorem canon_len {l m : List UInt8} (hl : Canon l) (hm : Canon m) (h : l.length < m.length) : valL l < valL m := by
  have h1 := valL_lt l hl.1
  have h2 := valL_ge hm (by omega)
  have h3 : 10 ^ l.length ≤ 10 ^ (m.length - 1) := Nat.pow_le_pow_right (by omega) (by omega)
  omega
theorem canon_inj {l m : List UInt8} (hl : Canon l) (hm : Canon m) (h : valL l = valL m) : l = m := by
  rcases Nat.lt_trichotomy l.length m.length with h1 | h1 | h1
  · have := canon_len hl hm h1; omega
  · exact valL_inj l m hl.1 hm.1 h1 h
  · have := canon_len hm hl h1; omega
theorem canon_zero {l : List UInt8} (hl : Canon l) (h : valL l = 0) : l = [] := canon_inj hl ⟨(by intro c hc; simp at hc), (by intro h; simp at h)⟩ h
theorem valL_zeros (n : Nat) : valL (List.replicate n 48) = 0 := by
  induction n with
  | zero => rfl
  | succ n ih => rw [List.replicate_succ, valL, ih]; simp
theorem valL_pad (n : Nat) (l : List UInt8) : valL (List.replicate n 48 ++ l) = valL l := by
  rw [valL_append, valL_zeros]; omega
theorem dig_pad {n : Nat} {l : List UInt8} (h : DigL l) : DigL (List.replicate n 48 ++ l) := by
  intro c hc
  rcases List.mem_append.1 hc with hc | hc
  · rw [List.eq_of_mem_replicate hc]; decide
  · exact h c hc
theorem dig_append {l m : List UInt8} (h : DigL l) (h' : DigL m) : DigL (l ++ m) := fun c hc => (List.mem_append.1 hc).elim (h c) (h' c)
/-- without the zeros ahead -/
theorem strip_val : ∀ l : List UInt8, DigL l → Canon (l.dropWhile (· == 48)) ∧ valL (l.dropWhile (· == 48)) = valL l
  | [], _ => ⟨⟨(by intro c hc; simp at hc), (by intro h; simp at h)⟩, rfl⟩
  | c :: l, h => by
    rw [List.dropWhile_cons]
    by_cases hc : c = 48
    · subst hc
      have := strip_val l (fun x hx => h x (List.mem_cons_of_mem _ hx))
      simp only [beq_self_eq_true, if_true]
      refine ⟨this.1, ?_⟩
      rw [this.2, valL]
      simp
    · have hb : (c == 48) = false := by simpa using hc
      rw [hb]
      exact ⟨⟨h, fun _ => by simpa using hc⟩, rfl⟩
/-- two numbers are compared by their digits -/
theorem cb_val : ∀ l m : List UInt8, DigL l → DigL m → l.length = m.length → Lib.compareBytes l m = Lib.compareInt (valL l) (valL m)
  | [], [], _, _, _ => by rfl
  | [], _ :: _, _, _, h => by simp at h
  | _ :: _, [], _, _, h => by simp at h
  | c :: l, d :: m, h1, h2, h3 => by
    have hl := valL_lt l (fun x hx => h1 x (List.mem_cons_of_mem _ hx))
    have hm := valL_lt m (fun x hx => h2 x (List.mem_cons_of_mem _ hx))
    have hc := h1 c List.mem_cons_self
    have hd := h2 d List.mem_cons_self
    have e : l.length = m.length := by simpa using h3
    have ih := cb_val l m (fun x hx => h1 x (List.mem_cons_of_mem _ hx)) (fun x hx => h2 x (List.mem_cons_of_mem _ hx)) e
    rw [valL, valL, e]
    rw [e] at hl
    rcases Nat.lt_trichotomy c.toNat d.toNat with h | h | h
    · have hx : (c.toNat - 48 + 1) * 10 ^ m.length ≤ (d.toNat - 48) * 10 ^ m.length := Nat.mul_le_mul_right _ (by omega)
      rw [Nat.add_mul] at hx
      have a : Lib.compareBytes (c :: l) (d :: m) = -1 := by
        unfold Lib.compareBytes
        rw [if_pos (UInt8.lt_iff_toNat_lt.2 h)]
      have b : Lib.compareInt (((c.toNat - 48) * 10 ^ m.length + valL l : Nat) : Int) (((d.toNat - 48) * 10 ^ m.length + valL m : Nat) : Int) = -1 := by
        unfold Lib.compareInt
        rw [if_pos (by omega)]
      rw [a, b]
    · have hcd : c = d := byte_of h
      subst hcd
      have a : Lib.compareBytes (c :: l) (c :: m) = Lib.compareBytes l m := by
        conv => lhs; unfold Lib.compareBytes
        rw [if_neg (by simp), if_neg (by simp)]
      rw [a, ih]
      unfold Lib.compareInt
      by_cases g1 : valL l < valL m
      · rw [if_pos (by omega), if_pos (by omega)]
      · by_cases g2 : valL m < valL l
        · rw [if_neg (by omega), if_pos (by omega), if_neg (by omega), if_pos (by omega)]
        · rw [if_neg (by omega), if_neg (by omega), if_neg (by omega), if_neg (by omega)]
    · have hx : (d.toNat - 48 + 1) * 10 ^ m.length ≤ (c.toNat - 48) * 10 ^ m.length := Nat.mul_le_mul_right _ (by omega)
      rw [Nat.add_mul] at hx
      have a : Lib.compareBytes (c :: l) (d :: m) = 1 := by
        unfold Lib.compareBytes
        rw [if_neg (fun h' => by have := UInt8.lt_iff_toNat_lt.1 h'; omega), if_pos (UInt8.lt_iff_toNat_lt.2 h)]
      have b : Lib.compareInt (((c.toNat - 48) * 10 ^ m.length + valL l : Nat) : Int) (((d.toNat - 48) * 10 ^ m.length + valL m : Nat) : Int) = 1 := by
        unfold Lib.compareInt
        rw [if_neg (by omega), if_pos (by omega)]
      rw [a, b]
/-- a digit of a number that is filled up with zeros ahead to a size, by its place -/
def padL (n : Nat) (l : List UInt8) : List UInt8 := List.replicate (n - l.length) 48 ++ l
theorem padL_len {n : Nat} {l : List UInt8} (h : l.length ≤ n) : (padL n l).length = n := by
  unfold padL; rw [List.length_append, List.length_replicate]; omega
theorem padL_dig {n : Nat} {l : List UInt8} (h : DigL l) : DigL (padL n l) := dig_pad h
theorem padL_val (n : Nat) (l : List UInt8) : valL (padL n l) = valL l := valL_pad _ _
/-- adding (by is 1) or subtracting (by is -1) from the right: so far the places from i on -/
structure AddAt (A B O : List UInt8) (by_ carry : Int) (n i : Nat) : Prop where
  len : O.length = n
  dig : DigL (O.drop i)
  lo : -1 ≤ carry
  hi : carry ≤ 1
  val : (valL (O.drop i) : Int) + carry * (10 ^ (n - i) : Nat) = valL (A.drop i) + by_ * valL (B.drop i)
theorem AddAt.start {A B O : List UInt8} {n : Nat} (by_ : Int) (hA : A.length = n) (hB : B.length = n) (hO : O.length = n) : AddAt A B O by_ 0 n n := by
  refine ⟨hO, ?_, by omega, by omega, ?_⟩
  · rw [List.drop_of_length_le (by omega)]; intro c hc; simp at hc
  · rw [List.drop_of_length_le (by omega), List.drop_of_length_le (by omega), List.drop_of_length_le (by omega)]; simp [valL]
theorem AddAt.step {A B O : List UInt8} {by_ carry : Int} {n i : Nat} (h : AddAt A B O by_ carry n (i + 1)) (hA : A.length = n) (hB : B.length = n) (hi : i < n) {a b c : UInt8} (ha : A[i]? = some a) (hb : B[i]? = some b) (dc : Int)
    (hc : 48 ≤ c.toNat ∧ c.toNat ≤ 57) (hd : (c.toNat : Int) - 48 + 10 * dc = ((a.toNat - 48 : Nat) : Int) + by_ * ((b.toNat - 48 : Nat) : Int) + carry) (h1 : -1 ≤ dc) (h2 : dc ≤ 1) : AddAt A B (O.set i c) by_ dc n i := by
  obtain ⟨l1, l2, l3, l4, l5⟩ := h
  obtain ⟨ia, ea⟩ := List.getElem?_eq_some_iff.1 ha
  obtain ⟨ib, eb⟩ := List.getElem?_eq_some_iff.1 hb
  have eO : (O.set i c).drop i = c :: O.drop (i + 1) := by
    rw [List.drop_eq_getElem_cons (by rw [List.length_set]; omega), List.getElem_set_self, List.drop_set_of_lt (by omega)]
  have eA : A.drop i = a :: A.drop (i + 1) := by rw [List.drop_eq_getElem_cons ia, ea]
  have eB : B.drop i = b :: B.drop (i + 1) := by rw [List.drop_eq_getElem_cons ib, eb]
  refine ⟨by rw [List.length_set]; exact l1, ?_, h1, h2, ?_⟩
  · rw [eO]; intro x hx
    rcases List.mem_cons.1 hx with rfl | hx
    · exact hc
    · exact l2 x hx
  · rw [eO, eA, eB, valL, valL, valL, List.length_drop, List.length_drop, List.length_drop, l1, hA, hB, show n - i = (n - (i + 1)) + 1 by omega, Nat.pow_succ]
    obtain ⟨p, hp⟩ : ∃ p, 10 ^ (n - (i + 1)) = p := ⟨_, rfl⟩
    rw [hp] at l5 ⊢
    push_cast
    rw [Int.mul_add, ← Int.mul_assoc, ← Int.mul_assoc]
    have e1 : ((c.toNat - 48 : Nat) : Int) = (c.toNat : Int) - 48 := by omega
    rw [e1]
    have e2 : ((c.toNat : Int) - 48) * p + 10 * dc * p = (((a.toNat - 48 : Nat) : Int) + by_ * ((b.toNat - 48 : Nat) : Int) + carry) * p := by rw [← hd, Int.add_mul]
    rw [Int.add_mul, Int.add_mul] at e2
    have e3 : dc * (p : Int) * 10 = 10 * dc * p := by rw [Int.mul_comm 10 dc, Int.mul_assoc, Int.mul_assoc, Int.mul_comm (10 : Int)]
    rw [e3]
    omega
theorem AddAt.done {A B O : List UInt8} {by_ carry : Int} {n m : Nat} (h : AddAt A B O by_ carry n 0) (hm : (valL A : Int) + by_ * valL B = m) (hlt : m < 10 ^ n) : DigL O ∧ valL O = m := by
  obtain ⟨l1, l2, l3, l4, l5⟩ := h
  simp only [List.drop_zero, Nat.sub_zero] at l2 l5
  refine ⟨l2, ?_⟩
  have hv := valL_lt O l2
  rw [l1] at hv
  rw [hm] at l5
  obtain ⟨p, hp⟩ : ∃ p, 10 ^ n = p := ⟨_, rfl⟩
  rw [hp] at hv hlt l5
  have : carry = 0 := by
    rcases (show carry = -1 ∨ carry = 0 ∨ carry = 1 by omega) with h | h | h
    · subst h; omega
    · exact h
    · subst h; omega
  subst this
  omega
end Go.Pw
