/- Plain: texts to the base 64 are read alike by the program's machine and by the reference's. -/
import Derived.Test.YtafgncledbddiaaBits
set_option linter.unusedVariables false
namespace Go.Pw

def letters64 : List UInt8 := [65, 66, 67, 68, 69, 70, 71, 72, 73, 74, 75, 76, 77, 78, 79, 80, 81, 82, 83, 84, 85, 86, 87, 88, 89, 90, 97, 98, 99, 100, 101, 102, 103, 104, 105, 106, 107, 108, 109, 110, 111, 112, 113, 114, 115, 116, 117, 118, 119, 120, 121, 122, 48, 49, 50, 51, 52, 53, 54, 55, 56, 57, 43, 47]
/-- the place of a letter; -1: it is none -/
def look64 (c : UInt8) : Int := Lib.indexByte letters64 c
theorem look64_lt (c : UInt8) : look64 c < 64 := by
  have : ∀ (l : List UInt8), Lib.indexByte l c < (l.length : Int) ∨ Lib.indexByte l c = -1 := by
    intro l
    induction l with
    | nil => right; rfl
    | cons x l ih =>
      simp only [Lib.indexByte]
      split
      · left; simp
      · split
        · right; rfl
        · rename_i h; left; simp at h ⊢; rcases ih with ih | ih <;> omega
  have h := this letters64
  have hl : letters64.length = 64 := rfl
  rw [hl] at h
  unfold look64
  omega
theorem look64_ge (c : UInt8) : -1 ≤ look64 c := by
  have : ∀ (l : List UInt8), -1 ≤ Lib.indexByte l c := by
    intro l
    induction l with
    | nil => simp [Lib.indexByte]
    | cons x l ih =>
      simp only [Lib.indexByte]
      split
      · omega
      · split <;> omega
  exact this _

/-- what the program keeps: of the group at hand its bits, its letters and its signs =; the bytes so far -/
structure PS where
  n : Nat
  count : Nat
  filled : Nat
  out : List UInt8
def bytes3 (n : Nat) : List UInt8 := [UInt8.ofNat (n / 65536), UInt8.ofNat (n / 256), UInt8.ofNat n]
def PS.letter (s : PS) (k : Nat) : PS :=
  if s.count + 1 = 4 then ⟨0, 0, s.filled, s.out ++ bytes3 (s.n * 64 + k)⟩ else ⟨s.n * 64 + k, s.count + 1, s.filled, s.out⟩
/-- whether the bits that count for nothing are 0 -/
def PS.tail0 (s : PS) : Bool := s.n % 2 ^ (2 * (4 - s.count)) == 0
def pstep (c : UInt8) (s : PS) : Option PS :=
  if c = 10 then some s
  else if 0 ≤ look64 c ∧ s.filled = 0 then some (s.letter (look64 c).toNat)
  else if c = 61 ∧ 2 ≤ s.count ∧ s.count + s.filled < 4 ∧ s.tail0 = true then some ⟨s.n, s.count, s.filled + 1, s.out⟩
  else none
def PS.ok (s : PS) : Prop := s.count < 4 ∧ s.n < 64 ^ s.count ∧ s.count + s.filled ≤ 4 ∧ (0 < s.filled → 2 ≤ s.count)

/-- what the reference keeps: all bits, the signs =, all signs -/
structure RS where
  all : List Bool
  marks : Nat
  many : Nat
def zeroB (all : List Bool) (k : Nat) : Bool := !((all.drop (all.length - k)).any id)
def rtail (all : List Bool) (at_ : Nat) : Bool := zeroB all (if at_ = 3 then 2 else 4)
def rstep (c : UInt8) (s : RS) : Option RS :=
  if c = 10 then some s
  else if 0 ≤ look64 c ∧ s.marks = 0 then some ⟨s.all ++ bitsN 6 (look64 c).toNat, s.marks, s.many + 1⟩
  else if c = 61 ∧ 2 ≤ s.many % 4 ∧ (0 < s.marks ∨ rtail s.all (s.many % 4) = true) then
    (if s.many % 4 = 3 ∧ 2 < s.marks + 1 then none else some ⟨s.all, s.marks + 1, s.many + 1⟩)
  else none

/-- the two hold the same -/
structure Sim (p : PS) (r : RS) : Prop where
  ok : p.ok
  all : r.all = bitsOfBytes p.out ++ bitsN (6 * p.count) p.n
  marks : r.marks = p.filled
  many : r.many % 4 = (p.count + p.filled) % 4
  tail : 0 < p.filled → p.tail0 = true

theorem any_bitsN : ∀ (n v : Nat), ((bitsN n v).any id) = !(v % 2 ^ n == 0)
  | 0, v => by simp [bitsN, Nat.mod_one]
  | n + 1, v => by
    rw [bitsN, List.any_append, any_bitsN n]
    have h : v % 2 ^ (n + 1) = 2 * (v / 2 % 2 ^ n) + v % 2 := by
      rw [Nat.pow_succ, Nat.mul_comm, Nat.mod_mul]; omega
    rw [h]
    rcases Nat.mod_two_eq_zero_or_one v with e | e
    · generalize v / 2 % 2 ^ n = z
      cases z <;> simp [e]
    · simp [e]
theorem zeroB_of (l : List Bool) (m n k : Nat) (h : k ≤ m) : zeroB (l ++ bitsN m n) k = (n % 2 ^ k == 0) := by
  unfold zeroB
  have e : bitsN m n = bitsN (m - k) (n / 2 ^ k) ++ bitsN k n := by rw [← bitsN_add]; congr 1; omega
  have hl : (l ++ bitsN m n).length - k = (l ++ bitsN (m - k) (n / 2 ^ k)).length := by simp [bitsN_length]; omega
  rw [hl, e, ← List.append_assoc, List.drop_left, any_bitsN]
  simp
theorem Sim.rtail {p : PS} {r : RS} (h : Sim p r) (h0 : p.filled = 0) (h2 : 2 ≤ p.count) : rtail r.all (r.many % 4) = p.tail0 := by
  obtain ⟨hc, _⟩ := h.ok
  rw [h.many, h0, h.all]
  unfold Go.Pw.rtail PS.tail0
  have hm : (p.count + 0) % 4 = p.count := by omega
  rw [hm]
  by_cases e : p.count = 3
  · rw [if_pos e, e, zeroB_of _ _ _ _ (by omega)]
  · obtain e2 : p.count = 2 := by omega
    rw [if_neg e, e2, zeroB_of _ _ _ _ (by omega)]
theorem bits24 (n : Nat) (h : n < 16777216) : bitsN 24 n = bitsOfBytes (bytes3 n) := by
  have h1 : (UInt8.ofNat (n / 65536)).toNat = n / 65536 % 256 := by simp
  have h2 : (UInt8.ofNat (n / 256)).toNat = n / 256 % 256 := by simp
  have h3 : (UInt8.ofNat n).toNat = n % 256 := by simp
  have e : bitsOfBytes (bytes3 n) = bitsN 8 (n / 65536 % 256) ++ (bitsN 8 (n / 256 % 256) ++ bitsN 8 (n % 256)) := by
    simp [bitsOfBytes, bytes3]
  rw [e, show (256 : Nat) = 2 ^ 8 by rfl, bitsN_mod, bitsN_mod, bitsN_mod, show (24 : Nat) = 8 + 16 by rfl, bitsN_add 8 16, show (16 : Nat) = 8 + 8 by rfl, bitsN_add 8 8]
theorem Sim.letter {p : PS} {r : RS} (h : Sim p r) (h0 : p.filled = 0) {k : Nat} (hk : k < 64) : Sim (p.letter k) ⟨r.all ++ bitsN 6 k, r.marks, r.many + 1⟩ := by
  obtain ⟨hc, hn, hf, _⟩ := h.ok
  have hbits : bitsN (6 * (p.count + 1)) (p.n * 64 + k) = bitsN (6 * p.count) p.n ++ bitsN 6 k := by
    rw [show 6 * (p.count + 1) = 6 * p.count + 6 by omega, bitsN_add, show (2 : Nat) ^ 6 = 64 by rfl]
    have e1 : (p.n * 64 + k) / 64 = p.n := by omega
    have e2 : bitsN 6 (p.n * 64 + k) = bitsN 6 k := by
      rw [← bitsN_mod 6 (p.n * 64 + k), show (2 : Nat) ^ 6 = 64 by rfl, show (p.n * 64 + k) % 64 = k by omega]
    rw [e1, e2]
  unfold PS.letter
  have hlt : p.n * 64 + k < 64 ^ (p.count + 1) := by
    have : (p.n + 1) * 64 ≤ 64 ^ p.count * 64 := Nat.mul_le_mul_right _ hn
    rw [Nat.pow_succ]; omega
  split
  · rename_i e
    refine ⟨⟨by show 0 < 4; omega, by show 0 < 64 ^ 0; decide, by show 0 + p.filled ≤ 4; omega, fun h' => by simp at h'; omega⟩, ?_, h.marks, ?_, fun h' => by simp at h'; omega⟩
    · show r.all ++ bitsN 6 k = bitsOfBytes (p.out ++ bytes3 (p.n * 64 + k)) ++ bitsN 0 0
      have hc3 : p.count = 3 := by omega
      rw [h.all, List.append_assoc, ← hbits, e, bitsOfBytes_append, ← bits24 _ (by rw [hc3] at hlt; omega)]
      simp [bitsN]
    · show (r.many + 1) % 4 = (0 + p.filled) % 4
      have := h.many; omega
  · refine ⟨⟨by show p.count + 1 < 4; omega, hlt, by show p.count + 1 + p.filled ≤ 4; omega, fun h' => by simp at h'; omega⟩, ?_, h.marks, ?_, fun h' => by simp at h'; omega⟩
    · show r.all ++ bitsN 6 k = bitsOfBytes p.out ++ bitsN (6 * (p.count + 1)) (p.n * 64 + k)
      rw [h.all, List.append_assoc, hbits]
    · show (r.many + 1) % 4 = (p.count + 1 + p.filled) % 4
      have := h.many; omega

/-- a step leads both to the same, or stops both -/
theorem sim_step {p : PS} {r : RS} (h : Sim p r) (c : UInt8) : (pstep c p = none ∧ rstep c r = none) ∨ ∃ p' r', pstep c p = some p' ∧ rstep c r = some r' ∧ Sim p' r' := by
  unfold pstep rstep
  have hm := h.marks
  have hmany := h.many
  obtain ⟨hc, hn, hf, hf2⟩ := h.ok
  by_cases h10 : c = 10
  · rw [if_pos h10, if_pos h10]; exact .inr ⟨p, r, rfl, rfl, h⟩
  · rw [if_neg h10, if_neg h10]
    by_cases hl : 0 ≤ look64 c ∧ p.filled = 0
    · rw [if_pos hl, if_pos ⟨hl.1, by omega⟩]
      have hlt := look64_lt c
      exact .inr ⟨_, _, rfl, rfl, h.letter hl.2 (by omega)⟩
    · rw [if_neg hl, if_neg (show ¬ (0 ≤ look64 c ∧ r.marks = 0) from fun h' => hl ⟨h'.1, by omega⟩)]
      by_cases he : c = 61 ∧ 2 ≤ p.count ∧ p.count + p.filled < 4 ∧ p.tail0 = true
      · obtain ⟨e1, e2, e3, e4⟩ := he
        have hr : c = 61 ∧ 2 ≤ r.many % 4 ∧ (0 < r.marks ∨ rtail r.all (r.many % 4) = true) := by
          refine ⟨e1, by omega, ?_⟩
          by_cases h0 : p.filled = 0
          · right; rw [h.rtail h0 e2]; exact e4
          · left; omega
        rw [if_pos (show c = 61 ∧ 2 ≤ p.count ∧ p.count + p.filled < 4 ∧ p.tail0 = true from ⟨e1, e2, e3, e4⟩), if_pos hr, if_neg (by omega)]
        exact .inr ⟨_, _, rfl, rfl, ⟨hc, hn, by show p.count + (p.filled + 1) ≤ 4; omega, fun _ => e2⟩, h.all, by show r.marks + 1 = p.filled + 1; omega, by show (r.many + 1) % 4 = (p.count + (p.filled + 1)) % 4; omega, fun _ => e4⟩
      · rw [if_neg he]
        by_cases hr : c = 61 ∧ 2 ≤ r.many % 4 ∧ (0 < r.marks ∨ rtail r.all (r.many % 4) = true)
        · exfalso
          obtain ⟨r1, r2, r3⟩ := hr
          have k1 : p.count + p.filled < 4 := by omega
          have k2 : 2 ≤ p.count := by
            by_cases h0 : p.filled = 0
            · omega
            · exact hf2 (by omega)
          refine he ⟨r1, k2, k1, ?_⟩
          by_cases h0 : p.filled = 0
          · rcases r3 with r3 | r3
            · omega
            · rwa [h.rtail h0 k2] at r3
          · exact h.tail (by omega)
        · rw [if_neg hr]; exact .inl ⟨rfl, rfl⟩

/-- what a text comes to: the place at which it is refused, or the state behind it -/
def prun : List UInt8 → PS → Nat → Nat ⊕ PS
  | [], s, _ => .inr s
  | c :: l, s, i => match pstep c s with | none => .inl i | some s' => prun l s' (i + 1)
def rrun : List UInt8 → RS → Nat → Nat ⊕ RS
  | [], s, _ => .inr s
  | c :: l, s, i => match rstep c s with | none => .inl i | some s' => rrun l s' (i + 1)
theorem sim_run : ∀ (l : List UInt8) (p : PS) (r : RS) (i : Nat), Sim p r → (∃ k, prun l p i = .inl k ∧ rrun l r i = .inl k) ∨ ∃ p' r', prun l p i = .inr p' ∧ rrun l r i = .inr r' ∧ Sim p' r'
  | [], p, r, i, h => .inr ⟨p, r, rfl, rfl, h⟩
  | c :: l, p, r, i, h => by
    rw [prun, rrun]
    rcases sim_step h c with ⟨h1, h2⟩ | ⟨p', r', h1, h2, h3⟩
    · rw [h1, h2]; exact .inl ⟨i, rfl, rfl⟩
    · rw [h1, h2]; exact sim_run l p' r' (i + 1) h3

/-- the bytes behind the last group -/
def PS.last (s : PS) : List UInt8 :=
  if s.count + s.filled = 0 then s.out else if s.count = 2 then s.out ++ [UInt8.ofNat (s.n / 16)] else s.out ++ [UInt8.ofNat (s.n / 1024), UInt8.ofNat (s.n / 4)]
/-- what the reference makes of all bits -/
def RS.last (s : RS) : List UInt8 := bytesB (s.all.length / 8) s.all
theorem sim_last {p : PS} {r : RS} (h : Sim p r) (hend : p.count + p.filled = 0 ∨ p.count + p.filled = 4) : p.last = r.last := by
  obtain ⟨hc, hn, hf, hf2⟩ := h.ok
  unfold PS.last RS.last
  rw [h.all]
  by_cases h0 : p.count + p.filled = 0
  · rw [if_pos h0]
    have hc0 : p.count = 0 := by omega
    rw [hc0]
    have e : (bitsOfBytes p.out ++ bitsN (6 * 0) p.n).length / 8 = p.out.length + 0 := by simp [bitsOfBytes_length, bitsN_length]
    rw [e, bytesB_of]
    simp [bytesB]
  · rw [if_neg h0]
    by_cases h2 : p.count = 2
    · rw [if_pos h2, h2]
      rw [h2] at hn
      have e : (bitsOfBytes p.out ++ bitsN (6 * 2) p.n).length / 8 = p.out.length + 1 := by simp [bitsOfBytes_length, bitsN_length]; omega
      rw [e, bytesB_of, bytesB, bytesB]
      have e2 : (bitsN (6 * 2) p.n).take 8 = bitsN 8 (p.n / 16) := by
        rw [show 6 * 2 = 8 + 4 by rfl, bitsN_add, List.take_left' (bitsN_length _ _)]
      rw [e2, valB_bitsN 8 _ (by omega)]
    · have h3 : p.count = 3 := by
        have := hf2
        by_cases hz : 0 < p.filled
        · have := hf2 hz; omega
        · omega
      rw [if_neg h2, h3]
      rw [h3] at hn
      have e : (bitsOfBytes p.out ++ bitsN (6 * 3) p.n).length / 8 = p.out.length + 2 := by simp [bitsOfBytes_length, bitsN_length]; omega
      rw [e, bytesB_of, bytesB, bytesB, bytesB]
      have e2 : (bitsN (6 * 3) p.n).take 8 = bitsN 8 (p.n / 1024) := by
        rw [show 6 * 3 = 8 + 10 by rfl, bitsN_add, List.take_left' (bitsN_length _ _)]
      have e3 : ((bitsN (6 * 3) p.n).drop 8).take 8 = bitsN 8 (p.n / 4) := by
        rw [show 6 * 3 = 8 + 10 by rfl, bitsN_add, List.drop_left' (bitsN_length _ _), show (10 : Nat) = 8 + 2 by rfl, bitsN_add, List.take_left' (bitsN_length _ _)]
      rw [e2, e3, valB_bitsN 8 _ (by omega)]
      have e4 : valB (bitsN 8 (p.n / 4)) = p.n / 4 % 256 := by
        rw [← bitsN_mod, show (2 : Nat) ^ 8 = 256 by rfl, valB_bitsN 8 _ (by omega)]
      have e5 : UInt8.ofNat (p.n / 4 % 256) = UInt8.ofNat (p.n / 4) := by
        apply UInt8.toNat_inj.1
        simp
      rw [e4, e5]
def p0 : PS := ⟨0, 0, 0, []⟩
def r0 : RS := ⟨[], 0, 0⟩
theorem sim0 : Sim p0 r0 := ⟨⟨by decide, by decide, by decide, fun h => absurd h (by decide)⟩, rfl, rfl, rfl, fun h => absurd h (by decide)⟩
end Go.Pw
