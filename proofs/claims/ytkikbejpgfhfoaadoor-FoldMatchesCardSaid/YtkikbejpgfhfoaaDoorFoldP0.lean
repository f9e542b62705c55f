/- Folding lines: plain. -/
import Derived.Test.YtkikbejpgfhfoaaDoorTextW
import Derived.Lib.SpaceU
set_option linter.unusedVariables false
namespace Go.Pw
open Go.RowKit
/-- tab or blank -/
def isBl (b : UInt8) : Bool := b == 9 || b == 32
/-- one past the last tab or blank among the first k bytes, or 0 -/
def lastB (s : ByteArray) : Nat → Nat
  | 0 => 0
  | k + 1 => if isBl (s.get! k) then k + 1 else lastB s k
theorem lastB_le (s : ByteArray) : ∀ k, lastB s k ≤ k
  | 0 => Nat.le_refl _
  | k + 1 => by
    unfold lastB
    split
    · exact Nat.le_refl _
    · exact Nat.le_trans (lastB_le s k) (Nat.le_succ _)
theorem lastB_skip {s : ByteArray} {k : Nat} : ∀ n, (∀ j, k ≤ j → j < k + n → isBl (s.get! j) = false) → lastB s (k + n) = lastB s k
  | 0, _ => rfl
  | n + 1, h => by
    show (if isBl (s.get! (k + n)) = true then k + n + 1 else lastB s (k + n)) = _
    rw [h (k + n) (by omega) (by omega), if_neg (by decide)]
    exact lastB_skip n fun j h1 h2 => h j h1 (by omega)
theorem get!_eq {s : ByteArray} {k : Nat} (h : k < s.size) : s.get! k = s.data.toList[k]'(by rw [len_size]; exact h) := by
  obtain ⟨⟨l⟩⟩ := s
  simp only [ByteArray.size, List.size_toArray] at h
  simp [ByteArray.get!, h]
theorem get!_extract {s : ByteArray} {a b k : Nat} (hb : b ≤ s.size) (h : a + k < b) : (s.extract a b).get! k = s.get! (a + k) := by
  have hs : (s.extract a b).size = b - a := by rw [ByteArray.size_extract]; omega
  rw [get!_eq (by rw [hs]; omega), get!_eq (show a + k < s.size by omega)]
  simp [ByteArray.data_extract]
theorem lastB_ext {s : ByteArray} {b : Nat} (hb : b ≤ s.size) : ∀ k, k ≤ b → lastB (s.extract 0 b) k = lastB s k
  | 0, _ => rfl
  | k + 1, h => by
    unfold lastB
    rw [get!_extract hb (by omega), Nat.zero_add, lastB_ext hb k (by omega)]
/-- where a line that is too long is cut -/
def cutAt (s : ByteArray) (wd : Nat) (bs : Bool) : Nat := if bs = true ∧ 0 < lastB s wd then lastB s wd else wd
theorem cutAt_pos {s : ByteArray} {wd : Nat} {bs : Bool} (h : 1 ≤ wd) : 1 ≤ cutAt s wd bs := by
  unfold cutAt
  split
  · rename_i h; exact h.2
  · exact h
theorem cutAt_le {s : ByteArray} {wd : Nat} {bs : Bool} : cutAt s wd bs ≤ wd := by
  unfold cutAt
  split
  · exact lastB_le _ _
  · exact Nat.le_refl _
def foldL (wd : Nat) (bs : Bool) : Nat → ByteArray → List ByteArray
  | 0, s => [s]
  | f + 1, s => if s.size ≤ wd then [s] else s.extract 0 (cutAt s wd bs) :: foldL wd bs f (s.extract (cutAt s wd bs) s.size)
theorem foldL_fuel {wd : Nat} {bs : Bool} (h : 1 ≤ wd) : ∀ (f g : Nat) (s : ByteArray), s.size ≤ f → s.size ≤ g → foldL wd bs f s = foldL wd bs g s
  | 0, 0, s, _, _ => rfl
  | 0, g + 1, s, h1, _ => by rw [foldL, foldL, if_pos (by omega)]
  | f + 1, 0, s, _, h1 => by rw [foldL, foldL, if_pos (by omega)]
  | f + 1, g + 1, s, h1, h2 => by
    rw [foldL, foldL]
    split
    · rfl
    · have hp := cutAt_pos (s := s) (bs := bs) h
      have hs : (s.extract (cutAt s wd bs) s.size).size = s.size - cutAt s wd bs := by rw [ByteArray.size_extract]; omega
      rw [foldL_fuel h f g _ (by rw [hs]; omega) (by rw [hs]; omega)]
/-- a line that is folded -/
def folded (wd : Nat) (bs : Bool) (s : ByteArray) : List ByteArray := foldL wd bs s.size s
theorem folded_short {wd : Nat} {bs : Bool} {s : ByteArray} (h : s.size ≤ wd) : folded wd bs s = [s] := by
  unfold folded
  cases hs : s.size with
  | zero => rfl
  | succ n => rw [foldL, if_pos (by omega)]
theorem folded_long {wd : Nat} {bs : Bool} {s : ByteArray} (hw : 1 ≤ wd) (h : wd < s.size) : folded wd bs s = s.extract 0 (cutAt s wd bs) :: folded wd bs (s.extract (cutAt s wd bs) s.size) := by
  unfold folded
  have hp := cutAt_pos (s := s) (bs := bs) hw
  have hs : (s.extract (cutAt s wd bs) s.size).size = s.size - cutAt s wd bs := by rw [ByteArray.size_extract]; omega
  obtain ⟨n, hn⟩ : ∃ n, s.size = n + 1 := ⟨s.size - 1, by omega⟩
  have e : foldL wd bs s.size s = foldL wd bs (n + 1) s := by rw [hn]
  rw [e, foldL, if_neg (by omega)]
  rw [foldL_fuel hw n _ _ (by rw [hs]; omega) (Nat.le_refl _)]
theorem folded_bound {wd : Nat} {bs : Bool} (hw : 1 ≤ wd) : ∀ (n : Nat) (s : ByteArray), s.size ≤ n → (folded wd bs s).length ≤ s.size + 1 ∧ (resL (folded wd bs s)).length ≤ 2 * s.size + 1 ∧ ∀ x ∈ folded wd bs s, x.size ≤ s.size
  | n, s, hn => by
    by_cases h : s.size ≤ wd
    · rw [folded_short h]
      refine ⟨by simp, ?_, by simp⟩
      have := len_size s
      simp [resL]; omega
    · have hp := cutAt_pos (s := s) (bs := bs) hw
      have hc := cutAt_le (s := s) (wd := wd) (bs := bs)
      have hs : (s.extract (cutAt s wd bs) s.size).size = s.size - cutAt s wd bs := by rw [ByteArray.size_extract]; omega
      have hs0 : (s.extract 0 (cutAt s wd bs)).size = cutAt s wd bs := by rw [ByteArray.size_extract]; omega
      cases n with
      | zero => omega
      | succ n =>
        obtain ⟨a, b, c⟩ := folded_bound (bs := bs) hw n (s.extract (cutAt s wd bs) s.size) (by rw [hs]; omega)
        rw [folded_long hw (by omega)]
        have hl := len_size (s.extract 0 (cutAt s wd bs))
        refine ⟨by rw [List.length_cons]; omega, ?_, ?_⟩
        · rw [show ∀ (x : ByteArray) l, x :: l = [x] ++ l from fun _ _ => rfl, resL_append, List.length_append]
          have : (resL [s.extract 0 (cutAt s wd bs)]).length = cutAt s wd bs + 1 := by simp [resL]; omega
          omega
        · intro x hx
          rcases List.mem_cons.1 hx with rfl | hx
          · omega
          · have := c x hx; omega
/-- lines that are folded -/
def foldLs (wd : Nat) (bs : Bool) (l : List ByteArray) : List ByteArray := l.flatMap (folded wd bs)
theorem foldLs_bound {wd : Nat} {bs : Bool} (hw : 1 ≤ wd) {M : Nat} : ∀ l : List ByteArray, (∀ s ∈ l, s.size ≤ M) → (foldLs wd bs l).length ≤ l.length * (M + 1) ∧ (resL (foldLs wd bs l)).length ≤ l.length * (2 * M + 1) ∧ ∀ x ∈ foldLs wd bs l, x.size ≤ M
  | [], _ => by simp [foldLs, resL]
  | s :: l, h => by
    obtain ⟨a, b, c⟩ := foldLs_bound (bs := bs) hw l fun x hx => h x (by simp [hx])
    obtain ⟨a1, b1, c1⟩ := folded_bound (bs := bs) hw s.size s (Nat.le_refl _)
    have hM := h s (by simp)
    have e : foldLs wd bs (s :: l) = folded wd bs s ++ foldLs wd bs l := by simp [foldLs]
    rw [e, resL_append, List.length_append, List.length_append, List.length_cons, Nat.succ_mul, Nat.succ_mul]
    refine ⟨by omega, by omega, fun x hx => ?_⟩
    rcases List.mem_append.1 hx with hx | hx
    · have := c1 x hx; omega
    · exact c x hx
/-- what stands at a text's end: a byte below 128, or a rune of high bytes -/
theorem decodeLast_low {l : List UInt8} {b : UInt8} (h : l.getLast? = some b) (hb : b.toNat < 128) : Lib.decodeLastL l = (b.toNat, 1) := by
  have hne : l ≠ [] := fun e => by rw [e] at h; cases h
  rw [List.getLast?_eq_getElem?] at h
  have hg : l.getD (l.length - 1) 0 = b := by rw [List.getD_eq_getElem?_getD, h]; rfl
  unfold Lib.decodeLastL
  rw [if_neg hne, hg, if_pos hb]
/-- the rune that is decoded where a high byte stands -/
theorem decode_high {s : ByteArray} {i : Nat} (hi : i < s.size) (h : 128 ≤ (s.get! i).toNat) :
    128 ≤ (Utf8.decode s i).1 ∧ Utf8.valid ((Utf8.decode s i).1 : Nat) = true ∧ 1 ≤ (Utf8.decode s i).2 ∧ i + (Utf8.decode s i).2 ≤ s.size ∧ ∀ j, i ≤ j → j < i + (Utf8.decode s i).2 → 128 ≤ (s.get! j).toNat := by
  have one : ∀ j, i ≤ j → j < i + 1 → 128 ≤ (s.get! j).toNat := fun j h1 h2 => by
    obtain rfl : j = i := by omega
    exact h
  obtain ⟨d, hd⟩ : ∃ d, Utf8.decode s i = d := ⟨_, rfl⟩
  rw [hd]
  unfold Utf8.decode at hd
  simp only [Nat.add_zero] at hd
  rw [if_neg (by omega)] at hd
  have bad : d = (Utf8.runeError, 1) → 128 ≤ d.1 ∧ Utf8.valid (d.1 : Nat) = true ∧ 1 ≤ d.2 ∧ i + d.2 ≤ s.size ∧ ∀ j, i ≤ j → j < i + d.2 → 128 ≤ (s.get! j).toNat := by
    rintro rfl
    exact ⟨by decide, by decide, Nat.le_refl _, by show i + 1 ≤ _; omega, one⟩
  split at hd
  · rename_i h1
    simp only [Bool.and_eq_true, decide_eq_true_eq, beq_iff_eq] at h1
    split at hd
    · subst hd
      refine ⟨by show 128 ≤ _; omega, ?_, by show 1 ≤ 2; omega, by show i + 2 ≤ _; omega, fun j a b => ?_⟩
      · unfold Utf8.valid
        simp only [Bool.or_eq_true, Bool.and_eq_true, decide_eq_true_eq]
        left; constructor <;> omega
      · have b' : j < i + 2 := b
        rcases (show j = i ∨ j = i + 1 by omega) with rfl | rfl
        · exact h
        · omega
    · exact bad hd.symm
  · split at hd
    · rename_i h1
      simp only [Bool.and_eq_true, decide_eq_true_eq, beq_iff_eq] at h1
      split at hd
      · rename_i h2
        simp only [Bool.and_eq_true, decide_eq_true_eq, ge_iff_le] at h2
        subst hd
        refine ⟨by show 128 ≤ _; omega, h2.2, by show 1 ≤ 3; omega, by show i + 3 ≤ _; omega, fun j a b => ?_⟩
        have b' : j < i + 3 := b
        rcases (show j = i ∨ j = i + 1 ∨ j = i + 2 by omega) with rfl | rfl | rfl
        · exact h
        · omega
        · omega
      · exact bad hd.symm
    · split at hd
      · rename_i h1
        simp only [Bool.and_eq_true, decide_eq_true_eq, beq_iff_eq] at h1
        split at hd
        · rename_i h2
          simp only [Bool.and_eq_true, decide_eq_true_eq, ge_iff_le] at h2
          subst hd
          refine ⟨by show 128 ≤ _; omega, h2.2, by show 1 ≤ 4; omega, by show i + 4 ≤ _; omega, fun j a b => ?_⟩
          have b' : j < i + 4 := b
          rcases (show j = i ∨ j = i + 1 ∨ j = i + 2 ∨ j = i + 3 by omega) with rfl | rfl | rfl | rfl
          · exact h
          · omega
          · omega
          · omega
        · exact bad hd.symm
      · exact bad hd.symm
theorem get!_drop {s : ByteArray} {a k : Nat} (h : a + k < s.size) : (ByteArray.mk (s.data.toList.drop a).toArray).get! k = s.get! (a + k) := by
  have hl : s.data.toList.length = s.size := len_size s
  have hs : (ByteArray.mk (s.data.toList.drop a).toArray).size = s.size - a := by show (s.data.toList.drop a).toArray.size = _; rw [List.size_toArray, List.length_drop, hl]
  rw [get!_eq (by rw [hs]; omega), get!_eq h]
  simp
theorem decodeLast_high {s : ByteArray} {n : Nat} (hn : s.size = n + 1) (h : 128 ≤ (s.get! n).toNat) :
    ∃ r z : Nat, Lib.decodeLastL s.data.toList = (r, z) ∧ 128 ≤ r ∧ Utf8.valid (r : Nat) = true ∧ 1 ≤ z ∧ z ≤ s.size ∧ ∀ j, s.size - z ≤ j → j < s.size → 128 ≤ (s.get! j).toNat := by
  have hl : s.data.toList.length = s.size := len_size s
  have hne : s.data.toList ≠ [] := fun e => by rw [e] at hl; simp at hl; omega
  have hlast : s.data.toList.getD (s.data.toList.length - 1) 0 = s.get! n := by
    rw [hl, hn, Nat.add_sub_cancel, get!_eq (by omega), List.getD_eq_getElem?_getD, List.getElem?_eq_getElem (by omega)]; rfl
  unfold Lib.decodeLastL
  rw [if_neg hne, hlast, if_neg (by omega)]
  obtain ⟨st, hst⟩ : ∃ st, Lib.lastStart s.data.toList = st := ⟨_, rfl⟩
  simp only [hst, hl]
  have bad : ∃ r z : Nat, ((Utf8.runeError, 1) : Nat × Nat) = (r, z) ∧ 128 ≤ r ∧ Utf8.valid (r : Nat) = true ∧ 1 ≤ z ∧ z ≤ s.size ∧ ∀ j, s.size - z ≤ j → j < s.size → 128 ≤ (s.get! j).toNat :=
    ⟨_, _, rfl, by decide, by decide, Nat.le_refl _, by omega, fun j h1 h2 => by
      obtain rfl : j = n := by omega
      exact h⟩
  split
  · rename_i he
    have hs : (ByteArray.mk (s.data.toList.drop st).toArray).size = s.size - st := by show (s.data.toList.drop st).toArray.size = _; rw [List.size_toArray, List.length_drop, hl]
    unfold Lib.decodeL at he ⊢
    by_cases h0 : 128 ≤ ((ByteArray.mk (s.data.toList.drop st).toArray).get! 0).toNat
    · have h1 : 0 < (ByteArray.mk (s.data.toList.drop st).toArray).size := by
        rcases Nat.lt_or_ge 0 (ByteArray.mk (s.data.toList.drop st).toArray).size with h | h
        · exact h
        · have e : s.data.toList.drop st = [] := List.drop_eq_nil_of_le (by omega)
          rw [e] at h0
          exact absurd h0 (by decide)
      have hh := decode_high h1 h0
      obtain ⟨⟨r, z⟩, hD⟩ : ∃ D, Utf8.decode (ByteArray.mk (s.data.toList.drop st).toArray) 0 = D := ⟨_, rfl⟩
      rw [hD] at hh he ⊢
      obtain ⟨a, b, c, d, e⟩ := hh
      simp only [Nat.zero_add] at a b c d e he
      refine ⟨r, z, rfl, a, b, c, by omega, fun j h2 h3 => ?_⟩
      have := e (j - st) (Nat.zero_le _) (by omega)
      rw [get!_drop (by omega)] at this
      rwa [show st + (j - st) = j by omega] at this
    · exfalso
      have e1 : Utf8.decode ⟨(s.data.toList.drop st).toArray⟩ 0 = (((ByteArray.mk (s.data.toList.drop st).toArray).get! 0).toNat, 1) := by
        unfold Utf8.decode
        simp only [Nat.add_zero]
        rw [if_pos (by omega)]
      rw [e1] at he
      have he' : st + 1 = s.size := he
      have := get!_drop (s := s) (a := st) (k := 0) (by omega)
      rw [this, Nat.add_zero, show st = n by omega] at h0
      exact h0 h
  · exact bad
/-- what a high rune's text is made of -/
theorem encode_high {r : Nat} (h : 128 ≤ r) (hv : Utf8.valid (r : Nat) = true) : (∃ a b : UInt8, Utf8.encode (r : Nat) = ⟨#[a, b]⟩ ∧ 128 ≤ b.toNat) ∨ 3 ≤ (Utf8.encode (r : Nat)).size := by
  unfold Utf8.encode
  simp only [hv, if_true, Int.toNat_natCast]
  rw [if_neg (by omega)]
  split
  · left
    refine ⟨_, _, rfl, ?_⟩
    rw [UInt8.toNat_ofNat']
    omega
  · right
    split <;> simp [ByteArray.size]
end Go.Pw
