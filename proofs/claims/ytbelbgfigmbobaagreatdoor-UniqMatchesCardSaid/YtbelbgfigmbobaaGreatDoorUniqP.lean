/- Groups of lines that follow each other: plain. -/
import Derived.Test.YtbelbgfigmbobaaGreatDoorTextW
import Derived.Lib.ItoaLen
set_option linter.unusedVariables false
namespace Go.Pw
open Go.RowKit
/-- places that lie one behind the other, from a to z -/
def chain : Nat → List (Nat × Nat) → Nat → Prop
  | a, [], z => a = z
  | a, p :: l, z => p.1 = a ∧ chain p.2 l z
theorem chain_snoc : ∀ {a z : Nat} {l : List (Nat × Nat)} (i : Nat), chain a l z → chain a (l ++ [(z, i)]) i
  | a, z, [], i, h => ⟨h.symm, rfl⟩
  | a, z, p :: l, i, h => ⟨h.1, chain_snoc i h.2⟩
theorem chain_start {a z : Nat} {l : List (Nat × Nat)} (h : chain a l z) : (l.getD 0 (z, z)).1 = a := by
  cases l with
  | nil => exact h.symm
  | cons p l => exact h.1
theorem chain_to : ∀ {a z : Nat} {l : List (Nat × Nat)} (k : Nat) (p : Nat × Nat), chain a l z → l[k]? = some p → p.2 = (l.getD (k + 1) (z, z)).1
  | a, z, q :: l, 0, p, h, hp => by
    simp at hp
    subst hp
    have := chain_start h.2
    simpa [List.getD] using this.symm
  | a, z, q :: l, k + 1, p, h, hp => by
    have := chain_to k p h.2 (by simpa using hp)
    simpa [List.getD] using this
theorem fld_chain (line : ByteArray) : ∀ i, chain 0 (fldTo line ⟨#[]⟩ i).1 (fldTo line ⟨#[]⟩ i).2
  | 0 => rfl
  | i + 1 => by
    have ih := fld_chain line i
    unfold fldTo
    split
    · rw [if_pos (show (⟨#[]⟩ : ByteArray).size = 0 from rfl)]
      exact chain_snoc i ih
    · exact ih
theorem fldL_chain (line : ByteArray) : chain 0 (fldL line ⟨#[]⟩) line.size := chain_snoc line.size (fld_chain line line.size)
/-- what is told of groups, as data -/
structure Uq where
  fields : Int
  skip : Int
  bytes : Int
  fold : Bool
  count : Bool
  rep : Bool
  alone : Bool
def Uq.good (o : Uq) : Prop := 0 ≤ o.fields ∧ o.fields ≤ 65536 ∧ 0 ≤ o.skip ∧ o.skip ≤ 65536 ∧ 0 ≤ o.bytes ∧ o.bytes ≤ 65536
/-- where what is compared begins, ahead of the bytes that are passed over -/
def alkAt (o : Uq) (line : ByteArray) : Nat := ((fldL line ⟨#[]⟩).getD o.fields.toNat (line.size, line.size)).1
theorem alkAt_zero {o : Uq} {line : ByteArray} (h : o.fields = 0) : alkAt o line = 0 := by
  unfold alkAt
  rw [h]
  exact chain_start (fldL_chain line)
theorem alkAt_to {o : Uq} {line : ByteArray} {k : Nat} {p : Nat × Nat} (h0 : 0 < o.fields) (hk : (k : Int) + 1 = min o.fields ((fldL line ⟨#[]⟩).length : Int)) (hp : (fldL line ⟨#[]⟩)[k]? = some p) : p.2 = alkAt o line := by
  have h := chain_to k p (fldL_chain line) hp
  rw [h]
  unfold alkAt
  by_cases hl : o.fields ≤ ((fldL line ⟨#[]⟩).length : Int)
  · rw [show o.fields.toNat = k + 1 by omega]
  · rw [List.getD_eq_getElem?_getD, List.getD_eq_getElem?_getD, List.getElem?_eq_none (by omega), List.getElem?_eq_none (by omega)]
theorem alkAt_le (o : Uq) (line : ByteArray) : alkAt o line ≤ line.size := by
  unfold alkAt
  rw [List.getD_eq_getElem?_getD]
  cases hp : (fldL line ⟨#[]⟩)[o.fields.toNat]? with
  | none => exact Nat.le_refl _
  | some p =>
    have := (fldL_ok line ⟨#[]⟩).2.2 p (List.mem_of_getElem? hp)
    show p.1 ≤ _
    omega
def upS (s : ByteArray) : ByteArray := ⟨(s.data.toList.map upB).toArray⟩
def alkCut (o : Uq) (line : ByteArray) : ByteArray := line.extract (min (alkAt o line + o.skip.toNat) line.size) line.size
def alkMid (o : Uq) (s : ByteArray) : ByteArray := if 0 < o.bytes then s.extract 0 (min o.bytes.toNat s.size) else s
/-- what is compared of a line -/
def alk (o : Uq) (line : ByteArray) : ByteArray := if o.fold then upS (alkMid o (alkCut o line)) else alkMid o (alkCut o line)
/-- how many lines from a place on are alike -/
def runL (o : Uq) (L : List ByteArray) (i : Nat) : Nat := 1 + ((L.drop (i + 1)).takeWhile (fun y => decide (alk o y = alk o (L.getD i ⟨#[]⟩)))).length
theorem tw_len {α : Type} (p : α → Bool) : ∀ (l : List α) (n : Nat), n ≤ l.length → (∀ j x, j < n → l[j]? = some x → p x = true) → (∀ x, l[n]? = some x → p x = false) → (l.takeWhile p).length = n
  | [], n, h1, _, _ => by simp at h1; subst h1; rfl
  | x :: l, 0, _, _, h3 => by
    have := h3 x rfl
    rw [List.takeWhile_cons, this]; rfl
  | x :: l, n + 1, h1, h2, h3 => by
    have hx := h2 0 x (by omega) rfl
    rw [List.takeWhile_cons, hx]
    have := tw_len p l n (by simpa using h1) (fun j y hj hy => h2 (j + 1) y (by omega) (by simpa using hy)) (fun y hy => h3 y (by simpa using hy))
    simp [this]
theorem runL_eq {o : Uq} {L : List ByteArray} {i n : Nat} (hi : i < L.length) (hn : i + n < L.length + 1) (h1 : 1 ≤ n) (h2 : ∀ j, 1 ≤ j → j < n → alk o (L.getD (i + j) ⟨#[]⟩) = alk o (L.getD i ⟨#[]⟩)) (h3 : i + n < L.length → ¬ alk o (L.getD (i + n) ⟨#[]⟩) = alk o (L.getD i ⟨#[]⟩)) : runL o L i = n := by
  unfold runL
  rw [tw_len _ _ (n - 1) (by rw [List.length_drop]; omega) (fun j x hj hx => ?_) (fun x hx => ?_)]
  · omega
  · rw [List.getElem?_drop] at hx
    have := h2 (j + 1) (by omega) (by omega)
    rw [List.getD_eq_getElem?_getD, show i + (j + 1) = i + 1 + j by omega, hx] at this
    simpa using this
  · rw [List.getElem?_drop] at hx
    have hlt := (List.getElem?_eq_some_iff.1 hx).1
    have := h3 (by omega)
    rw [List.getD_eq_getElem?_getD, show i + n = i + 1 + (n - 1) by omega, hx] at this
    simpa using this
theorem runL_pos (o : Uq) (L : List ByteArray) (i : Nat) : 1 ≤ runL o L i := by unfold runL; omega
/-- what a group of so many lines tells -/
def pieceU (o : Uq) (x : ByteArray) (n : Nat) : List ByteArray := if (!(o.rep && n == 1)) && !(o.alone && decide (1 < n)) then [if o.count then ((⟨(Lib.itoa (n : Int)).toArray⟩ : ByteArray) ++ (⟨#[32]⟩ : ByteArray)) ++ x else x] else []
/-- what the groups from a place on tell -/
def grpU (o : Uq) (L : List ByteArray) (i : Nat) : List ByteArray := if h : i < L.length then pieceU o L[i] (runL o L i) ++ grpU o L (i + runL o L i) else []
termination_by L.length - i
decreasing_by have := runL_pos o L i; omega
theorem grpU_next {o : Uq} {L : List ByteArray} {i : Nat} (h : i < L.length) : grpU o L i = pieceU o L[i] (runL o L i) ++ grpU o L (i + runL o L i) := by
  rw [grpU, dif_pos h]
theorem grpU_end {o : Uq} {L : List ByteArray} {i : Nat} (h : ¬ i < L.length) : grpU o L i = [] := by
  rw [grpU, dif_neg h]
theorem pieceU_bound (o : Uq) (x : ByteArray) (n : Nat) (hn : n ≤ 1000000) : (pieceU o x n).length ≤ 1 ∧ (∀ y ∈ pieceU o x n, y.size ≤ x.size + 22) ∧ (resL (pieceU o x n)).length ≤ x.size + 23 := by
  have hi := Lib.itoa_length_le (n : Int) (by omega) (by omega)
  have hz : ∀ y, y = (if o.count then ((⟨(Lib.itoa (n : Int)).toArray⟩ : ByteArray) ++ (⟨#[32]⟩ : ByteArray)) ++ x else x) → y.size ≤ x.size + 22 := by
    intro y hy
    subst hy
    split
    · rw [ByteArray.size_append, ByteArray.size_append]
      have e1 : (⟨(Lib.itoa (n : Int)).toArray⟩ : ByteArray).size = (Lib.itoa (n : Int)).length := by simp [ByteArray.size]
      have e2 : (⟨#[32]⟩ : ByteArray).size = 1 := rfl
      omega
    · omega
  unfold pieceU
  split
  · refine ⟨by simp, fun y hy => hz y (by simpa using hy), ?_⟩
    have := hz _ rfl
    simp only [resL, List.length_append, List.length_cons, List.length_nil]
    have e := len_size (if o.count then ((⟨(Lib.itoa (n : Int)).toArray⟩ : ByteArray) ++ (⟨#[32]⟩ : ByteArray)) ++ x else x)
    omega
  · simp [resL]
theorem runL_le {o : Uq} {L : List ByteArray} {i : Nat} (h : i < L.length) : i + runL o L i ≤ L.length := by
  unfold runL
  have := (List.takeWhile_prefix (l := L.drop (i + 1)) (fun y => decide (alk o y = alk o (L.getD i ⟨#[]⟩)))).length_le
  rw [List.length_drop] at this
  omega
theorem grpU_bound (o : Uq) (L : List ByteArray) (M : Nat) (hL : L.length ≤ 1000000) (hM : ∀ x ∈ L, x.size ≤ M) : ∀ (m i : Nat), L.length - i ≤ m → (grpU o L i).length ≤ L.length - i ∧ (∀ y ∈ grpU o L i, y.size ≤ M + 22) ∧ (resL (grpU o L i)).length ≤ (L.length - i) * (M + 23) := by
  intro m
  induction m with
  | zero => intro i hi; rw [grpU_end (by omega)]; simp [resL]
  | succ m ih =>
    intro i hi
    by_cases h : i < L.length
    · have h1 := runL_pos o L i
      have h2 := runL_le (o := o) h
      obtain ⟨a1, a2, a3⟩ := ih (i + runL o L i) (by omega)
      obtain ⟨b1, b2, b3⟩ := pieceU_bound o L[i] (runL o L i) (by omega)
      have hx := hM L[i] (List.getElem_mem h)
      rw [grpU_next h]
      refine ⟨by rw [List.length_append]; omega, fun y hy => ?_, ?_⟩
      · rcases List.mem_append.1 hy with hy | hy
        · have := b2 y hy; omega
        · exact a2 y hy
      · rw [resL_append, List.length_append]
        have e : (L.length - i) * (M + 23) = (L.length - (i + 1)) * (M + 23) + (M + 23) := by
          rw [show L.length - i = (L.length - (i + 1)) + 1 by omega, Nat.succ_mul]
        have e2 : (L.length - (i + runL o L i)) * (M + 23) ≤ (L.length - (i + 1)) * (M + 23) := Nat.mul_le_mul (by omega) (Nat.le_refl _)
        omega
    · rw [grpU_end h]; simp [resL]
end Go.Pw
