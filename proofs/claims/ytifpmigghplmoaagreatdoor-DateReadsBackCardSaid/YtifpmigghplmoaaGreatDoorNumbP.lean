/- Lines get numbers: plain. -/
import Derived.Test.YtifpmigghplmoaaGreatDoorTextW
import Derived.Lib.ItoaLen
import Derived.Lib.ItoaMem
set_option linter.unusedVariables false
namespace Go.Pw
open Go.RowKit
structure Nb where
  start : Int
  step : Int
  width : Int
  zeros : Bool
  empty : Bool
  sep : ByteArray
def Nb.good (o : Nb) : Prop := (-1000000 ≤ o.start ∧ o.start ≤ 1000000) ∧ (-1000000 ≤ o.step ∧ o.step ≤ 1000000) ∧ (0 ≤ o.width ∧ o.width ≤ 1000) ∧ o.sep.size ≤ 1000
theorem decD_head (u : Nat) : ∃ c t, Lib.decDigits u = c :: t ∧ c ≠ 45 := by
  rw [Lib.decDigits_eq]
  have hn : 0 < Lib.nDigits u := by unfold Lib.nDigits; split <;> omega
  obtain ⟨m, hm⟩ : ∃ m, Lib.nDigits u = m + 1 := ⟨Lib.nDigits u - 1, by omega⟩
  rw [hm, List.range_succ_eq_map, List.map_cons]
  refine ⟨_, _, rfl, ?_⟩
  unfold Lib.dg
  intro h
  have := congrArg UInt8.toNat h
  simp at this
  omega
/-- a number, filled up -/
def fillN (n : Int) (w : Nat) (z : Bool) : List UInt8 :=
  if z && decide (n < 0) then 45 :: (List.replicate (w - (Lib.itoa n).length) 48 ++ (Lib.itoa n).drop 1)
  else List.replicate (w - (Lib.itoa n).length) (if z then 48 else 32) ++ Lib.itoa n
theorem itoa_cut_neg {n : Int} (h : n < 0) : Lib.trimPrefix (Lib.itoa n) [45] = (Lib.itoa n).drop 1 ∧ Lib.hasPrefix (Lib.itoa n) [45] = true := by
  obtain ⟨u, rfl⟩ : ∃ u : Nat, n = -(u : Int) := ⟨n.natAbs, by omega⟩
  rw [Lib.itoa_neg u (by omega)]
  exact ⟨rfl, rfl⟩
theorem itoa_cut_pos {n : Int} (h : ¬ n < 0) : Lib.trimPrefix (Lib.itoa n) [45] = Lib.itoa n ∧ Lib.hasPrefix (Lib.itoa n) [45] = false := by
  obtain ⟨u, rfl⟩ : ∃ u : Nat, n = (u : Int) := ⟨n.natAbs, by omega⟩
  rw [Lib.itoa_nonneg u]
  obtain ⟨c, t, e, hc⟩ := decD_head u
  rw [e]
  have hp : Lib.hasPrefix (c :: t) [45] = false := by
    unfold Lib.hasPrefix List.isPrefixOf
    rw [beq_false_of_ne (Ne.symm hc)]
    rfl
  refine ⟨?_, hp⟩
  unfold Lib.trimPrefix
  rw [hp]
  rfl
theorem itoa_pos_len (n : Int) : 0 < (Lib.itoa n).length := by
  by_cases h : n < 0
  · obtain ⟨u, rfl⟩ : ∃ u : Nat, n = -(u : Int) := ⟨n.natAbs, by omega⟩
    rw [Lib.itoa_neg u (by omega)]; simp
  · obtain ⟨u, rfl⟩ : ∃ u : Nat, n = (u : Int) := ⟨n.natAbs, by omega⟩
    rw [Lib.itoa_nonneg u]
    obtain ⟨c, t, e, _⟩ := decD_head u
    rw [e]; simp
theorem fillN_len (n : Int) (w : Nat) (z : Bool) (h0 : -9223372036854775808 ≤ n) (h1 : n ≤ 9223372036854775807) (hw : w ≤ 1000) : (fillN n w z).length ≤ 1021 := by
  have h2 := Lib.itoa_length_le n h0 h1
  have h3 := itoa_pos_len n
  unfold fillN
  split
  · rw [List.length_cons, List.length_append, List.length_replicate, List.length_drop]; omega
  · rw [List.length_append, List.length_replicate]; omega
/-- a line with its number -/
def numLine (o : Nb) (n : Int) (x : ByteArray) : ByteArray := (mkB (fillN n o.width.toNat o.zeros) ++ o.sep) ++ x
/-- the lines with numbers, and the next number -/
def numTo (o : Nb) (L : List ByteArray) : Nat → List ByteArray × Int
  | 0 => ([], o.start)
  | k + 1 => if ((L.getD k ⟨#[]⟩).size == 0) && !o.empty then ((numTo o L k).1 ++ [L.getD k ⟨#[]⟩], (numTo o L k).2) else ((numTo o L k).1 ++ [numLine o (numTo o L k).2 (L.getD k ⟨#[]⟩)], (numTo o L k).2 + o.step)
theorem numTo_len (o : Nb) (L : List ByteArray) : ∀ k, (numTo o L k).1.length = k
  | 0 => rfl
  | k + 1 => by
    have ih := numTo_len o L k
    rw [numTo]
    split <;> simp [ih]
theorem numTo_num {o : Nb} (ho : o.good) (L : List ByteArray) : ∀ k : Nat, -1000000 - 1000000 * (k : Int) ≤ (numTo o L k).2 ∧ (numTo o L k).2 ≤ 1000000 + 1000000 * (k : Int)
  | 0 => by
    obtain ⟨⟨h1, h2⟩, _⟩ := ho
    simp [numTo]; omega
  | k + 1 => by
    have ih := numTo_num ho L k
    obtain ⟨_, ⟨h1, h2⟩, _⟩ := ho
    rw [numTo]
    split
    · simp only; omega
    · simp only; omega
theorem numLine_size {o : Nb} (ho : o.good) {n : Int} {x : ByteArray} (h0 : -9223372036854775808 ≤ n) (h1 : n ≤ 9223372036854775807) : (numLine o n x).size ≤ x.size + 2021 := by
  obtain ⟨_, _, ⟨h2, h3⟩, h4⟩ := ho
  unfold numLine
  rw [ByteArray.size_append, ByteArray.size_append, mkB_size]
  have := fillN_len n o.width.toNat o.zeros h0 h1 (by omega)
  omega
theorem numTo_bound {o : Nb} (ho : o.good) (L : List ByteArray) (M : Nat) (hL : L.length ≤ 1000000) (hM : ∀ x ∈ L, x.size ≤ M) : ∀ k : Nat, k ≤ L.length → (∀ y ∈ (numTo o L k).1, y.size ≤ M + 2021) ∧ (resL (numTo o L k).1).length ≤ k * (M + 2022)
  | 0, _ => by simp [numTo, resL]
  | k + 1, h => by
    obtain ⟨i1, i2⟩ := numTo_bound ho L M hL hM k (by omega)
    have hn := numTo_num ho L k
    have hk : k < L.length := by omega
    have hd : L.getD k ⟨#[]⟩ = L[k] := by simp [List.getD, hk]
    have hx := hM L[k] (List.getElem_mem hk)
    have hz := numLine_size ho (n := (numTo o L k).2) (x := L[k]) (by omega) (by omega)
    have e : (k + 1) * (M + 2022) = k * (M + 2022) + (M + 2022) := Nat.succ_mul _ _
    rw [numTo, hd]
    split
    · refine ⟨fun y hy => ?_, ?_⟩
      · rcases List.mem_append.1 hy with hy | hy
        · exact i1 y hy
        · simp at hy; subst hy; omega
      · rw [resL_append, List.length_append]
        have := len_size L[k]
        simp only [resL, List.length_append, List.length_cons, List.length_nil]
        omega
    · refine ⟨fun y hy => ?_, ?_⟩
      · rcases List.mem_append.1 hy with hy | hy
        · exact i1 y hy
        · simp at hy; subst hy; omega
      · rw [resL_append, List.length_append]
        have := len_size (numLine o (numTo o L k).2 L[k])
        simp only [resL, List.length_append, List.length_cons, List.length_nil]
        omega
end Go.Pw
