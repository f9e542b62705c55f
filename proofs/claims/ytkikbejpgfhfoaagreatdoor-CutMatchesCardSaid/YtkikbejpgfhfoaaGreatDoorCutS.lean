/- Cutting parts out of lines: plain: sizes. -/
import Derived.Test.YtkikbejpgfhfoaaGreatDoorCutP
set_option linter.unusedVariables false
namespace Go.Pw
open Go.RowKit
theorem splC_sum (b : UInt8) : ∀ (l cur : List UInt8), ((splC b cur l).map (fun x => x.length + 1)).sum = cur.length + l.length + 1
  | [], cur => by simp [splC]
  | c :: l, cur => by
    rw [splC]
    split
    · rw [List.map_cons, List.sum_cons, splC_sum b l []]; simp; omega
    · rw [splC_sum b l]; simp; omega
theorem lnF_sum : ∀ (l cur : List UInt8), ((lnF cur l).map (fun x => x.length + 1)).sum ≤ cur.length + l.length + 1
  | [], cur => by
    rw [lnF]
    split <;> simp
  | c :: l, cur => by
    rw [lnF]
    split
    · have := lnF_sum l []
      rw [List.map_cons, List.sum_cons]
      simp at this ⊢
      omega
    · have := lnF_sum l (cur ++ [c])
      simp at this ⊢
      omega
/-- the bytes of texts, a line feed behind each -/
def sumL (l : List ByteArray) : Nat := (l.map fun x => x.size + 1).sum
theorem sumL_snoc (l : List ByteArray) (x : ByteArray) : sumL (l ++ [x]) = sumL l + (x.size + 1) := by simp [sumL]
theorem sumL_take (l : List ByteArray) (k : Nat) : sumL (l.take k) ≤ sumL l := by
  have : sumL l = sumL (l.take k) + sumL (l.drop k) := by
    unfold sumL
    rw [← List.sum_append, ← List.map_append, List.take_append_drop]
  omega
theorem sumL_lines (s : ByteArray) : sumL (linesOf s) ≤ s.size + 1 := by
  have h := lnF_sum s.data.toList []
  unfold sumL linesOf
  rw [List.map_map]
  have e : ((fun x : ByteArray => x.size + 1) ∘ mkB) = fun x : List UInt8 => x.length + 1 := by
    funext x
    simp [mkB_size]
  rw [e]
  have := len_size s
  simp at h
  omega
theorem sumL_split (s : ByteArray) (b : UInt8) : sumL ((splC b [] s.data.toList).map mkB) = s.size + 1 := by
  have h := splC_sum b s.data.toList []
  unfold sumL
  rw [List.map_map]
  have e : ((fun x : ByteArray => x.size + 1) ∘ mkB) = fun x : List UInt8 => x.length + 1 := by
    funext x
    simp [mkB_size]
  rw [e, h]
  have := len_size s
  simp
theorem resL_len : ∀ l : List ByteArray, (resL l).length = sumL l
  | [] => rfl
  | x :: l => by
    have := len_size x
    rw [resL, List.length_append, List.length_cons, resL_len l]
    simp [sumL]; omega
theorem jnB_nil (sep : ByteArray) : jnB sep [] = ⟨#[]⟩ := rfl
/-- the taken words joined are no longer than the words with what is put between them -/
theorem cw_size (c : Ct) (ws : List ByteArray) : ∀ k, k ≤ ws.length → (jnB c.betw (cwTo c ws k)).size ≤ sumL (ws.take k) * (c.betw.size + 1)
  | 0, _ => by rw [cwTo, jnB_nil]; exact Nat.zero_le _
  | k + 1, h => by
    have ih := cw_size c ws k (by omega)
    have hk : k < ws.length := by omega
    have e : sumL (ws.take (k + 1)) * (c.betw.size + 1) = sumL (ws.take k) * (c.betw.size + 1) + (ws[k].size + 1) * (c.betw.size + 1) := by
      rw [List.take_succ_eq_append_getElem hk, sumL_snoc, Nat.add_mul]
    have e2 : (ws[k].size + 1) * (c.betw.size + 1) = ws[k].size * (c.betw.size + 1) + (c.betw.size + 1) := Nat.succ_mul _ _
    have e3 : ws[k].size ≤ ws[k].size * (c.betw.size + 1) := Nat.le_mul_of_pos_right _ (by omega)
    rw [cwTo, e]
    have hd : ws.getD k ⟨#[]⟩ = ws[k] := by simp [List.getD, hk]
    split
    · rw [hd, jnB_snoc]
      split
      · omega
      · rw [ByteArray.size_append, ByteArray.size_append]; omega
    · omega
theorem cw_sum (c : Ct) (ws : List ByteArray) : ∀ k, k ≤ ws.length → sumL (cwTo c ws k) ≤ sumL (ws.take k) ∧ (cwTo c ws k).length ≤ k
  | 0, _ => by simp [cwTo]
  | k + 1, h => by
    obtain ⟨ih, ih2⟩ := cw_sum c ws k (by omega)
    have hk : k < ws.length := by omega
    have hd : ws.getD k ⟨#[]⟩ = ws[k] := by simp [List.getD, hk]
    rw [cwTo, List.take_succ_eq_append_getElem hk, sumL_snoc]
    split
    · rw [hd, sumL_snoc, List.length_append]; simp; omega
    · omega
theorem sumB_sumL (l : List ByteArray) : sumB l ≤ sumL l := by
  unfold sumB sumL
  induction l with
  | nil => simp
  | cons x l ih => simp at ih ⊢; omega
theorem cutLine_size {c : Ct} {s x : ByteArray} (h : cutLine c s = some x) : x.size ≤ (s.size + 1) * (c.betw.size + 1) := by
  have e0 : (s.size + 1) * (c.betw.size + 1) = s.size * (c.betw.size + 1) + (c.betw.size + 1) := Nat.succ_mul _ _
  have e3 : s.size ≤ s.size * (c.betw.size + 1) := Nat.le_mul_of_pos_right _ (by omega)
  unfold cutLine at h
  split at h
  · split at h
    · injection h with h
      subst h
      have h1 := cw_size c ((splC (bt c.sep 0) [] s.data.toList).map mkB) _ (Nat.le_refl _)
      rw [List.take_length, sumL_split] at h1
      exact h1
    · split at h
      · cases h
      · injection h with h
        subst h
        omega
  · injection h with h
    subst h
    have h1 := cbTo_len c s s.size
    unfold cutBytes
    rw [mkB_size]; omega
theorem cutLs_sum (c : Ct) : ∀ l : List ByteArray, sumL (cutLs c l) ≤ sumL l * (c.betw.size + 2)
  | [] => by simp [cutLs, sumL]
  | s :: l => by
    have ih := cutLs_sum c l
    have e : sumL (s :: l) * (c.betw.size + 2) = (s.size + 1) * (c.betw.size + 2) + sumL l * (c.betw.size + 2) := by simp [sumL, Nat.add_mul]
    have e2 : (s.size + 1) * (c.betw.size + 2) = (s.size + 1) * (c.betw.size + 1) + (s.size + 1) := Nat.mul_succ _ _
    unfold cutLs at ih ⊢
    rw [List.filterMap_cons, e]
    cases hx : cutLine c s with
    | none => simp only; omega
    | some x =>
      have h := cutLine_size hx
      simp only
      have : sumL (x :: l.filterMap (cutLine c)) = (x.size + 1) + sumL (l.filterMap (cutLine c)) := by simp [sumL]
      omega
theorem cutLs_len (c : Ct) (l : List ByteArray) : (cutLs c l).length ≤ l.length := List.length_filterMap_le _ _
end Go.Pw
