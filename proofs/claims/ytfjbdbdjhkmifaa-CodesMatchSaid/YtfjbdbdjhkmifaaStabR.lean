/- Plain: the searches of slices.SortStableFunc. -/
import Derived.Test.YtfjbdbdjhkmifaaStabQ
set_option linter.unusedVariables false
namespace Go.Pw
variable {α : Type} {lt : α → α → Bool}
theorem ltUp (h : Swo lt) {R : List α} (hR : Srt lt R) {c : Nat} {x y : α} (hy : R[c]? = some y) (hl : lt y x = true) : ∀ k z, k < c + 1 → R[k]? = some z → lt z x = true :=
  fun k z hk hz => h.lt_of_le_lt (hR.at_le h (by omega) hz hy) hl
theorem geUp (h : Swo lt) {R : List α} (hR : Srt lt R) {c : Nat} {x y : α} (hy : R[c]? = some y) (hl : lt y x = false) : ∀ k z, c ≤ k → R[k]? = some z → lt z x = false :=
  fun k z hk hz => h.trans _ _ _ hl (hR.at_le h hk hy hz)
theorem leDn (h : Swo lt) {L : List α} (hL : Srt lt L) {c : Nat} {y z : α} (hz : L[c]? = some z) (hl : lt y z = false) : ∀ k u, k < c + 1 → L[k]? = some u → lt y u = false :=
  fun k u hk hu => h.trans _ _ _ (hL.at_le h (by omega) hu hz) hl
theorem gtDn (h : Swo lt) {L : List α} (hL : Srt lt L) {c : Nat} {y z : α} (hz : L[c]? = some z) (hl : lt y z = true) : ∀ k u, c ≤ k → L[k]? = some u → lt y u = true :=
  fun k u hk hu => h.lt_of_lt_le hl (hL.at_le h hk hz hu)
theorem mrg_at_left {R : List α} {x : α} {p : Nat} (h1 : ∀ k z, k < p → R[k]? = some z → lt z x = true) (h2 : ∀ k z, p ≤ k → R[k]? = some z → lt z x = false) : mrg lt [x] R = R.take p ++ x :: R.drop p := by
  have := mrg_one_left lt (x := x) (R1 := R.take p) (R2 := R.drop p) (fun y hy => by
    obtain ⟨k, hk, rfl⟩ := List.getElem_of_mem hy
    rw [List.getElem_drop]
    exact h2 (p + k) _ (by omega) (List.getElem?_eq_getElem _)) (fun y hy => by
    obtain ⟨k, hk, rfl⟩ := List.getElem_of_mem hy
    rw [List.length_take] at hk
    rw [List.getElem_take]
    exact h1 k _ (by omega) (List.getElem?_eq_getElem _))
  rwa [List.take_append_drop] at this
theorem mrg_at_right {L : List α} {y : α} {p : Nat} (h1 : ∀ k z, k < p → L[k]? = some z → lt y z = false) (h2 : ∀ k z, p ≤ k → L[k]? = some z → lt y z = true) : mrg lt L [y] = L.take p ++ y :: L.drop p := by
  have := mrg_one_right lt (y := y) (L1 := L.take p) (L2 := L.drop p) (fun x hx => by
    obtain ⟨k, hk, rfl⟩ := List.getElem_of_mem hx
    rw [List.length_take] at hk
    rw [List.getElem_take]
    exact h1 k _ (by omega) (List.getElem?_eq_getElem _)) (fun x hx => by
    obtain ⟨k, hk, rfl⟩ := List.getElem_of_mem hx
    rw [List.getElem_drop]
    exact h2 (p + k) _ (by omega) (List.getElem?_eq_getElem _))
  rwa [List.take_append_drop] at this
theorem riseN_length (l : List α) (a : Nat) : ∀ k, (riseN l a k).length = l.length
  | 0 => rfl
  | k + 1 => by rw [riseN, swapL_length, riseN_length l a k]
theorem fallN_length (l : List α) (m : Nat) : ∀ k, (fallN l m k).length = l.length
  | 0 => rfl
  | k + 1 => by rw [fallN, swapL_length, fallN_length l m k]
theorem Srt.take {l : List α} (h : Srt lt l) (n : Nat) : Srt lt (l.take n) := h.sublist (List.take_sublist n l)
theorem Srt.drop {l : List α} (h : Srt lt l) (n : Nat) : Srt lt (l.drop n) := h.sublist (List.drop_sublist n l)
end Go.Pw
