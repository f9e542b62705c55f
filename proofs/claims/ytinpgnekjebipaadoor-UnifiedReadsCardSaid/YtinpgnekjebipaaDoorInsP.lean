/- Plain: an insertion sort of a part of a list, as slices.SortStableFunc does it with few elements. -/
set_option linter.unusedVariables false
namespace Go.Pw
variable {α : Type}

/-- two places of a list exchanged -/
def swapL (l : List α) (i j : Nat) : List α := match l[i]?, l[j]? with
  | some x, some y => (l.set i y).set j x
  | _, _ => l
theorem swapL_length (l : List α) (i j : Nat) : (swapL l i j).length = l.length := by
  unfold swapL; split <;> simp
theorem swapL_eq (l : List α) (i j : Nat) (hi : i < l.length) (hj : j < l.length) : swapL l i j = (l.set i l[j]).set j l[i] := by
  unfold swapL; rw [List.getElem?_eq_getElem hi, List.getElem?_eq_getElem hj]
/-- the element at a place sinks; n: how far it may -/
def sinkL (lt : α → α → Bool) : Nat → Nat → List α → List α
  | 0, _, l => l
  | n + 1, j, l => match l[j]?, l[j - 1]? with
    | some x, some y => if lt x y then sinkL lt n (j - 1) (swapL l j (j - 1)) else l
    | _, _ => l
theorem sinkL_length (lt : α → α → Bool) : ∀ n j (l : List α), (sinkL lt n j l).length = l.length
  | 0, _, _ => rfl
  | n + 1, j, l => by
    unfold sinkL
    split
    · split
      · rw [sinkL_length lt n, swapL_length]
      · rfl
    · rfl
theorem sinkL_step (lt : α → α → Bool) (n j : Nat) (l : List α) (hj : j < l.length) : sinkL lt (n + 1) j l = if lt l[j] (l[j - 1]'(by omega)) then sinkL lt n (j - 1) (swapL l j (j - 1)) else l := by
  have h1 : j - 1 < l.length := by omega
  rw [sinkL, List.getElem?_eq_getElem hj, List.getElem?_eq_getElem h1]
/-- the part from a on, of so many elements, is sorted by insertion -/
def insL (lt : α → α → Bool) (a : Nat) : Nat → List α → List α
  | 0, l => l
  | n + 1, l => sinkL lt n (a + n) (insL lt a n l)
theorem insL_length (lt : α → α → Bool) (a : Nat) : ∀ n (l : List α), (insL lt a n l).length = l.length
  | 0, _ => rfl
  | n + 1, l => by rw [insL, sinkL_length, insL_length lt a n]
theorem mem_swapL {l : List α} {i j : Nat} {x : α} (h : x ∈ swapL l i j) : x ∈ l := by
  unfold swapL at h
  split at h
  · rename_i y z h1 h2
    have m1 := List.mem_of_getElem? h1
    have m2 := List.mem_of_getElem? h2
    rcases List.mem_or_eq_of_mem_set h with h | h
    · rcases List.mem_or_eq_of_mem_set h with h | h
      · exact h
      · subst h; exact m2
    · subst h; exact m1
  · exact h
theorem mem_sinkL {lt : α → α → Bool} {x : α} : ∀ {n j : Nat} {l : List α}, x ∈ sinkL lt n j l → x ∈ l
  | 0, _, _, h => h
  | n + 1, j, l, h => by
    unfold sinkL at h
    split at h
    · split at h
      · exact mem_swapL (mem_sinkL h)
      · exact h
    · exact h
theorem mem_insL {lt : α → α → Bool} {a : Nat} {x : α} : ∀ {n : Nat} {l : List α}, x ∈ insL lt a n l → x ∈ l
  | 0, _, h => h
  | n + 1, l, h => mem_insL (mem_sinkL h)
end Go.Pw
