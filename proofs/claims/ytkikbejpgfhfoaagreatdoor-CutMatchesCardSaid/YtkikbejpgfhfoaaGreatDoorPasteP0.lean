/- Plain: texts side by side. -/
import Derived.Test.YtkikbejpgfhfoaaGreatDoorTextW
set_option linter.unusedVariables false
set_option linter.unusedSimpArgs false
namespace Go.Pw
/-- the byte between two words -/
def sepB (bt : ByteArray) (k : Nat) : List UInt8 := if 0 < k ∧ 0 < bt.size then [bt.data.toList.getD ((k - 1) % bt.size) 0] else []
/-- the first k words, joined by bytes that are taken in order -/
def altP (bt : ByteArray) (l : List ByteArray) : Nat → List UInt8
  | 0 => []
  | k + 1 => altP bt l k ++ sepB bt k ++ (l.getD k ⟨#[]⟩).data.toList
def altB (bt : ByteArray) (l : List ByteArray) : ByteArray := mkB (altP bt l l.length)
/-- word n of each text -/
def rowN (ls : List (List ByteArray)) (n : Nat) : List ByteArray := ls.map fun l => l.getD n ⟨#[]⟩
/-- the greatest number of lines -/
def highN : List (List ByteArray) → Nat
  | [] => 0
  | l :: ls => max l.length (highN ls)
theorem highN_append (a : List (List ByteArray)) (l : List ByteArray) : highN (a ++ [l]) = max (highN a) l.length := by
  induction a with
  | nil => simp [highN]
  | cons x a ih => rw [List.cons_append, highN, ih, highN]; omega
theorem highN_le : ∀ {ls : List (List ByteArray)} {l : List ByteArray}, l ∈ ls → l.length ≤ highN ls
  | x :: ls, l, h => by
    rw [highN]
    rcases List.mem_cons.1 h with rfl | h
    · omega
    · have := highN_le h; omega
theorem highN_any : ∀ (ls : List (List ByteArray)) (n : Nat), ls.any (fun l => decide (n < l.length)) = decide (n < highN ls)
  | [], n => by simp [highN]
  | x :: ls, n => by
    rw [List.any_cons, highN_any ls n, highN, ← Bool.decide_or]
    exact decide_eq_decide.2 (by omega)
theorem highN_bound : ∀ {ls : List (List ByteArray)} {M : Nat}, (∀ l ∈ ls, l.length ≤ M) → highN ls ≤ M
  | [], _, _ => Nat.zero_le _
  | x :: ls, M, h => by
    have h1 := h x (by simp)
    have h2 := highN_bound fun l hl => h l (List.mem_cons_of_mem x hl)
    rw [highN]; omega
theorem sepB_le (bt : ByteArray) (k : Nat) : (sepB bt k).length ≤ 1 := by unfold sepB; split <;> simp
theorem altP_le {bt : ByteArray} {l : List ByteArray} {M : Nat} (h : ∀ s ∈ l, s.size ≤ M) : ∀ k, k ≤ l.length → (altP bt l k).length ≤ k * (M + 1)
  | 0, _ => Nat.zero_le _
  | k + 1, hk => by
    have h1 := altP_le (bt := bt) h k (by omega)
    have h2 := sepB_le bt k
    have h3 := h _ (List.getElem_mem (show k < l.length by omega))
    rw [altP, List.length_append, List.length_append, show l.getD k ⟨#[]⟩ = l[k]'(by omega) by simp [List.getD, show k < l.length by omega], len_size, Nat.add_mul]
    omega
theorem altP_mono (bt : ByteArray) (l : List ByteArray) (k : Nat) : ∀ d, (altP bt l k).length ≤ (altP bt l (k + d)).length
  | 0 => Nat.le_refl _
  | d + 1 => by
    have := altP_mono bt l k d
    rw [show k + (d + 1) = (k + d) + 1 by omega, altP, List.length_append, List.length_append]; omega
/-- what is told of texts side by side -/
def pasteL (bt : ByteArray) (serial : Bool) (ls : List (List ByteArray)) : List ByteArray :=
  if serial then ls.map (altB bt) else (List.range (highN ls)).map fun n => altB bt (rowN ls n)
end Go.Pw
