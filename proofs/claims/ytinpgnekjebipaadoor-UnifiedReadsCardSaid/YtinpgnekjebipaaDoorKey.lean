/- The walks of an order, second part: begin, key. -/
import Derived.Test.YtinpgnekjebipaaDoorFields
import Derived.Test.YtinpgnekjebipaaDoorHunk
import Derived.Deep.RegionHeld3
set_option linter.unusedVariables false
set_option linter.unusedSimpArgs false
namespace Go.Proofs.YtinpgnekjebipaaDoor
open Go.RowKit Go.Pw

theorem skip_go {s : ByteArray} {n i : Nat} (hi : i < s.size) (hn : 0 < n) (hb : blankB s[i] = true) : skipF s n i = skipF s (n - 1) (i + 1) := by
  obtain ⟨m, rfl⟩ : ∃ m, n = m + 1 := ⟨n - 1, by omega⟩
  rw [skipF, bt_eq hi, if_pos hb]; rfl
theorem skip_stop {s : ByteArray} {n i : Nat} (hi : i < s.size) (hb : blankB s[i] = false) : skipF s n i = i := by
  cases n with
  | zero => rfl
  | succ m => rw [skipF, bt_eq hi, if_neg (by simp [hb])]

theorem pairCells_at : ∀ (l : List (Nat × Nat)) (i : Nat) (p : Nat × Nat), l[i]? = some p → (pairCells l)[i * 2]? = some (.int .i64 (p.1 : Int)) ∧ (pairCells l)[i * 2 + 1]? = some (.int .i64 (p.2 : Int))
  | x :: l, 0, p, h => by simp at h; subst h; simp [pairCells]
  | x :: l, i + 1, p, h => by
    have := pairCells_at l i p (by simpa using h)
    rw [show (i + 1) * 2 = i * 2 + 1 + 1 by omega]
    simpa [pairCells] using this
  | [], i, p, h => by simp at h
/-- a key as a value -/
def kyV (k : Ky) : Value := .agg #[.int .i64 k.first, .int .i64 k.firstB, .int .i64 k.last, .int .i64 k.lastB, .bool k.numeric, .bool k.reverse, .bool k.fold, .bool k.blanks]
theorem drew_below {M : Nat} {w w' : World} (h : Below M w.drew w') : Below M w w' := ⟨h.os, h.tape, h.output, h.size, h.block⟩

end Go.Proofs.YtinpgnekjebipaaDoor
