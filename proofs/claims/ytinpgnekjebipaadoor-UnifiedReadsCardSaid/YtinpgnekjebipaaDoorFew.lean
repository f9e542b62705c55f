import Derived.Test.YtinpgnekjebipaaDoorLists
import Derived.Test.YtinpgnekjebipaaDoorHunk
set_option linter.unusedSimpArgs false
set_option linter.unusedVariables false
namespace Go.Proofs.YtinpgnekjebipaaDoor
open Go.RowKit Go.Pw

/-- whether all lists are short -/
def fewB (ls : List (List ByteArray)) : Bool := ls.all fun l => decide (l.length ≤ 60)
theorem fewB_cons (l : List ByteArray) (ls : List (List ByteArray)) : fewB (l :: ls) = (decide (l.length ≤ 60) && fewB ls) := by simp [fewB]

theorem info_string : (Tryd.prog.info? 9).map (fun i => (i.zero, i.size, i.bytes)) = some (some (.string ByteArray.empty), 1, 16) := by kernel_rfl
theorem one_new (w : World) (x : Value) (t : TypeId) : ∀ (j : Nat) (u : Value), [x][j]? = some u → (w.alloc (.cells #[x] t)).cell? (Addr.add ⟨w.heap.size, 0, none⟩ j) = some u
  | 0, u, h => by simp at h; subst h; simp [Addr.add, World.cell?_alloc_new]
  | j + 1, u, h => by simp at h

/-- a part of a list -/
def partOf (l : List ByteArray) (i j : Nat) : List ByteArray := (l.drop i).take (j - i)

end Go.Proofs.YtinpgnekjebipaaDoor
