/- The walks of Comm: the closures that tell a line. -/
import Derived.Test.YtoieicdnehnacaaGreatDoorRefL
import Derived.Test.YtoieicdnehnacaaGreatDoorCommP
import Derived.OneCell
set_option linter.unusedVariables false
set_option linter.unusedSimpArgs false
namespace Go.Pw
open Go.RowKit
def slLen : Value → Nat
  | .slice _ n _ => n
  | _ => 0
theorem bit1 {hd k : Nat} (h : hd ≤ 7) (hk : k ≤ 2) : bits BinOp.and IntKind.i64 ((hd : Int) / 2 ^ k) 1 = if hd.testBit k then 1 else 0 := by
  rcases (by omega : hd = 0 ∨ hd = 1 ∨ hd = 2 ∨ hd = 3 ∨ hd = 4 ∨ hd = 5 ∨ hd = 6 ∨ hd = 7) with rfl | rfl | rfl | rfl | rfl | rfl | rfl | rfl <;>
    rcases (by omega : k = 0 ∨ k = 1 ∨ k = 2) with rfl | rfl | rfl <;> decide +kernel
theorem bit2 {hd k : Nat} (h : hd ≤ 7) (hk : k ≤ 2) : bits BinOp.and IntKind.i64 (hd : Int) ((2 ^ k : Nat) : Int) = if hd.testBit k then ((2 ^ k : Nat) : Int) else 0 := by
  rcases (by omega : hd = 0 ∨ hd = 1 ∨ hd = 2 ∨ hd = 3 ∨ hd = 4 ∨ hd = 5 ∨ hd = 6 ∨ hd = 7) with rfl | rfl | rfl | rfl | rfl | rfl | rfl | rfl <;>
    rcases (by omega : k = 0 ∨ k = 1 ∨ k = 2) with rfl | rfl | rfl <;> decide +kernel
theorem own_slice {w : World} {base : Nat} {e : TypeId} {size : Nat} {v : Value} {n : Nat} {xs : List Value} (h : w.ownsRow base e size v n xs) : ∃ A c, v = .slice A n c := by
  obtain ⟨_, A, c, e, _⟩ := Rd.of_own h
  exact ⟨A, c, e⟩
/-- what is hidden lies in block H, the lines that were told in block O -/
structure TellEnv (tI tV tS : TypeId) (w : World) (H O : Nat) (hd : Nat) (v : Value) (l : List ByteArray) : Prop where
  lt : H < O
  sz : O < w.heap.size
  bh : w.heap[H]? = some (.cells #[.int .i64 (hd : Int)] tI (0, 0))
  bo : w.heap[O]? = some (.cells #[v] tV (0, 0))
  own : OwnS tS w (O + 1) v l
theorem TellEnv.push {tI tV tS : TypeId} {w w2 : World} {H O hd : Nat} {v v' : Value} {l : List ByteArray} {x : ByteArray} {o : Obj} (h : TellEnv tI tV tS w H O hd v l)
    (hown' : w2.ownsRow (O + 1) tS 1 v' (l.length + 1) (l.map Value.string ++ [.string x])) (hg : (w.alloc o).grownBy w2 v.ownBlock) :
    w2.heap[O]? = some (.cells #[v] tV (0, 0)) ∧ TellEnv tI tV tS (w2.setCell ⟨O, 0, none⟩ v') H O hd v' (l ++ [x]) ∧ Below O w (w2.setCell ⟨O, 0, none⟩ v') := by
  have hsz := h.sz
  have hlt := h.lt
  obtain ⟨h1, h2⟩ := h.own.push (by omega) hown' hg
  have e1 : w2.heap[O]? = some (.cells #[v] tV (0, 0)) := (h2.block O (by omega)).trans h.bo
  have e2 : w2.heap[H]? = some (.cells #[.int .i64 (hd : Int)] tI (0, 0)) := (h2.block H (by omega)).trans h.bh
  have hz := h2.size
  refine ⟨e1, ⟨hlt, by simp [World.setCell]; omega, (Below.heap_setCell _ _ _ _ (by simp; omega)).trans e2, one_setCell e1, ?_⟩, (h2.mono (by omega)).setCell (by simp) _⟩
  exact ownsRow_setCell_below h1 (by simp) _
end Go.Pw
namespace Go.Proofs.YtoieicdnehnacaaGreatDoor
open Go.RowKit Go.Pw
end Go.Proofs.YtoieicdnehnacaaGreatDoor
