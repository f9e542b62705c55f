/- The walks of an order, fourth part: cmp.Compare of strings, cmp.Or, numbers compared. -/
import Derived.Test.YtinpgnekjebipaaDoorNum
set_option linter.unusedVariables false
set_option linter.unusedSimpArgs false
namespace Go.Pw
open Go.RowKit
theorem rd_three (w : World) (a b c : Int) (t : TypeId) : Rd (w.alloc (.cells #[.int .i64 a, .int .i64 b, .int .i64 c] t)) 1 (.slice (some ⟨w.heap.size, 0, none⟩) 3 3) [a, b, c].length ([a, b, c].map (Value.int .i64)) := by
  refine ⟨rfl, _, 3, rfl, Nat.le_refl _, by unfold maxLen; omega, fun _ => ⟨w.heap.size, 0, rfl, by simp, fun j u hu => ?_⟩⟩
  rw [World.cell?_alloc_new]
  simpa using hu
theorem Rd.drew {w : World} {n k : Nat} {v : Value} {l : List Value} (h : Rd w k v n l) : Rd w.drew k v n l := h
theorem size_alloc (w : World) (o : Obj) : (w.alloc o).heap.size = w.heap.size + 1 := by simp
theorem cb_same : ∀ l : List UInt8, Lib.compareBytes l l = 0
  | [] => rfl
  | c :: l => by simp [Lib.compareBytes, cb_same l]
theorem cb_less : ∀ {a b : List UInt8}, Op.bytesLess a b = true → Lib.compareBytes a b = -1
  | _, [], h => by simp [Op.bytesLess] at h
  | [], _ :: _, h => rfl
  | a :: x, b :: y, h => by
    rw [Lib.compareBytes]
    by_cases h1 : a < b
    · rw [if_pos h1]
    · simp [Op.bytesLess, h1] at h
      rw [if_neg h1, if_neg (by rw [h.1]; simp), cb_less h.2]
theorem cb_more : ∀ {a b : List UInt8}, Op.bytesLess a b = false → ¬ a = b → Lib.compareBytes a b = 1
  | [], [], _, h => absurd rfl h
  | _ :: _, [], _, _ => rfl
  | [], _ :: _, h, _ => by simp [Op.bytesLess] at h
  | a :: x, b :: y, h, hn => by
    rw [Lib.compareBytes]
    by_cases h1 : a < b
    · simp [Op.bytesLess, h1] at h
    · rw [if_neg h1]
      by_cases h2 : b < a
      · rw [if_pos h2]
      · rw [if_neg h2]
        have e : a = b := UInt8.le_antisymm (by simpa using h2) (by simpa using h1)
        subst e
        simp [Op.bytesLess] at h
        exact cb_more h (fun e => hn (by rw [e]))
theorem cb_range (a b : List UInt8) : -1 ≤ Lib.compareBytes a b ∧ Lib.compareBytes a b ≤ 1 := by
  by_cases e : a = b
  · subst e; rw [cb_same]; omega
  · cases h : Op.bytesLess a b
    · rw [cb_more h e]; omega
    · rw [cb_less h]; omega
theorem ci_range (a b : Int) : -1 ≤ Lib.compareInt a b ∧ Lib.compareInt a b ≤ 1 := by
  unfold Lib.compareInt; split
  · omega
  · split <;> omega
end Go.Pw
namespace Go.Proofs.YtinpgnekjebipaaDoor
open Go.RowKit Go.Pw
/-- numbers compared, over texts -/
def cmpB (n1 : Bool) (x p : ByteArray) (n2 : Bool) (y q : ByteArray) : Int :=
  if n1 ≠ n2 then (if n1 then -1 else 1)
  else if n1 then -firstNZ [Lib.compareInt (x.size : Int) (y.size : Int), Lib.compareBytes x.data.toList y.data.toList, Lib.compareBytes p.data.toList q.data.toList]
  else firstNZ [Lib.compareInt (x.size : Int) (y.size : Int), Lib.compareBytes x.data.toList y.data.toList, Lib.compareBytes p.data.toList q.data.toList]
end Go.Proofs.YtinpgnekjebipaaDoor
