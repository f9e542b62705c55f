/- One string appended to a row of the call's own, with all that lies beside it; what the reference's Sequence hands back. -/
import Derived.Test.YtoieicdnehnacaaGreatDoorSeqV
set_option linter.unusedVariables false
namespace Go.Pw
open Go.RowKit
/-- what the reference's Sequence hands back, once its numbers are read -/
def SeqQ (t : TypeId) (F B VF VB VT : Int) (sc : Nat) (w : World) (e : Ending) : Prop :=
  (∃ (v : Value) (out : List ByteArray) (base : Nat), out.length ≤ 4096 ∧ StopAt (bey2 VF VB VT) out.length ∧ OutIs (fun i t => XT (F + (i : Int) * B) sc sc t) out ∧ e = .returned (.tuple #[v, .int .i64 0]) ∧ OwnS t w base v out) ∨
  ((∀ i, i ≤ 4096 → bey2 VF VB VT i = false) ∧ e = .returned (.tuple #[.slice none 0 0, .int .i64 2]))
theorem pow_split (v : Int) {a b c : Nat} (h1 : a ≤ b) (h2 : b ≤ c) : v * (10 : Int) ^ (c - a) = v * (10 : Int) ^ (b - a) * (10 : Int) ^ (c - b) := by
  rw [Int.mul_assoc, ← Int.pow_add, show b - a + (c - b) = c - a by omega]
theorem steps_scale (F B : Int) (k m : Nat) : (F + (k : Int) * B) * (10 : Int) ^ m = F * (10 : Int) ^ m + (k : Int) * (B * (10 : Int) ^ m) := by
  rw [Int.add_mul, Int.mul_assoc]
theorem ten_pos (n : Nat) : (0 : Int) < (10 : Int) ^ n := by
  rw [← ten_cast]
  have := pow_pos10 n
  omega
theorem neg_scale (v : Int) (n : Nat) : decide (v * (10 : Int) ^ n < 0) = decide (v < 0) := by
  refine decide_eq_decide.2 ⟨fun h => ?_, fun h => Int.mul_neg_of_neg_of_pos h (ten_pos n)⟩
  rcases Int.lt_or_le v 0 with h' | h'
  · exact h'
  · have := Int.mul_nonneg h' (Int.le_of_lt (ten_pos n)); omega
end Go.Pw
namespace Go.Proofs.YtoieicdnehnacaaGreatDoor
open Go.RowKit Go.Pw
theorem wpList_app_far {w : World} {ops : Array Oper} {rest : List Oper} {o : Oper} {a : Act} {Q : Exit → Act → World → Prop} {T : TypeId} {y : ByteArray} (hgd : o.guard = none) (s x : Operand)
    (ho : o.op = .call { callee := .builtin .append, args := #[s, x], argTypes := #[25, 25] }) (base : Nat) (v : Value) (l : List ByteArray) (hs : a.eval s = v) (hown : OwnS 9 w base v l)
    (hx : a.eval x = .slice (some ⟨w.heap.size, 0, none⟩) 1 1) (hb : l.length ≤ 1000000000) (hbase : base ≤ w.heap.size)
    (h : ∀ g c w', OwnS 9 w' base (.slice (some ⟨g, 0, none⟩) (l.length + 1) c) (l ++ [y]) → Below base w w' → (∀ q, q < w.heap.size → v.ownBlock ≠ some q → w'.heap[q]? = w.heap[q]?) → (v.ownBlock = some g ∨ w.heap.size ≤ g) → g < w'.heap.size → w.heap.size ≤ w'.heap.size → wpList Tryz.prog ops Q rest (a.put o.dst (.slice (some ⟨g, 0, none⟩) (l.length + 1) c)) w') :
    wpList Tryz.prog ops Q (o :: rest) a (w.alloc (.cells #[.string y] T)) := by
  obtain ⟨ip, hip, hpz, hps, hpb⟩ := info_parts info_str
  have hown0 := hown
  unfold OwnS at hown
  refine wpList_append_lies _ hgd s x 25 ho base 9 ip _ 1 16 Tryz.underlying25 hip hpz hps hpb rfl (by decide) v _ _ hs (hown.alloc _) ⟨w.heap.size, 0, none⟩ 1 1 [.string y] hx rfl (one_new _ _ _) (by intro u hu; simp at hu; rcases hu with rfl; rfl) (by omega) (by unfold maxLen; omega) (by omega) (by simp; omega) (w.heap.size + 1) (by simp) ?_
  intro g c w' hown' hg hat hlt
  obtain ⟨h1, h2⟩ := OwnS.push hown0 hbase hown' hg
  have hz : w.heap.size + 1 ≤ w'.heap.size := by have := hg.size; simpa using this
  refine h g c w' h1 h2 (fun q hq hn => ?_) (hat.imp_right (fun e => by omega)) hlt (by omega)
  rw [hg.block q (by simp; omega) (fun e => hn e.symm)]
  exact heap_alloc_old w _ hq
end Go.Proofs.YtoieicdnehnacaaGreatDoor
