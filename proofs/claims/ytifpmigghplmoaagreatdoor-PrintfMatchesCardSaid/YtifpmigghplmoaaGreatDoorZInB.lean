/- The reference's search for a byte. -/
import Derived.Test.YtifpmigghplmoaaGreatDoorZPrA
import Derived.Test.YtifpmigghplmoaaGreatDoorProg
import Derived.WalkKit
import Derived.WalkLawsBesides
import Derived.WalkSpells
import Derived.LoopTactic
import Derived.Outline
import Derived.Lib.IndexBytes
set_option linter.unusedVariables false
set_option linter.unusedSimpArgs false
namespace Go.Proofs.YtifpmigghplmoaaGreatDoor
open Go.RowKit Go.Pw
def hasB (c : UInt8) (l : List UInt8) : Bool := l.any (· == c)
theorem hasB_cons (c x : UInt8) (l : List UInt8) : hasB c (x :: l) = (x == c || hasB c l) := by simp [hasB]
theorem in_hit {c : UInt8} {s : ByteArray} {k : Nat} (hf : Hid (hasB c s.data.toList = hasB c (s.data.toList.drop k))) (hk : k < s.size) (h : ((s[k].toNat : Int) == (c.toNat : Int)) = true) : true = hasB c s.data.toList := by
  have h1 : s[k] = c := UInt8.toNat_inj.1 (by simp at h; omega)
  rw [hf.out, drop_byte s k hk, hasB_cons, h1]; simp
theorem in_miss {c : UInt8} {s : ByteArray} {k : Nat} (hf : Hid (hasB c s.data.toList = hasB c (s.data.toList.drop k))) (hk : k < s.size) (h : ((s[k].toNat : Int) == (c.toNat : Int)) = false) : Hid (hasB c s.data.toList = hasB c (s.data.toList.drop (k + 1))) := by
  have h1 : ¬ s[k] = c := fun e => by simp [e] at h
  refine hf.out.trans ?_
  rw [drop_byte s k hk, hasB_cons, beq_false_of_ne h1]; rfl
theorem in_end {c : UInt8} {s : ByteArray} {k : Nat} (hf : Hid (hasB c s.data.toList = hasB c (s.data.toList.drop k))) (hk : ¬ k < s.size) : false = hasB c s.data.toList := by
  rw [hf.out, List.drop_of_length_le (by simp; omega)]; rfl

set_option maxHeartbeats 400000 in
theorem in_any (s : ByteArray) (c : UInt8) (w : World) (hs : s.size ≤ maxLen) :
    Calls Tryz.prog 27 #[.string s, .int .u8 c.toNat] w fun e w' => e = .returned (.bool (hasB c s.data.toList)) ∧ w = w' := by
  unfold maxLen at hs
  go_enter Tryz.func27, Tryz.ntmps27
  go_wp2
  go_loop [8] (fun i => ∃ k : Nat, k ≤ s.size ∧ i = .int .i64 k ∧ Hid (hasB c s.data.toList = hasB c (s.data.toList.drop k))) (fun i => s.size - (intOf i).toNat)
  case atStart => exact ⟨0, Nat.zero_le _, rfl, rfl⟩
  case round =>
    obtain ⟨k, hk, rfl, hf⟩ := hrel
    by_cases hlt : k < s.size
    · go_wp2
      · go_ret
        exact ⟨ret_bool (in_hit hf hlt (by assumption)), rfl⟩
      · go_round
        case rel => exact ⟨k + 1, by omega, by go_num, in_miss hf hlt (by assumption)⟩
        case measure => simp [intOf]; omega
    · go_wp2
      go_ret
      exact ⟨ret_bool (in_end hf hlt), rfl⟩

theorem idx_ge (l : List UInt8) (c : UInt8) : -1 ≤ Lib.indexByte l c := by
  induction l with
  | nil => simp [Lib.indexByte]
  | cons x l ih =>
    simp only [Lib.indexByte]
    split
    · omega
    · split <;> omega
theorem idx_has (l : List UInt8) (c : UInt8) : decide (0 ≤ Lib.indexByte l c) = hasB c l := by
  induction l with
  | nil => simp [Lib.indexByte, hasB]
  | cons x l ih =>
    have h := idx_ge l c
    rw [hasB_cons, ← ih]
    simp only [Lib.indexByte]
    by_cases hx : (x == c) = true
    · simp [hx]
    · by_cases hy : Lib.indexByte l c = -1
      · simp [hx, hy]
      · simp [hx, hy]; omega
theorem inIx_any (s : ByteArray) (c : UInt8) (x : Int) (w : World) (hs : s.size ≤ maxLen) (hx : (c.toNat : Int) = x) :
    Calls Tryz.prog 27 #[.string s, .int .u8 x] w fun e w' => e = .returned (.bool (decide (0 ≤ Lib.indexByte s.data.toList c))) ∧ w = w' := by
  subst hx
  rw [idx_has]
  exact in_any s c w hs
end Go.Proofs.YtifpmigghplmoaaGreatDoor
