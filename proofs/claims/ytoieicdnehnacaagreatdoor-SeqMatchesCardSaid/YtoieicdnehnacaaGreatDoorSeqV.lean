/- The reference's Sequence: an argument that is too long. -/
import Derived.Test.YtoieicdnehnacaaGreatDoorSeqU
set_option linter.unusedVariables false
set_option linter.unusedSimpArgs false
namespace Go.Proofs.YtoieicdnehnacaaGreatDoor
open Go.RowKit Go.Pw
set_option maxHeartbeats 4000000 in
set_option maxRecDepth 100000 in
theorem sequenceLarge_any (a b c : ByteArray) (w : World) (h : 30 < a.size ∨ 30 < b.size ∨ 30 < c.size) :
    Calls Tryz.prog 9 #[.string a, .string b, .string c] w fun e w' => e = .returned (.tuple #[.slice none 0 0, .int .i64 2]) ∧ Below w.heap.size w w' := by
  by_cases ha : 30 < a.size
  · have hai : (30 : Int) < (a.size : Int) := by omega
    clear h
    go_enter Tryz.func9, Tryz.ntmps9
    go_wp2_with fail
    go_loop [26] (fun i => i = .int .i64 0) (fun i => 0)
    case atStart => exact rfl
    case round =>
      obtain rfl := hrel
      go_wp2_with fail
      go_ret2
      exact ⟨rfl, ((Below.refl w.heap.size w).alloc (Nat.le_refl _) _).alloc (by simp) _⟩
  · have hai : ¬ (30 : Int) < (a.size : Int) := by omega
    by_cases hb : 30 < b.size
    · have hbi : (30 : Int) < (b.size : Int) := by omega
      clear h
      go_enter Tryz.func9, Tryz.ntmps9
      go_wp2_with fail
      go_loop [26] (fun i => i = .int .i64 0 ∨ i = .int .i64 1) (fun i => 2 - (intOf i).toNat)
      case atStart => exact .inl rfl
      case round =>
        rcases hrel with rfl | rfl
        · go_wp2_with fail
          go_round
          case rel => exact .inr rfl
          case measure => simp [intOf]
        · go_wp2_with fail
          go_ret2
          exact ⟨rfl, ((Below.refl w.heap.size w).alloc (Nat.le_refl _) _).alloc (by simp) _⟩
    · have hbi : ¬ (30 : Int) < (b.size : Int) := by omega
      have hci : (30 : Int) < (c.size : Int) := by omega
      clear h
      go_enter Tryz.func9, Tryz.ntmps9
      go_wp2_with fail
      go_loop [26] (fun i => i = .int .i64 0 ∨ i = .int .i64 1 ∨ i = .int .i64 2) (fun i => 3 - (intOf i).toNat)
      case atStart => exact .inl rfl
      case round =>
        rcases hrel with rfl | rfl | rfl
        · go_wp2_with fail
          go_round
          case rel => exact .inr (.inl rfl)
          case measure => simp [intOf]
        · go_wp2_with fail
          go_round
          case rel => exact .inr (.inr rfl)
          case measure => simp [intOf]
        · go_wp2_with fail
          go_ret2
          exact ⟨rfl, ((Below.refl w.heap.size w).alloc (Nat.le_refl _) _).alloc (by simp) _⟩
end Go.Proofs.YtoieicdnehnacaaGreatDoor
