/- The program's Seq: what is told for a wrong call. -/
import Derived.Test.YtoieicdnehnacaaGreatDoorSeqN
import Derived.Test.YtoieicdnehnacaaGreatDoorTextW
set_option linter.unusedVariables false
set_option linter.unusedSimpArgs false
namespace Go.Proofs.YtoieicdnehnacaaGreatDoor
open Go.RowKit Go.Pw
theorem run_idx3_0 (a b c : ByteArray) (W : World) : (Instr.index 60 (.agg #[.string a, .string b, .string c]) (.int .i64 0)).run Tryz.prog W = .ok (.string a) W := by
  simp [Instr.index, asIntOf, part, go_sem]
theorem run_idx3_1 (a b c : ByteArray) (W : World) : (Instr.index 60 (.agg #[.string a, .string b, .string c]) (.int .i64 1)).run Tryz.prog W = .ok (.string b) W := by
  simp [Instr.index, asIntOf, part, go_sem]
theorem run_idx3_2 (a b c : ByteArray) (W : World) : (Instr.index 60 (.agg #[.string a, .string b, .string c]) (.int .i64 2)).run Tryz.prog W = .ok (.string c) W := by
  simp [Instr.index, asIntOf, part, go_sem]
set_option maxHeartbeats 4000000 in
set_option maxRecDepth 100000 in
theorem seqLarge_any (a b c : ByteArray) (w : World) (h : 30 < a.size ∨ 30 < b.size ∨ 30 < c.size) :
    Calls Tryz.prog 8 #[.string a, .string b, .string c] w fun e w' => e = .returned (.tuple #[.string ⟨#[]⟩, .int .i64 2]) ∧ Below w.heap.size w w' := by
  have HB := hide ((Below.refl w.heap.size w).alloc (Nat.le_refl _) (.cells #[.string a, .string b, .string c] 60))
  have i0 := run_idx3_0 a b c
  have i1 := run_idx3_1 a b c
  have i2 := run_idx3_2 a b c
  by_cases ha : 30 < a.size
  · have hai : (30 : Int) < (a.size : Int) := by omega
    clear h
    go_enter Tryz.func8, Tryz.ntmps8
    go_wp2_with fail
    go_loop [34] (fun i => i = .int .i64 0) (fun i => 0)
    case atStart => exact rfl
    case round =>
      obtain rfl := hrel
      go_wp2_with fail
      go_ret2
      exact ⟨rfl, HB.out⟩
  · have hai : ¬ (30 : Int) < (a.size : Int) := by omega
    by_cases hb : 30 < b.size
    · have hbi : (30 : Int) < (b.size : Int) := by omega
      clear h
      go_enter Tryz.func8, Tryz.ntmps8
      go_wp2_with fail
      go_loop [34] (fun i => i = .int .i64 0 ∨ i = .int .i64 1) (fun i => 2 - (intOf i).toNat)
      case atStart => exact .inl rfl
      case round =>
        rcases hrel with rfl | rfl
        · go_wp2_with fail
          go_round
          case rel => exact .inr rfl
          case measure => simp [intOf]
        · go_wp2_with fail
          go_ret2
          exact ⟨rfl, HB.out⟩
    · have hbi : ¬ (30 : Int) < (b.size : Int) := by omega
      have hci : (30 : Int) < (c.size : Int) := by omega
      clear h
      go_enter Tryz.func8, Tryz.ntmps8
      go_wp2_with fail
      go_loop [34] (fun i => i = .int .i64 0 ∨ i = .int .i64 1 ∨ i = .int .i64 2) (fun i => 3 - (intOf i).toNat)
      case atStart => exact .inl rfl
      case round =>
        rcases hrel with rfl | rfl | rfl
        · go_wp2_with fail
          go_round
          case rel => exact .inr (.inl rfl)
          case measure => simp [intOf]
        · go_wp2_with fail
          go_round
          case rel => exact .inr (.inr rfl)
          case measure => simp [intOf]
        · go_wp2_with fail
          go_ret2
          exact ⟨rfl, HB.out⟩
end Go.Proofs.YtoieicdnehnacaaGreatDoor
