/- strings.Split at one byte. -/
import Derived.Test.YtinpgnekjebipaaDoorSplC
import Derived.Test.YtinpgnekjebipaaDoorShelf
set_option linter.unusedVariables false
set_option linter.unusedSimpArgs false
namespace Go.Proofs.YtinpgnekjebipaaDoor
open Go.RowKit Go.Pw
set_option maxHeartbeats 1000000 in
theorem splitC_any (s : ByteArray) (b : UInt8) (w : World) (hs : s.size ≤ 1000000) :
    Calls Tryd.prog 45 #[.string s, .string ⟨#[b]⟩] w fun e w' => e = .returned (.slice (some ⟨w.heap.size, 0, none⟩) (splC b [] s.data.toList).length (splC b [] s.data.toList).length) ∧ w' = w.alloc (.cells (((splC b [] s.data.toList).map mkB).map Value.string).toArray 9) := by
  have hle := Lib.countB_le ⟨#[b]⟩ (by simp [ByteArray.size]) s.size s (Nat.le_refl _)
  have hlen := Lib.splitB_all ⟨#[b]⟩ (by simp [ByteArray.size]) 0 _ s rfl
  have c := Any.strings_genSplit_core Tryd.lays221 (by kernel_rfl) s ⟨#[b]⟩ 0 (-1) (Lib.countB s ⟨#[b]⟩ + 1) w (by omega) (by simp [ByteArray.size]) (Nat.zero_le _)
    (fun x c _ => (Tryd.strings_Index_one x b _).mono fun e w' ⟨h1, h2⟩ => ⟨by rw [h1]; exact congrArg (fun z => Ending.returned (.int .i64 z)) (Lib.index_one _ _).symm, h2⟩)
    ((Tryd.strings_Count_one s b w).mono fun e w' ⟨h1, h2⟩ => ⟨by rw [h1]; exact congrArg (fun z : Nat => Ending.returned (.int .i64 (z : Int))) (Lib.count_one _ _).symm, h2⟩)
    (by decide) (by decide) (by rw [if_pos (by decide)]; omega)
  rw [Nat.add_sub_cancel, hlen] at c
  have e2 : Lib.cellsOf (Lib.splitB ⟨#[b]⟩ 0 (Lib.countB s ⟨#[b]⟩) s) (Lib.countB s ⟨#[b]⟩ + 1) = ((Lib.splitB ⟨#[b]⟩ 0 (Lib.countB s ⟨#[b]⟩) s).map Value.string).toArray := by rw [← hlen]; exact Lib.cellsOf_full _
  have e3 : Lib.countB s ⟨#[b]⟩ + 1 = (splC b [] s.data.toList).length := by
    rw [splC_len]; exact congrArg (· + 1) (Lib.count_one _ _)
  rw [e2, splitB_splC, e3] at c
  have HC := hide c
  clear c e2 e3 hlen hle
  go_enter Tryd.func45, Tryd.ntmps45
  go_wp2_with fail
  refine HC.out.mono ?_
  rintro e w' ⟨rfl, rfl⟩
  go_wp2_with fail
  go_ret
  exact ⟨rfl, by rw [List.map_map]; rfl⟩
end Go.Proofs.YtinpgnekjebipaaDoor
