/- The numbers of days: the walks. -/
import Derived.Test.YtifpmigghplmoaaGreatDoorDates
import Derived.Test.YtifpmigghplmoaaGreatDoorValid
set_option linter.unusedVariables false
set_option linter.unusedSimpArgs false
namespace Go.Pw
theorem leapB_eq (y : Int) : leapB y = ((y % 4 == 0) && ((y % 100 != 0) || (y % 400 == 0))) := by
  unfold leapB
  rw [Bool.eq_iff_iff]
  simp
end Go.Pw
namespace Go.Proofs.YtifpmigghplmoaaGreatDoor
open Go.RowKit Go.Pw
theorem leap_any (y : Int) (w : World) (h0 : 0 ≤ y) (h1 : y ≤ 20000) : Calls Tryz.prog 131 #[.int .i64 y] w fun e w' => e = .returned (.bool (leapB y)) ∧ w = w' := by
  have H := hide (leapB_eq y)
  cases h4 : (y % 4 == 0)
  · go_enter Tryz.func131, Tryz.ntmps131
    go_wp2
    go_ret
    exact ⟨by rw [H.out, h4]; rfl, rfl⟩
  · cases h5 : (y % 100 != 0)
    · go_enter Tryz.func131, Tryz.ntmps131
      go_wp2
      go_ret
      exact ⟨by rw [H.out, h4, h5]; rfl, rfl⟩
    · go_enter Tryz.func131, Tryz.ntmps131
      go_wp2
      go_ret
      exact ⟨by rw [H.out, h4, h5]; rfl, rfl⟩
theorem leapR_any (y : Int) (w : World) (h0 : 0 ≤ y) (h1 : y ≤ 20000) : Calls Tryz.prog 102 #[.int .i64 y] w fun e w' => e = .returned (.bool (leapB y)) ∧ w = w' := by
  have H := hide (leapB_eq y)
  cases h4 : (y % 4 == 0)
  · go_enter Tryz.func102, Tryz.ntmps102
    go_wp2
    go_ret
    exact ⟨by rw [H.out, h4]; rfl, rfl⟩
  · cases h5 : (y % 100 != 0)
    · go_enter Tryz.func102, Tryz.ntmps102
      go_wp2
      go_ret
      exact ⟨by rw [H.out, h4, h5]; rfl, rfl⟩
    · go_enter Tryz.func102, Tryz.ntmps102
      go_wp2
      go_ret
      exact ⟨by rw [H.out, h4, h5]; rfl, rfl⟩
theorem md2 (y : Int) : mdays y 2 = if leapB y then 29 else 28 := by
  unfold mdays lp; split <;> rename_i h
  · split <;> omega
  · omega
set_option maxHeartbeats 2000000 in
set_option maxRecDepth 100000 in
theorem monthLong_any (y : Int) (m : Nat) (w : World) (h0 : 0 ≤ y) (h1 : y ≤ 20000) (hm1 : 1 ≤ m) (hm2 : m ≤ 12) :
    Calls Tryz.prog 98 #[.int .i64 y, .int .i64 (m : Int)] w fun e w' => e = .returned (.int .i64 (mdays y m)) ∧ Below w.heap.size w w' := by
  have HB : ∀ c : Array Value, Below w.heap.size w (w.alloc (.cells c 171)) := fun c => (Below.refl _ _).alloc (Nat.le_refl _) _
  have HB := hide HB
  have hc : m = 2 ∨ m = 1 ∨ m = 3 ∨ m = 4 ∨ m = 5 ∨ m = 6 ∨ m = 7 ∨ m = 8 ∨ m = 9 ∨ m = 10 ∨ m = 11 ∨ m = 12 := by omega
  rcases hc with rfl | hc
  · have H2 := hide (md2 y)
    have HL := hide (fun W => leap_any y W h0 h1)
    obtain ⟨b, hb⟩ : ∃ b, leapB y = b := ⟨_, rfl⟩
    simp only [hb] at HL H2
    clear hb
    cases b
    all_goals
      go_enter Tryz.func98, Tryz.ntmps98
      go_wp2_with fail
      refine (HL.out _).mono ?_
      rintro e w' ⟨rfl, rfl⟩
      go_wp2_with fail
      go_ret
      exact ⟨by rw [H2.out]; rfl, HB.out _⟩
  · rcases hc with rfl | rfl | rfl | rfl | rfl | rfl | rfl | rfl | rfl | rfl | rfl
    all_goals
      go_enter Tryz.func98, Tryz.ntmps98
      go_wp2_with fail
      go_ret
      exact ⟨rfl, HB.out _⟩
end Go.Proofs.YtifpmigghplmoaaGreatDoor
