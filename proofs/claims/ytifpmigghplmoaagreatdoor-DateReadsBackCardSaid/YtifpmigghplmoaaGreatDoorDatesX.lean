/- The numbers of days: the walks, second part. -/
import Derived.Test.YtifpmigghplmoaaGreatDoorDatesW
set_option linter.unusedVariables false
set_option linter.unusedSimpArgs false
namespace Go.Proofs.YtifpmigghplmoaaGreatDoor
open Go.RowKit Go.Pw
theorem yearsBefore_any (y : Int) (w : World) (h0 : 1 ≤ y) (h1 : y ≤ 20000) : Calls Tryz.prog 99 #[.int .i64 y] w fun e w' => e = .returned (.int .i64 (yb y)) ∧ w = w' := by
  go_enter Tryz.func99, Tryz.ntmps99
  go_wp2
  go_ret
  exact ⟨rfl, rfl⟩
theorem yearBegin_any (y : Int) (w : World) (h0 : 1 ≤ y) (h1 : y ≤ 20000) : Calls Tryz.prog 59 #[.int .i64 y] w fun e w' => e = .returned (.int .i64 (yb y - 719162)) ∧ w = w' := by
  go_enter Tryz.func59, Tryz.ntmps59
  go_wp2
  go_ret
  exact ⟨rfl, rfl⟩
theorem monthDays_any (y : Int) (m : Nat) (w : World) (h0 : 0 ≤ y) (h1 : y ≤ 20000) (hm1 : 1 ≤ m) (hm2 : m ≤ 12) :
    Calls Tryz.prog 58 #[.int .i64 y, .int .i64 (m : Int)] w fun e w' => e = .returned (.int .i64 (mdays y m)) ∧ w = w' := by
  have hc : m = 2 ∨ m = 1 ∨ m = 3 ∨ m = 4 ∨ m = 5 ∨ m = 6 ∨ m = 7 ∨ m = 8 ∨ m = 9 ∨ m = 10 ∨ m = 11 ∨ m = 12 := by omega
  rcases hc with rfl | hc
  · have H2 := hide (md2 y)
    have HL := hide (fun W => leapR_any y W h0 h1)
    obtain ⟨b, hb⟩ : ∃ b, leapB y = b := ⟨_, rfl⟩
    simp only [hb] at HL H2
    clear hb
    cases b
    all_goals
      go_enter Tryz.func58, Tryz.ntmps58
      go_wp2_with fail
      refine (HL.out _).mono ?_
      rintro e w' ⟨rfl, rfl⟩
      go_wp2_with fail
      go_ret
      exact ⟨by rw [H2.out]; rfl, rfl⟩
  · rcases hc with rfl | rfl | rfl | rfl | rfl | rfl | rfl | rfl | rfl | rfl | rfl
    all_goals
      go_enter Tryz.func58, Tryz.ntmps58
      go_wp2_with fail
      go_ret
      exact ⟨rfl, rfl⟩
theorem yb_le {y : Int} (h0 : 1 ≤ y) (h1 : y ≤ 20000) : 0 ≤ yb y ∧ yb y ≤ 8000000 := by unfold yb; omega
theorem cum_le (y : Int) : ∀ k : Nat, 0 ≤ cum y k ∧ cum y k ≤ 31 * k
  | 0 => by simp [cum]
  | k + 1 => by
    have h1 := cum_le y k
    have h2 := mdays_pos y (k + 1)
    rw [cum]; omega
set_option maxHeartbeats 1000000 in
theorem dayNumber_any (y : Int) (m : Nat) (d : Int) (w : World) (h0 : 1 ≤ y) (h1 : y ≤ 20000) (hm1 : 1 ≤ m) (hm2 : m ≤ 12) (hd0 : 0 ≤ d) (hd1 : d ≤ 40) :
    Calls Tryz.prog 53 #[.int .i64 y, .int .i64 (m : Int), .int .i64 d] w fun e w' => e = .returned (.int .i64 (dn y m d)) ∧ Below w.heap.size w w' := by
  have hyb := yb_le h0 h1
  have HA := hide (fun W => yearsBefore_any y W h0 h1)
  have HB := hide (fun W => yearsBefore_any 1970 W (by omega) (by omega))
  simp only [yb_1970] at HB
  go_enter Tryz.func53, Tryz.ntmps53
  go_wp2_with fail
  refine (HA.out _).mono ?_
  rintro e w' ⟨rfl, rfl⟩
  go_wp2_with fail
  refine (HB.out _).mono ?_
  rintro e w' ⟨rfl, rfl⟩
  obtain ⟨Y, hY⟩ : ∃ Y, yb y = Y := ⟨_, rfl⟩
  rw [hY] at hyb ⊢
  have HY := hide hY
  clear hY
  go_wp2_with fail
  go_loopw [7, 8] (fun n mm wr => ∃ k : Nat, 1 ≤ k ∧ k ≤ m ∧ mm = .int .i64 (k : Int) ∧ n = .int .i64 (Y - 719162 + d - 1 + cum y (k - 1)) ∧ Below w.heap.size w wr) (fun _ mm _ => 12 - (intOf mm).toNat)
  case atStart => exact ⟨1, by omega, by omega, rfl, by simp [cum], Below.refl _ _⟩
  case round =>
    obtain ⟨k, hk1, hk2, rfl, rfl, hb⟩ := hrel
    have hcb := cum_le y (k - 1)
    by_cases hlt : k < m
    · have hmd := mdays_pos y k
      have hcs : cum y k = cum y (k - 1) + mdays y k := by
        obtain ⟨j, rfl⟩ : ∃ j, k = j + 1 := ⟨k - 1, by omega⟩
        rfl
      have HC := hide hcs
      clear hcs
      obtain ⟨C, hC⟩ : ∃ C, cum y (k - 1) = C := ⟨_, rfl⟩
      rw [hC] at hcb HC ⊢
      clear hC
      have hk12 : k ≤ 12 := by omega
      go_wp2_with fail
      refine (monthLong_any y k _ (by omega) h1 hk1 hk12).mono ?_
      rintro e w2 ⟨rfl, hb2⟩
      have hb3 := hb.trans (hb2.mono hb.size)
      obtain ⟨D, hD⟩ : ∃ D, mdays y k = D := ⟨_, rfl⟩
      rw [hD] at hmd HC ⊢
      clear hD hb2
      go_wp2_with fail
      go_roundw
      case rel => exact ⟨k + 1, by omega, by omega, by go_num, by rw [show k + 1 - 1 = k by omega, HC.out]; go_num, hb3⟩
      case measure => simp [intOf]; omega
    · obtain rfl : k = m := by omega
      have HD : Hid (dn y k d = Y - 719162 + d - 1 + cum y (k - 1)) := hide (by unfold dn; rw [HY.out])
      go_wp2_with fail
      go_ret
      exact ⟨by rw [HD.out]; rfl, hb⟩
theorem dayNumber_first (y : Int) (w : World) (h0 : 1 ≤ y) (h1 : y ≤ 20000) :
    Calls Tryz.prog 53 #[.int .i64 y, .int .i64 1, .int .i64 1] w fun e w' => e = .returned (.int .i64 (yb y - 719162)) ∧ Below w.heap.size w w' := by
  have := dayNumber_any y 1 1 w h0 h1 (by omega) (by omega) (by omega) (by omega)
  have e : dn y 1 1 = yb y - 719162 := by unfold dn; simp [cum]
  rw [e] at this
  exact this
theorem firstDay_any (w : World) : Calls Tryz.prog 72 #[] w fun e w' => e = .returned (.int .i64 (-719162)) ∧ Below w.heap.size w w' := by
  have HD := hide (dayNumber_first 1 w (by omega) (by omega))
  have e : yb 1 - 719162 = -719162 := by decide
  rw [e] at HD
  clear e
  go_enter Tryz.func72, Tryz.ntmps72
  go_wp2_with fail
  refine HD.out.mono ?_
  rintro e w1 ⟨rfl, hb⟩
  go_wp2_with fail
  go_ret
  exact ⟨rfl, hb⟩
theorem lastDay_any (w : World) : Calls Tryz.prog 73 #[] w fun e w' => e = .returned (.int .i64 2932896) ∧ Below w.heap.size w w' := by
  have HD := hide (dayNumber_any 9999 12 31 w (by omega) (by omega) (by omega) (by omega) (by omega) (by omega))
  have e : dn 9999 12 31 = 2932896 := by decide +kernel
  rw [e] at HD
  clear e
  go_enter Tryz.func73, Tryz.ntmps73
  go_wp2_with fail
  refine HD.out.mono ?_
  rintro e w1 ⟨rfl, hb⟩
  go_wp2_with fail
  go_ret
  exact ⟨rfl, hb⟩
/-- is there such a day -/
def dayB (y m d : Int) : Bool := (decide (1 ≤ y) && decide (y ≤ 9999)) && (decide (1 ≤ m) && decide (m ≤ 12)) && (decide (1 ≤ d) && decide (d ≤ mdays y m.toNat))
set_option maxHeartbeats 1000000 in
theorem isDay_any (y m d : Int) (w : World) : Calls Tryz.prog 52 #[.int .i64 y, .int .i64 m, .int .i64 d] w fun e w' => e = .returned (.bool (dayB y m d)) ∧ Below w.heap.size w w' := by
  have H1 := hide (fun W => within_any y 1 9999 W)
  have H2 := hide (fun W => within_any m 1 12 W)
  by_cases hy : 1 ≤ y ∧ y ≤ 9999
  · have e1 : (decide (1 ≤ y) && decide (y ≤ 9999)) = true := by simp [hy]
    simp only [e1] at H1
    by_cases hm : 1 ≤ m ∧ m ≤ 12
    · have e2 : (decide (1 ≤ m) && decide (m ≤ 12)) = true := by simp [hm]
      simp only [e2] at H2
      have HV : Hid (dayB y m d = (decide (1 ≤ d) && decide (d ≤ mdays y m.toNat))) := hide (by unfold dayB; rw [e1, e2]; rfl)
      have HM := hide (fun W => monthLong_any y m.toNat W (by omega) (by omega) (by omega) (by omega))
      have em : ((m.toNat : Nat) : Int) = m := by omega
      simp only [em] at HM
      clear em e1 e2
      go_enter Tryz.func52, Tryz.ntmps52
      go_wp2_with fail
      refine (H1.out _).mono ?_
      rintro e w' ⟨rfl, rfl⟩
      go_wp2_with fail
      refine (H2.out _).mono ?_
      rintro e w' ⟨rfl, rfl⟩
      go_wp2_with fail
      refine (HM.out _).mono ?_
      rintro e w2 ⟨rfl, hb⟩
      go_wp2_with fail
      refine (within_any d 1 (mdays y m.toNat) _).mono ?_
      rintro e w' ⟨rfl, rfl⟩
      go_wp2_with fail
      go_ret
      exact ⟨by rw [HV.out]; rfl, hb⟩
    · have e2 : (decide (1 ≤ m) && decide (m ≤ 12)) = false := by
        rw [Bool.eq_false_iff]; simpa using hm
      simp only [e2] at H2
      have HV : Hid (dayB y m d = false) := hide (by unfold dayB; rw [e1, e2]; rfl)
      clear e1 e2
      go_enter Tryz.func52, Tryz.ntmps52
      go_wp2_with fail
      refine (H1.out _).mono ?_
      rintro e w' ⟨rfl, rfl⟩
      go_wp2_with fail
      refine (H2.out _).mono ?_
      rintro e w' ⟨rfl, rfl⟩
      go_wp2_with fail
      go_ret
      exact ⟨by rw [HV.out]; rfl, Below.refl _ _⟩
  · have e1 : (decide (1 ≤ y) && decide (y ≤ 9999)) = false := by
      rw [Bool.eq_false_iff]; simpa using hy
    simp only [e1] at H1
    have HV : Hid (dayB y m d = false) := hide (by unfold dayB; rw [e1]; rfl)
    clear e1
    go_enter Tryz.func52, Tryz.ntmps52
    go_wp2_with fail
    refine (H1.out _).mono ?_
    rintro e w' ⟨rfl, rfl⟩
    go_wp2_with fail
    go_ret
    exact ⟨by rw [HV.out]; rfl, Below.refl _ _⟩
theorem day_bounds {y m d : Int} (h : dayB y m d = true) : 1 ≤ y ∧ y ≤ 9999 ∧ 1 ≤ m ∧ m ≤ 12 ∧ 1 ≤ d ∧ d ≤ mdays y m.toNat := by
  unfold dayB at h
  simp at h
  exact ⟨h.1.1.1, h.1.1.2, h.1.2.1, h.1.2.2, h.2.1, h.2.2⟩
end Go.Proofs.YtifpmigghplmoaaGreatDoor
