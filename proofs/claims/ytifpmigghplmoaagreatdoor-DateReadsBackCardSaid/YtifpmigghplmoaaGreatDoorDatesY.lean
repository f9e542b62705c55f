/- The numbers of days: the walks, third part: the day of a number, and the reference. -/
import Derived.Test.YtifpmigghplmoaaGreatDoorDatesX
set_option linter.unusedVariables false
set_option linter.unusedSimpArgs false
namespace Go.Pw
open Go.RowKit
/-- a day with a number -/
def Civ (n y : Int) (m : Nat) (d : Int) : Prop := 1 ≤ y ∧ y ≤ 9999 ∧ yb y ≤ n + 719162 ∧ n + 719162 < yb (y + 1) ∧ 1 ≤ m ∧ m ≤ 12 ∧ cum y (m - 1) ≤ n + 719162 - yb y ∧ n + 719162 - yb y < cum y m ∧ d = n + 719162 - yb y - cum y (m - 1) + 1
theorem Civ.one {n y y' d d' : Int} {m m' : Nat} (h : Civ n y m d) (h' : Civ n y' m' d') : y = y' ∧ m = m' ∧ d = d' := by
  obtain ⟨a1, a2, a3, a4, a5, a6, a7, a8, a9⟩ := h
  obtain ⟨b1, b2, b3, b4, b5, b6, b7, b8, b9⟩ := h'
  have e := year_one a1 b1 a3 a4 b3 b4
  subst e
  have e : m = m' := by
    rcases Nat.lt_trichotomy m m' with h | h | h
    · have := cum_mono y (k := m) (n := m' - 1) (by omega); omega
    · exact h
    · have := cum_mono y (k := m') (n := m - 1) (by omega); omega
  subst e
  exact ⟨rfl, rfl, by omega⟩
theorem yb_10000 : yb 10000 = 3652059 := by decide
theorem cum_step (y : Int) (k : Nat) (h : 1 ≤ k) : cum y k = cum y (k - 1) + mdays y k := by
  obtain ⟨j, rfl⟩ : ∃ j, k = j + 1 := ⟨k - 1, by omega⟩
  rfl
theorem year_lt {y n : Int} (h1 : 1 ≤ y) (h : yb y ≤ n + 719162) (hn : n ≤ 2932896) : y ≤ 9999 := by
  rcases Int.lt_or_le 9999 y with h9 | h9
  · have := yb_mono (x := 10000) (y := y) (by omega) (by omega)
    rw [yb_10000] at this; omega
  · exact h9
theorem year_end {y n : Int} (h1 : 1 ≤ y) (h : n + 719162 < yb (y + 1)) : n + 719162 - yb y < cum y 12 := by
  rw [cum_12]; rw [yb_succ y h1] at h; omega
end Go.Pw
namespace Go.Proofs.YtifpmigghplmoaaGreatDoor
open Go.RowKit Go.Pw
theorem DayNumber_no (y m d : Int) (w : World) (h : dayB y m d = false) : Calls Tryz.prog 23 #[.int .i64 y, .int .i64 m, .int .i64 d] w fun e w' => e = .returned (.tuple #[.int .i64 0, .bool false]) ∧ w = w' := by
  by_cases hy1 : y < 1
  · clear h
    go_enter Tryz.func23, Tryz.ntmps23
    go_wp2_with fail
    go_ret2
    exact ⟨rfl, rfl⟩
  · by_cases hy2 : 9999 < y
    · clear h
      go_enter Tryz.func23, Tryz.ntmps23
      go_wp2_with fail
      go_ret2
      exact ⟨rfl, rfl⟩
    · by_cases hm1 : m < 1
      · clear h
        go_enter Tryz.func23, Tryz.ntmps23
        go_wp2_with fail
        go_ret2
        exact ⟨rfl, rfl⟩
      · by_cases hm2 : 12 < m
        · clear h
          go_enter Tryz.func23, Tryz.ntmps23
          go_wp2_with fail
          go_ret2
          exact ⟨rfl, rfl⟩
        · by_cases hd1 : d < 1
          · clear h
            go_enter Tryz.func23, Tryz.ntmps23
            go_wp2_with fail
            go_ret2
            exact ⟨rfl, rfl⟩
          · have hd2 : mdays y m.toNat < d := by
              rcases Int.lt_or_le (mdays y m.toNat) d with h9 | h9
              · exact h9
              · exfalso
                have : dayB y m d = true := by
                  unfold dayB; simp; omega
                rw [h] at this; cases this
            have HM := hide (fun W => monthDays_any y m.toNat W (by omega) (by omega) (by omega) (by omega))
            have em : ((m.toNat : Nat) : Int) = m := by omega
            simp only [em] at HM
            obtain ⟨D, hD⟩ : ∃ D, mdays y m.toNat = D := ⟨_, rfl⟩
            simp only [hD] at HM hd2
            clear h em hD
            go_enter Tryz.func23, Tryz.ntmps23
            go_wp2_with fail
            refine (HM.out _).mono ?_
            rintro e w' ⟨rfl, rfl⟩
            go_wp2_with fail
            go_ret2
            exact ⟨rfl, rfl⟩
set_option maxHeartbeats 1000000 in
theorem DayNumber_yes (y : Int) (m : Nat) (d : Int) (w : World) (h0 : 1 ≤ y) (h1 : y ≤ 9999) (hm1 : 1 ≤ m) (hm2 : m ≤ 12) (hd0 : 1 ≤ d) (hd1 : d ≤ mdays y m) : Calls Tryz.prog 23 #[.int .i64 y, .int .i64 (m : Int), .int .i64 d] w fun e w' => e = .returned (.tuple #[.int .i64 (dn y m d), .bool true]) ∧ w = w' := by
  have hyb := yb_le h0 (by omega)
  have hmp := mdays_pos y m
  have HM := hide (fun W => monthDays_any y m W (by omega) (by omega) hm1 hm2)
  have HY := hide (fun W => yearBegin_any y W h0 (by omega))
  have HDN : Hid (dn y m d = yb y - 719162 + cum y (m - 1) + d - 1) := hide (by unfold dn; omega)
  obtain ⟨D, hD⟩ : ∃ D, mdays y m = D := ⟨_, rfl⟩
  obtain ⟨Y, hY⟩ : ∃ Y, yb y = Y := ⟨_, rfl⟩
  simp only [hD] at HM hd1 hmp
  simp only [hY] at HY HDN hyb
  clear hD hY
  go_enter Tryz.func23, Tryz.ntmps23
  go_wp2_with fail
  refine (HM.out _).mono ?_
  rintro e w' ⟨rfl, rfl⟩
  go_wp2_with fail
  refine (HY.out _).mono ?_
  rintro e w' ⟨rfl, rfl⟩
  go_wp2_with fail
  go_loop [8, 9] (fun n mm => ∃ k : Nat, 1 ≤ k ∧ k ≤ m ∧ mm = .int .i64 (k : Int) ∧ n = .int .i64 (Y - 719162 + cum y (k - 1))) (fun _ mm => 12 - (intOf mm).toNat)
  case atStart => exact ⟨1, by omega, by omega, rfl, by simp [cum]⟩
  case round =>
    obtain ⟨k, hk1, hk2, rfl, rfl⟩ := hrel
    have hcb := cum_le y (k - 1)
    by_cases hlt : k < m
    · have hmd := mdays_pos y k
      have HC := hide (cum_step y k hk1)
      obtain ⟨C, hC⟩ : ∃ C, cum y (k - 1) = C := ⟨_, rfl⟩
      rw [hC] at hcb HC ⊢
      clear hC
      have hk12 : k ≤ 12 := by omega
      go_wp2_with fail
      refine (monthDays_any y k _ (by omega) (by omega) hk1 hk12).mono ?_
      rintro e w' ⟨rfl, rfl⟩
      obtain ⟨E, hE⟩ : ∃ E, mdays y k = E := ⟨_, rfl⟩
      rw [hE] at hmd HC ⊢
      clear hE
      go_wp2_with fail
      go_round
      case rel => exact ⟨k + 1, by omega, by omega, by go_num, by rw [show k + 1 - 1 = k by omega, HC.out]; go_num⟩
      case measure => simp [intOf]; omega
    · obtain rfl : k = m := by omega
      go_wp2_with fail
      go_ret2
      exact ⟨by rw [HDN.out]; rfl, rfl⟩
theorem DayNumber_any (y m d : Int) (w : World) : Calls Tryz.prog 23 #[.int .i64 y, .int .i64 m, .int .i64 d] w fun e w' => e = .returned (.tuple #[.int .i64 (if dayB y m d then dn y m.toNat d else 0), .bool (dayB y m d)]) ∧ w = w' := by
  cases hv : dayB y m d
  · exact DayNumber_no y m d w hv
  · obtain ⟨h1, h2, h3, h4, h5, h6⟩ := day_bounds hv
    have := DayNumber_yes y m.toNat d w h1 h2 (by omega) (by omega) h5 h6
    rw [show ((m.toNat : Nat) : Int) = m by omega] at this
    exact this
set_option maxHeartbeats 1000000 in
theorem civil_any (n : Int) (w : World) (h1 : -719162 ≤ n) (h2 : n ≤ 2932896) : Calls Tryz.prog 75 #[.int .i64 n] w fun e w' => (∃ y m d, Civ n y m d ∧ e = .returned (.tuple #[.int .i64 y, .int .i64 (m : Int), .int .i64 d])) ∧ Below w.heap.size w w' := by
  by_cases hn : 0 ≤ n
  case' pos =>
    have hg := guess_pos hn
    have hs : 1 ≤ max 1 (1970 + n / 366 - 1) ∧ yb (max 1 (1970 + n / 366 - 1)) ≤ n + 719162 := by
      rw [Int.max_eq_right (by omega)]
      exact ⟨by omega, hg⟩
    have HS := hide hs
    clear hg hs
    go_enter Tryz.func75, Tryz.ntmps75
    go_wp2_with fail
    obtain ⟨y0, hy0⟩ : ∃ y0, max 1 (1970 + n / 366 - 1) = y0 := ⟨_, rfl⟩
    rw [hy0] at HS ⊢
    clear hy0
  case' neg =>
    have hg := guess_neg (n := n) (by omega) h1
    have hq : n.tdiv 365 = -((-n) / 365) := by
      have : n = -(-n) := by omega
      conv => lhs; rw [this]
      rw [Int.neg_tdiv, Int.tdiv_eq_ediv_of_nonneg (by omega)]
    have hw : wrap64 (wrap64 (1970 + n.tdiv 365) - 1) = 1970 + -((-n) / 365) - 1 := by
      rw [hq, IntWalk.wrap64_in (1970 + -((-n) / 365)) ⟨by omega, by omega⟩, IntWalk.wrap64_in _ ⟨by omega, by omega⟩]
    have hs : 1 ≤ max 1 (wrap64 (wrap64 (1970 + n.tdiv 365) - 1)) ∧ yb (max 1 (wrap64 (wrap64 (1970 + n.tdiv 365) - 1))) ≤ n + 719162 := by
      rw [hw]
      by_cases h9 : 1 ≤ 1970 + -((-n) / 365) - 1
      · rw [Int.max_eq_right h9]
        exact ⟨h9, hg h9⟩
      · rw [Int.max_eq_left (by omega)]
        refine ⟨by omega, ?_⟩
        have : yb 1 = 0 := by decide
        omega
    have HS := hide hs
    clear hg hs hw hq
    go_enter Tryz.func75, Tryz.ntmps75
    go_wp2_with fail
    obtain ⟨y0, hy0⟩ : ∃ y0, max 1 (wrap64 (wrap64 (1970 + n.tdiv 365) - 1)) = y0 := ⟨_, rfl⟩
    rw [hy0] at HS ⊢
    clear hy0
  all_goals
    go_loopw [2] (fun v wr => ∃ y : Int, 1 ≤ y ∧ y ≤ 9999 ∧ v = .int .i64 y ∧ Hid (yb y ≤ n + 719162) ∧ Below w.heap.size w wr) (fun v _ => (9999 - intOf v).toNat)
    case atStart => exact ⟨y0, HS.out.1, year_lt HS.out.1 HS.out.2 h2, rfl, hide HS.out.2, Below.refl _ _⟩
    case round =>
      obtain ⟨y, hy1, hy2, rfl, HYL, hb⟩ := hrel
      have HD := hide (fun W => dayNumber_first (y + 1) W (by omega) (by omega))
      have hyb := yb_le (y := y + 1) (by omega) (by omega)
      by_cases hlt : yb (y + 1) ≤ n + 719162
      · have hy9 := year_lt (y := y + 1) (by omega) hlt h2
        have HL := hide hlt
        have ht : yb (y + 1) - 719162 ≤ n := by omega
        obtain ⟨Z, hZ⟩ : ∃ Z, yb (y + 1) = Z := ⟨_, rfl⟩
        simp only [hZ] at HD hyb ht
        clear hZ hlt
        go_wp2_with fail
        refine (HD.out _).mono ?_
        rintro e w2 ⟨rfl, hb2⟩
        have hb3 := hb.trans (hb2.mono hb.size)
        clear hb2
        go_wp2_with fail
        go_roundw
        case rel => exact ⟨y + 1, by omega, by omega, rfl, HL, hb3⟩
        case measure => simp [intOf]; omega
      · have HU : Hid (n + 719162 < yb (y + 1)) := hide (by omega)
        have ht : n < yb (y + 1) - 719162 := by omega
        have HE := hide (fun W => dayNumber_first y W hy1 (by omega))
        have hyc := yb_le hy1 (by omega)
        have HEND := hide (year_end hy1 HU.out)
        have hl0 := HYL.out
        obtain ⟨Z, hZ⟩ : ∃ Z, yb (y + 1) = Z := ⟨_, rfl⟩
        obtain ⟨Y, hY⟩ : ∃ Y, yb y = Y := ⟨_, rfl⟩
        have HY := hide hY
        simp only [hZ] at HD hyb ht HU
        simp only [hY] at HE hyc hl0 HEND
        have HZ := hide hZ
        clear hZ hY hlt
        go_wp2_with fail
        refine (HD.out _).mono ?_
        rintro e w2 ⟨rfl, hb2⟩
        have hb3 := hb.trans (hb2.mono hb.size)
        clear hb2
        go_wp2_with fail
        refine (HE.out _).mono ?_
        rintro e w3 ⟨rfl, hb4⟩
        have hb5 := hb3.trans (hb4.mono hb3.size)
        clear hb4 hb3
        go_wp2_with fail
        go_loopw [5, 3] (fun r v wr => ∃ m : Nat, 1 ≤ m ∧ m ≤ 12 ∧ v = .int .i64 (m : Int) ∧ r = .int .i64 (n - (Y - 719162) - cum y (m - 1)) ∧ Hid (cum y (m - 1) ≤ n + 719162 - Y) ∧ Below w.heap.size w wr) (fun _ v _ => 12 - (intOf v).toNat)
        case atStart => exact ⟨1, by omega, by omega, rfl, by simp [cum], hide (by simp [cum]; omega), hb5⟩
        case round =>
          obtain ⟨m, hm1, hm2, rfl, rfl, HCL, hbm⟩ := hrel
          have hcb := cum_le y (m - 1)
          have hmd := mdays_pos y m
          have HCS := hide (cum_step y m hm1)
          have HML := hide (fun W => monthLong_any y m W (by omega) (by omega) hm1 hm2)
          have hcl := HCL.out
          by_cases hge : mdays y m ≤ n + 719162 - Y - cum y (m - 1)
          · have hm12 : m < 12 := by
              rcases Nat.lt_or_ge m 12 with h | h
              · exact h
              · exfalso
                obtain rfl : m = 12 := by omega
                have e1 := HEND.out
                have e2 := HCS.out
                omega
            have HN : Hid (cum y m ≤ n + 719162 - Y) := hide (by rw [HCS.out]; omega)
            obtain ⟨C, hC⟩ : ∃ C, cum y (m - 1) = C := ⟨_, rfl⟩
            obtain ⟨D, hD⟩ : ∃ D, mdays y m = D := ⟨_, rfl⟩
            simp only [hC] at hcb hge hcl HCS ⊢
            simp only [hD] at hmd hge HML HCS
            clear hC hD HCL
            go_wp2_with fail
            refine (HML.out _).mono ?_
            rintro e w4 ⟨rfl, hb6⟩
            have hb7 := hbm.trans (hb6.mono hbm.size)
            clear hb6
            go_wp2_with fail
            refine (HML.out _).mono ?_
            rintro e w5 ⟨rfl, hb8⟩
            have hb9 := hb7.trans (hb8.mono hb7.size)
            clear hb8 hb7
            go_wp2_with fail
            go_roundw
            case rel => exact ⟨m + 1, by omega, by omega, by go_num, by rw [show m + 1 - 1 = m by omega, HCS.out]; go_num, by rw [show m + 1 - 1 = m by omega]; exact HN, hb9⟩
            case measure => simp [intOf]; omega
          · have HC9 : Hid (Civ n y m (n - (Y - 719162) - cum y (m - 1) + 1)) := hide ⟨hy1, hy2, HYL.out, by rw [HZ.out]; exact HU.out, hm1, hm2, by rw [HY.out]; exact hcl, by rw [HY.out, HCS.out]; omega, by rw [HY.out]; omega⟩
            obtain ⟨C, hC⟩ : ∃ C, cum y (m - 1) = C := ⟨_, rfl⟩
            obtain ⟨D, hD⟩ : ∃ D, mdays y m = D := ⟨_, rfl⟩
            simp only [hC] at hcb hge hcl HCS HC9 ⊢
            simp only [hD] at hmd hge HML HCS
            clear hC hD HCL
            go_wp2_with fail
            refine (HML.out _).mono ?_
            rintro e w4 ⟨rfl, hb6⟩
            have hb7 := hbm.trans (hb6.mono hbm.size)
            clear hb6
            go_wp2_with fail
            go_ret3
            exact ⟨⟨y, m, _, HC9.out, rfl⟩, hb7⟩
theorem DayOf_no (n : Int) (w : World) (h : n < -719162 ∨ 2932896 < n) : Calls Tryz.prog 60 #[.int .i64 n] w fun e w' => e = .returned (.tuple #[.int .i64 0, .int .i64 0, .int .i64 0, .bool false]) ∧ w = w' := by
  have HA := hide (fun W => yearBegin_any 1 W (by omega) (by omega))
  have HB := hide (fun W => yearBegin_any 10000 W (by omega) (by omega))
  have e1 : yb 1 - 719162 = -719162 := by decide
  have e2 : yb 10000 - 719162 = 2932897 := by decide
  simp only [e1] at HA
  simp only [e2] at HB
  clear e1 e2
  by_cases h1 : n < -719162
  · clear h
    go_enter Tryz.func60, Tryz.ntmps60
    go_wp2_with fail
    refine (HA.out _).mono ?_
    rintro e w' ⟨rfl, rfl⟩
    go_wp2_with fail
    exact bodyPost_ret (v := .tuple #[.int .i64 0, .int .i64 0, .int .i64 0, .bool false]) (by simp [results, Tryz.results60, go_sem]) rfl ⟨rfl, rfl⟩
  · have h2 : 2932897 ≤ n := by omega
    clear h
    go_enter Tryz.func60, Tryz.ntmps60
    go_wp2_with fail
    refine (HA.out _).mono ?_
    rintro e w' ⟨rfl, rfl⟩
    go_wp2_with fail
    refine (HB.out _).mono ?_
    rintro e w' ⟨rfl, rfl⟩
    go_wp2_with fail
    exact bodyPost_ret (v := .tuple #[.int .i64 0, .int .i64 0, .int .i64 0, .bool false]) (by simp [results, Tryz.results60, go_sem]) rfl ⟨rfl, rfl⟩
set_option maxHeartbeats 1000000 in
theorem DayOf_yes (n : Int) (w : World) (h1 : -719162 ≤ n) (h2 : n ≤ 2932896) : Calls Tryz.prog 60 #[.int .i64 n] w fun e w' => (∃ y m d, Civ n y m d ∧ e = .returned (.tuple #[.int .i64 y, .int .i64 (m : Int), .int .i64 d, .bool true])) ∧ w = w' := by
  have HA := hide (fun W => yearBegin_any 1 W (by omega) (by omega))
  have HB := hide (fun W => yearBegin_any 10000 W (by omega) (by omega))
  have e1 : yb 1 - 719162 = -719162 := by decide
  have e2 : yb 10000 - 719162 = 2932897 := by decide
  simp only [e1] at HA
  simp only [e2] at HB
  have H1 : Hid (yb 1 ≤ n + 719162) := hide (by omega)
  have H2 : Hid (n + 719162 < yb (9999 + 1)) := hide (by show n + 719162 < yb 10000; omega)
  clear e1 e2
  go_enter Tryz.func60, Tryz.ntmps60
  go_wp2_with fail
  refine (HA.out _).mono ?_
  rintro e w' ⟨rfl, rfl⟩
  go_wp2_with fail
  refine (HB.out _).mono ?_
  rintro e w' ⟨rfl, rfl⟩
  go_wp2_with fail
  go_loop [6, 7] (fun a b => ∃ lo hi : Int, 1 ≤ lo ∧ lo ≤ hi ∧ hi ≤ 9999 ∧ a = .int .i64 lo ∧ b = .int .i64 hi ∧ Hid (yb lo ≤ n + 719162) ∧ Hid (n + 719162 < yb (hi + 1))) (fun a b => (intOf b - intOf a).toNat)
  case atStart => exact ⟨1, 9999, by omega, by omega, by omega, rfl, rfl, H1, H2⟩
  case round =>
    obtain ⟨lo, hi, ha, hb, hc, rfl, rfl, HL, HU⟩ := hrel
    by_cases hlt : lo < hi
    · obtain ⟨mid, hmid⟩ : ∃ mid, (lo + hi + 1) / 2 = mid := ⟨_, rfl⟩
      have hm1 : lo < mid := by omega
      have hm2 : mid ≤ hi := by omega
      have HM := hide (fun W => yearBegin_any mid W (by omega) (by omega))
      have hyb := yb_le (y := mid) (by omega) (by omega)
      by_cases hle : yb mid ≤ n + 719162
      · have HN := hide hle
        have ht : yb mid - 719162 ≤ n := by omega
        obtain ⟨Z, hZ⟩ : ∃ Z, yb mid = Z := ⟨_, rfl⟩
        simp only [hZ] at HM hyb ht
        clear hZ hle
        go_wp2_with fail
        refine (HM.out _).mono ?_
        rintro e w' ⟨rfl, rfl⟩
        go_wp2_with fail
        go_round
        case rel => exact ⟨mid, hi, by omega, hm2, hc, rfl, rfl, HN, HU⟩
        case measure => simp [intOf]; omega
      · have HN : Hid (n + 719162 < yb (mid - 1 + 1)) := hide (by rw [show mid - 1 + 1 = mid by omega]; omega)
        have ht : n < yb mid - 719162 := by omega
        obtain ⟨Z, hZ⟩ : ∃ Z, yb mid = Z := ⟨_, rfl⟩
        simp only [hZ] at HM hyb ht
        clear hZ hle
        go_wp2_with fail
        refine (HM.out _).mono ?_
        rintro e w' ⟨rfl, rfl⟩
        go_wp2_with fail
        go_round
        case rel => exact ⟨lo, mid - 1, ha, by omega, by omega, rfl, rfl, HL, HN⟩
        case measure => simp [intOf]; omega
    · obtain rfl : lo = hi := by omega
      have HE := hide (fun W => yearBegin_any lo W ha (by omega))
      have hyc := yb_le ha (by omega)
      have HEND := hide (year_end ha HU.out)
      have hl0 := HL.out
      have hu0 : n + 719162 - yb lo < 366 := by
        have := HU.out
        rw [yb_succ lo ha] at this
        have := lp_01 lo
        omega
      obtain ⟨Y, hY⟩ : ∃ Y, yb lo = Y := ⟨_, rfl⟩
      have HY := hide hY
      simp only [hY] at HE hyc hl0 HEND hu0
      clear hY hlt
      go_wp2_with fail
      refine (HE.out _).mono ?_
      rintro e w' ⟨rfl, rfl⟩
      go_wp2_with fail
      go_loop [4, 3] (fun r v => ∃ m : Nat, 1 ≤ m ∧ m ≤ 12 ∧ v = .int .i64 (m : Int) ∧ r = .int .i64 (n - (Y - 719162) + 1 - cum lo (m - 1)) ∧ Hid (cum lo (m - 1) ≤ n + 719162 - Y)) (fun _ v => 12 - (intOf v).toNat)
      case atStart => exact ⟨1, by omega, by omega, rfl, by simp [cum], hide (by simp [cum]; omega)⟩
      case round =>
        obtain ⟨m, hm1, hm2, rfl, rfl, HCL⟩ := hrel
        have hcb := cum_le lo (m - 1)
        have hmd := mdays_pos lo m
        have HCS := hide (cum_step lo m hm1)
        have HML := hide (fun W => monthDays_any lo m W (by omega) (by omega) hm1 hm2)
        have hcl := HCL.out
        by_cases hge : mdays lo m ≤ n + 719162 - Y - cum lo (m - 1)
        · have hm12 : m < 12 := by
            rcases Nat.lt_or_ge m 12 with h | h
            · exact h
            · exfalso
              obtain rfl : m = 12 := by omega
              have e1 := HEND.out
              have e2 := HCS.out
              omega
          have HN : Hid (cum lo m ≤ n + 719162 - Y) := hide (by rw [HCS.out]; omega)
          obtain ⟨C, hC⟩ : ∃ C, cum lo (m - 1) = C := ⟨_, rfl⟩
          obtain ⟨D, hD⟩ : ∃ D, mdays lo m = D := ⟨_, rfl⟩
          simp only [hC] at hcb hge hcl HCS ⊢
          simp only [hD] at hmd hge HML HCS
          clear hC hD HCL
          go_wp2_with fail
          refine (HML.out _).mono ?_
          rintro e w' ⟨rfl, rfl⟩
          go_wp2_with fail
          refine (HML.out _).mono ?_
          rintro e w' ⟨rfl, rfl⟩
          go_wp2_with fail
          go_round
          case rel => exact ⟨m + 1, by omega, by omega, by go_num, by rw [show m + 1 - 1 = m by omega, HCS.out]; go_num, by rw [show m + 1 - 1 = m by omega]; exact HN⟩
          case measure => simp [intOf]; omega
        · have HC9 : Hid (Civ n lo m (n - (Y - 719162) + 1 - cum lo (m - 1))) := hide ⟨ha, hc, HL.out, HU.out, hm1, hm2, by rw [HY.out]; exact hcl, by rw [HY.out, HCS.out]; omega, by rw [HY.out]; omega⟩
          obtain ⟨C, hC⟩ : ∃ C, cum lo (m - 1) = C := ⟨_, rfl⟩
          obtain ⟨D, hD⟩ : ∃ D, mdays lo m = D := ⟨_, rfl⟩
          simp only [hC] at hcb hge hcl HCS HC9 ⊢
          simp only [hD] at hmd hge HML HCS
          clear hC hD HCL
          go_wp2_with fail
          refine (HML.out _).mono ?_
          rintro e w' ⟨rfl, rfl⟩
          go_wp2_with fail
          exact bodyPost_ret (v := .tuple #[.int .i64 lo, .int .i64 (m : Int), .int .i64 (n - (Y - 719162) + 1 - C), .bool true]) (by simp [results, Tryz.results60, go_sem]) rfl ⟨⟨lo, m, _, HC9.out, rfl⟩, rfl⟩
end Go.Proofs.YtifpmigghplmoaaGreatDoor
