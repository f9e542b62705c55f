/- The law DateDaysMatch: the walk. -/
import Derived.Test.YtkikbejpgfhfoaaDoorLawKit
import Derived.Test.YtkikbejpgfhfoaaDoorDatesY
set_option linter.unusedVariables false
set_option linter.unusedSimpArgs false
namespace Go.Proofs.YtkikbejpgfhfoaaDoor
open Go.RowKit Go.Pw
set_option maxHeartbeats 2000000 in
set_option maxRecDepth 100000 in
theorem dateDays_any (y m d n : Int) (w : World) : Calls Tryd.prog 7 #[.int .i64 y, .int .i64 m, .int .i64 d, .int .i64 n] w fun e w' => e = .returned (.bool true) ∧ Below w.heap.size w w' := by
  have HD := hide (Day_any y m d w)
  have HN := hide (fun W => DayNumber_any y m d W)
  obtain ⟨K, hK⟩ : ∃ K, (if dayB y m d then dn y m.toNat d else 0) = K := ⟨_, rfl⟩
  simp only [hK] at HD HN
  clear hK
  by_cases hr : -719162 ≤ n ∧ n ≤ 2932896
  · obtain ⟨hr1, hr2⟩ := hr
    cases hv : dayB y m d
    all_goals
      simp only [hv] at HD HN
      clear hv
      go_enter Tryd.func7, Tryd.ntmps7
      go_wp2_with fail
      refine HD.out.mono ?_
      rintro e w1 ⟨rfl, hb1⟩
      go_wp2_with fail
      refine (HN.out _).mono ?_
      rintro e w' ⟨rfl, rfl⟩
      go_wp2_with fail
      refine (sorts_any _).mono ?_
      rintro e w2 ⟨rfl, hb2⟩
      have hb3 := hb1.trans (hb2.mono hb1.size)
      clear hb1 hb2
      go_wp2_with fail
      refine (Civil_yes n _ hr1 hr2).mono ?_
      rintro e w3 ⟨⟨Y, M, D, hc, rfl⟩, hb4⟩
      have hb5 := hb3.trans (hb4.mono hb3.size)
      have HC := hide hc
      clear hb3 hb4 hc
      go_wp2_with fail
      refine (DayOf_yes n _ hr1 hr2).mono ?_
      rintro e w' ⟨⟨Y', M', D', hc', rfl⟩, rfl⟩
      obtain ⟨rfl, rfl, rfl⟩ := HC.out.one hc'
      clear hc'
      go_wp2_with fail
      refine (when_any _ _ _).mono ?_
      rintro e w' ⟨rfl, rfl⟩
      go_wp2_with fail
      go_ret
      exact ⟨ret_bool (by simp), hb5⟩
  · have hr' : n < -719162 ∨ 2932896 < n := by omega
    clear hr
    have HR := hide hr'
    clear hr'
    cases hv : dayB y m d
    all_goals
      simp only [hv] at HD HN
      clear hv
      go_enter Tryd.func7, Tryd.ntmps7
      go_wp2_with fail
      refine HD.out.mono ?_
      rintro e w1 ⟨rfl, hb1⟩
      go_wp2_with fail
      refine (HN.out _).mono ?_
      rintro e w' ⟨rfl, rfl⟩
      go_wp2_with fail
      refine (sorts_any _).mono ?_
      rintro e w2 ⟨rfl, hb2⟩
      have hb3 := hb1.trans (hb2.mono hb1.size)
      clear hb1 hb2
      go_wp2_with fail
      refine (Civil_no n _ HR.out).mono ?_
      rintro e w3 ⟨rfl, hb4⟩
      have hb5 := hb3.trans (hb4.mono hb3.size)
      clear hb3 hb4
      go_wp2_with fail
      refine (DayOf_no n _ HR.out).mono ?_
      rintro e w' ⟨rfl, rfl⟩
      go_wp2_with fail
      refine (when_any _ _ _).mono ?_
      rintro e w' ⟨rfl, rfl⟩
      go_wp2_with fail
      go_ret
      exact ⟨ret_bool (by simp), hb5⟩
end Go.Proofs.YtkikbejpgfhfoaaDoor
