/- Printf, the reference: wordNumber of any word. -/
import Derived.Test.YtifpmigghplmoaaGreatDoorZPfReA
import Derived.Test.YtifpmigghplmoaaGreatDoorZPfReB
import Derived.Test.YtifpmigghplmoaaGreatDoorZPfReC
set_option linter.unusedVariables false
set_option linter.unusedSimpArgs false
namespace Go.Proofs.YtifpmigghplmoaaGreatDoor
open Go.RowKit Go.Pw Go.Shelf
set_option maxHeartbeats 8000000 in
set_option maxRecDepth 100000 in
theorem wordNumber_nil (w : World) :
    Calls Tryz.prog 91 #[.string (mkB [])] w fun e w' => e = .returned (.tuple #[.int .i64 (numP []).1, .int .i64 (numP []).2]) ∧ w' = w := by
  have hemp : (mkB []).toList.isEmpty = true := by rw [Lib.toList_data, mkB_data2]; rfl
  go_enter Tryz.func91, Tryz.ntmps91
  go_wp2_with fail
  go_ret2
  exact ⟨rfl, rfl⟩
set_option maxHeartbeats 8000000 in
set_option maxRecDepth 100000 in
theorem wordNumber_quote (c : UInt8) (r : List UInt8) (w : World) (hc : c = 39 ∨ c = 34) (hr : r.length ≤ 1000000) :
    Calls Tryz.prog 91 #[.string (mkB (c :: r))] w fun e w' => e = .returned (.tuple #[.int .i64 (numP (c :: r)).1, .int .i64 (numP (c :: r)).2]) ∧ w' = w := by
  have hemp : (mkB (c :: r)).toList.isEmpty = false := by rw [Lib.toList_data, mkB_data2]; rfl
  have HV : Hid (numP (c :: r) = quoP r) := hide (by rw [numP, if_pos hc])
  have hsz : (mkB (c :: r)).size = r.length + 1 := by rw [mkB_size]; rfl
  obtain ⟨q, hq⟩ : ∃ q, mkB (c :: r) = q := ⟨_, rfl⟩
  rw [hq] at hemp hsz ⊢
  have hq0 : 0 < q.size := by omega
  have hi : (0 : Int) < (q.size : Int) := by omega
  have hcc : q[0] = c := by subst hq; rfl
  have hf : ((q[0].toNat : Int) == 39) = true ∨ (((q[0].toNat : Int) == 39) = false ∧ ((q[0].toNat : Int) == 34) = true) := by
    rcases hc with h | h
    · exact .inl (by rw [hcc, h]; rfl)
    · exact .inr ⟨by rw [hcc, h]; rfl, by rw [hcc, h]; rfl⟩
  by_cases h2 : q.size = 2
  · obtain ⟨x, rfl⟩ : ∃ x, r = [x] := by
      match r, hsz with
      | [x], _ => exact ⟨x, rfl⟩
      | [], h => simp at h; omega
      | _ :: _ :: _, h => simp at h; omega
    have hq1 : 1 < q.size := by omega
    have HX : Hid (q[1] = x) := hide (by subst hq; rfl)
    have e1 : (1 : Int) < (q.size : Int) := by omega
    have HW : Hid (wrap64 (q[1].toNat : Int) = (q[1].toNat : Int)) := hide (by have := q[1].toNat_lt; unfold wrap64; omega)
    have e2 : ((q.size : Int) == 2) = true := by simp; omega
    have e3 : (q.size : Int) = 2 := by omega
    clear hsz h2 hq hcc hc
    rcases hf with f1 | ⟨f1, f2⟩
    all_goals
      go_enter Tryz.func91, Tryz.ntmps91
      go_wp2_with fail
      go_ret2
      refine ⟨?_, rfl⟩
      rw [HV.out, ← HX.out]
      show Ending.returned (.tuple #[Value.int .i64 (wrap64 (q[1].toNat : Int)), Value.int .i64 0]) = _
      rw [HW.out]
      rfl
  · have e2 : ((q.size : Int) == 2) = false := by simp; omega
    have e3 : ¬ (q.size : Int) = 2 := by omega
    have HV2 : Hid (numP (c :: r) = (0, 5)) := hide (by
      rw [HV.out]
      match r, hsz with
      | [x], h => simp at h; omega
      | [], _ => rfl
      | _ :: _ :: _, _ => rfl)
    clear hsz h2 hq hcc hc
    rcases hf with f1 | ⟨f1, f2⟩
    all_goals
      go_enter Tryz.func91, Tryz.ntmps91
      go_wp2_with fail
      go_ret2
      exact ⟨by rw [HV2.out]; rfl, rfl⟩
theorem wordNumber_any (a : List UInt8) (w : World) (ha : a.length ≤ 900000) :
    Calls Tryz.prog 91 #[.string (mkB a)] w fun e w' => e = .returned (.tuple #[.int .i64 (numP a).1, .int .i64 (numP a).2]) ∧ w' = w := by
  cases a with
  | nil => exact wordNumber_nil w
  | cons c r =>
    simp only [List.length_cons] at ha
    by_cases h1 : c = 39 ∨ c = 34
    · exact wordNumber_quote c r w h1 (by omega)
    · simp only [not_or] at h1
      by_cases h2 : c = 45
      · exact wordNumber_A c r w h2 (by omega)
      · by_cases h3 : c = 43
        · exact wordNumber_B c r w h3 (by omega)
        · exact wordNumber_C c r w h2 h3 h1.1 h1.2 (by omega)
end Go.Proofs.YtifpmigghplmoaaGreatDoor
