/- Small functions of the laws: first, when, outcome, within. -/
import Derived.Test.YtinpgnekjebipaaDoorMem
import Derived.Test.YtinpgnekjebipaaDoorProg
import Derived.WalkKit
set_option linter.unusedVariables false
set_option linter.unusedSimpArgs false
namespace Go.Proofs.YtinpgnekjebipaaDoor
open Go.RowKit Go.Pw
/-- the first error of some -/
theorem first_any (v : Value) (l : List Int) (w : World) (h : Rd w 1 v l.length (l.map (Value.int .i64))) :
    Calls Tryd.prog 6 #[v] w fun e w' => e = .returned (.int .i64 (firstNZ l)) ∧ w = w' := by
  obtain ⟨_, A, cap, rfl, hcap, hmax, hx⟩ := h
  unfold maxLen at hmax
  have HX := hide hx
  clear hx
  go_enter Tryd.func6, Tryd.ntmps6
  go_wp2
  go_loop [7] (fun i => ∃ k : Nat, k ≤ l.length ∧ i = .int .i64 (k : Int) ∧ Hid (firstNZ l = firstNZ ((l.drop k).map id))) (fun i => l.length - (intOf i).toNat)
  case atStart => exact ⟨0, by omega, rfl, by show _ = _; simp⟩
  case round =>
    obtain ⟨k, hk, rfl, hf⟩ := hrel
    by_cases hlt : k < l.length
    · obtain ⟨b, o, rfl, hb, hj⟩ := HX.out (by omega)
      have hc : w.cell? ⟨b, o + k, none⟩ = some (.int .i64 l[k]) := hj k _ (by simp [hlt])
      clear hj
      go_wp2_with fail
      · have hne : (l[k] != 0) = true := by assumption
        go_ret
        exact ⟨ret_int (fnz_hit hf hlt rfl (by simpa using hne)), rfl⟩
      · have hne : (l[k] != 0) = false := by assumption
        go_round
        case rel => exact ⟨k + 1, by omega, by go_num, fnz_miss hf hlt (by simpa using hne)⟩
        case measure => simp [intOf]; omega
    · go_wp2_with fail
      go_ret
      exact ⟨ret_int (fnz_end hf hlt), rfl⟩
theorem when_any (c : Bool) (n : Int) (w : World) :
    Calls Tryd.prog 7 #[.bool c, .int .i64 n] w fun e w' => e = .returned (.int .i64 (if c then n else 0)) ∧ w = w' := by
  cases c
  · go_enter Tryd.func7, Tryd.ntmps7
    go_wp2
    go_ret
    exact ⟨rfl, rfl⟩
  · go_enter Tryd.func7, Tryd.ntmps7
    go_wp2
    go_ret
    exact ⟨rfl, rfl⟩
theorem outcome_bad (t : ByteArray) (n : Int) (w : World) (h : ¬ n = 0) :
    Calls Tryd.prog 10 #[.string ⟨#[]⟩, .int .i64 n, .string t, .int .i64 n] w fun e w' => e = .returned (.bool true) ∧ w = w' := by
  have h' : (n != 0) = true := by simpa using h
  go_enter Tryd.func10, Tryd.ntmps10
  go_wp2
  go_ret
  exact ⟨ret_bool (by simp), rfl⟩
theorem outcome_good (t : ByteArray) (w : World) :
    Calls Tryd.prog 10 #[.string t, .int .i64 0, .string t, .int .i64 0] w fun e w' => e = .returned (.bool true) ∧ w = w' := by
  go_enter Tryd.func10, Tryd.ntmps10
  go_wp2
  go_ret
  exact ⟨ret_bool (by simp), rfl⟩
theorem withinL_any (n lo hi : Int) (w : World) : Calls Tryd.prog 8 #[.int .i64 n, .int .i64 lo, .int .i64 hi] w fun e w' => e = .returned (.bool (decide (lo ≤ n) && decide (n ≤ hi))) ∧ w = w' := by
  by_cases h : lo ≤ n
  · have h1 : decide (lo ≤ n) = true := by simpa using h
    go_enter Tryd.func8, Tryd.ntmps8
    go_wp2
    go_ret
    exact ⟨by simp [h], rfl⟩
  · have h1 : decide (lo ≤ n) = false := by simpa using h
    go_enter Tryd.func8, Tryd.ntmps8
    go_wp2
    go_ret
    exact ⟨by simp [h], rfl⟩
end Go.Proofs.YtinpgnekjebipaaDoor
