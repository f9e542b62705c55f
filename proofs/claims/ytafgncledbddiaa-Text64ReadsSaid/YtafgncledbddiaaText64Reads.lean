import Derived.Test.YtafgncledbddiaaBytes64
import Derived.Test.YtafgncledbddiaaDiffers
set_option linter.unusedSimpArgs false
set_option linter.unusedVariables false
namespace Go.Proofs.Ytafgncledbddiaa
open Go.RowKit Go.Pw

/-- the program's answer and the reference's, side by side -/
theorem both64 (s : ByteArray) (h : ¬ 262144 < s.size) : (∃ k : Int, progOut s = (⟨#[]⟩, k, 1) ∧ refOut s = (⟨#[]⟩, k, false)) ∨ ∃ u, progOut s = (u, 0, 0) ∧ refOut s = (u, 0, true) := by
  unfold progOut refOut
  rw [if_neg h]
  rcases sim_run s.data.toList p0 r0 0 sim0 with ⟨k, h1, h2⟩ | ⟨p, r, h1, h2, hs⟩
  · rw [h1, h2]; exact .inl ⟨k, rfl, rfl⟩
  · rw [h1, h2]
    obtain ⟨_, _, k3, _⟩ := hs.ok
    have hm := hs.many
    by_cases he : p.count + p.filled = 0 ∨ p.count + p.filled = 4
    · have e : r.many % 4 = 0 := by omega
      simp only [if_pos he, if_pos e, sim_last hs he]
      exact .inr ⟨_, rfl, rfl⟩
    · have e : ¬ r.many % 4 = 0 := by omega
      simp only [if_neg he, if_neg e]
      exact .inl ⟨_, rfl, rfl⟩

set_option maxHeartbeats 2000000 in
theorem text64Reads_any (s : ByteArray) (w : World) (hs : s.size ≤ 140737488355328) :
    Calls Try.prog 4 #[.string s] w fun e w' => e = .returned (.bool true) ∧ Below w.heap.size w w' := by
  by_cases hl : 3000 < s.size
  · go_enter Try.func4, Try.ntmps4
    go_wp2_with fail
    refine (bytes64_any s _ hs).mono ?_
    rintro e w1 ⟨rfl, hb1⟩
    unfold progVal
    go_wp2_with fail
    refine (fromLetters_any s _ hs).mono ?_
    rintro e w2 ⟨rfl, hb2⟩
    unfold refVal
    have hb2' := hb1.trans (hb2.mono hb1.size)
    clear hb1 hb2
    go_wp2_with fail
    refine (differs_any _).mono ?_
    rintro e w3 ⟨rfl, hb3⟩
    have hb3' := hb2'.trans (hb3.mono hb2'.size)
    clear hb2' hb3
    have hl' : decide ((3000 : Int) < (s.size : Int)) = true := by simp; omega
    go_wp2_with fail
    refine (differs_any _).mono ?_
    rintro e w4 ⟨rfl, hb4⟩
    have hb4' := hb3'.trans (hb4.mono hb3'.size)
    go_wp2_with fail
    go_ret
    exact ⟨rfl, hb4'⟩
  · have hl' : decide ((3000 : Int) < (s.size : Int)) = false := by simp; omega
    have hV : (∃ k : Int, progVal s = .tuple #[.string ⟨#[]⟩, .int .i64 k, .int .i64 1] ∧ refVal s = .tuple #[.string ⟨#[]⟩, .int .i64 k, .bool false]) ∨ ∃ u, progVal s = .tuple #[.string u, .int .i64 0, .int .i64 0] ∧ refVal s = .tuple #[.string u, .int .i64 0, .bool true] := by
      unfold progVal refVal
      rcases both64 s (by omega) with ⟨k, h1, h2⟩ | ⟨u, h1, h2⟩
      · rw [h1, h2]; exact .inl ⟨k, rfl, rfl⟩
      · rw [h1, h2]; exact .inr ⟨u, rfl, rfl⟩
    rcases hV with ⟨k, h1, h2⟩ | ⟨u, h1, h2⟩
    all_goals
      have H1 := hide h1
      have H2 := hide h2
      clear h1 h2
      go_enter Try.func4, Try.ntmps4
      go_wp2_with fail
      refine (bytes64_any s _ hs).mono ?_
      rintro e w1 ⟨rfl, hb1⟩
      rw [H1.out]
      go_wp2_with fail
      refine (fromLetters_any s _ hs).mono ?_
      rintro e w2 ⟨rfl, hb2⟩
      rw [H2.out]
      have hb2' := hb1.trans (hb2.mono hb1.size)
      clear hb1 hb2
      go_wp2_with fail
      refine (differs_any _).mono ?_
      rintro e w3 ⟨rfl, hb3⟩
      have hb3' := hb2'.trans (hb3.mono hb2'.size)
      clear hb2' hb3
      go_wp2_with fail
      go_ret
      exact ⟨ret_bool (by simp), hb3'⟩
end Go.Proofs.Ytafgncledbddiaa
