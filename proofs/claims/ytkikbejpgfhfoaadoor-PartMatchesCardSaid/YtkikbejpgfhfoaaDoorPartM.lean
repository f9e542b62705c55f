/- The law PartMatches: the walk. -/
import Derived.Test.YtkikbejpgfhfoaaDoorPartR
import Derived.Test.YtkikbejpgfhfoaaDoorCountR
import Derived.Test.YtkikbejpgfhfoaaDoorLawK2
import Derived.Test.YtkikbejpgfhfoaaDoorLawKit
import Derived.Test.YtkikbejpgfhfoaaDoorSorts
import Derived.Deep.QuietTactic
import Derived.BigQuiet
set_option linter.unusedVariables false
set_option linter.unusedSimpArgs false
namespace Go.Pw
open Go.RowKit
theorem rd_threeI (w : World) (x y z : Int) (t : TypeId) : Rd (w.alloc (.cells #[.int .i64 x, .int .i64 y, .int .i64 z] t)) 1 (.slice (some ⟨w.heap.size, 0, none⟩) 3 3) 3 ([x, y, z].map (Value.int .i64)) := by
  refine ⟨rfl, _, _, rfl, Nat.le_refl _, by unfold maxLen; omega, fun _ => ⟨w.heap.size, 0, rfl, by simp, fun j u hu => ?_⟩⟩
  rw [World.cell?_alloc_new]
  simpa using hu
end Go.Pw
namespace Go.Proofs.YtkikbejpgfhfoaaDoor
open Go.RowKit Go.Pw
theorem firstThree_any (w : World) (x y z : Int) : Calls Tryd.prog 14 #[.slice (some ⟨w.heap.size, 0, none⟩) 3 3] (w.alloc (.cells #[.int .i64 x, .int .i64 y, .int .i64 z] 25)) fun e w' => e = .returned (.int .i64 (firstNZ [x, y, z])) ∧ w' = w.alloc (.cells #[.int .i64 x, .int .i64 y, .int .i64 z] 25) :=
  (first_any _ [x, y, z] _ (rd_threeI w x y z _)).mono fun e w' ⟨h1, h2⟩ => ⟨h1, h2.symm⟩
theorem largeS_any (s : ByteArray) (w : World) (hs : s.size ≤ maxLen) : Calls Tryd.prog 22 #[.slice (some ⟨w.heap.size, 0, none⟩) 1 1] (w.alloc (.cells #[.string s] 9)) fun e w' => e = .returned (.int .i64 (if bigB s then 2 else 0)) ∧ Below w.heap.size w w' :=
  (largeL_any _ [s] _ (strs_one w s 9 hs)).mono fun e w' ⟨h1, h2⟩ => ⟨by rw [h1]; simp, ((Below.refl _ _).alloc (Nat.le_refl _) _).trans (h2.mono (by simp))⟩
set_option maxHeartbeats 1000000 in
set_option maxRecDepth 100000 in
theorem part_bad (k : Int) (b : Bool) (n : Int) (s : ByteArray) (m : Int) (w : World) (hs : s.size ≤ maxLen) (hm : m ≠ 0) (he : partErr k n s = m) :
    Calls Tryd.prog 43 #[.agg #[.int .i64 k, .bool b, .int .i64 n], .string s] w fun e w' => e = .returned (.tuple #[.string ⟨#[]⟩, .int .i64 m]) ∧ Below w.heap.size w w' := by
  unfold maxLen at hs
  have HLG := hide (fun W => large_any s W (by omega))
  have c0 : (w.alloc (.cells #[.int .i64 k, .bool b, .int .i64 n] 71)).cell? ⟨w.heap.size, 0, none⟩ = some (.int .i64 k) := by rw [World.cell?_alloc_new]; rfl
  have c2 : (w.alloc (.cells #[.int .i64 k, .bool b, .int .i64 n] 71)).cell? ⟨w.heap.size, 2, none⟩ = some (.int .i64 n) := by rw [World.cell?_alloc_new]; rfl
  have HB0 := hide ((Below.refl w.heap.size w).alloc (Nat.le_refl _) (.cells #[.int .i64 k, .bool b, .int .i64 n] 71))
  unfold partErr at he
  obtain ⟨W1, hW1⟩ : ∃ W1, w.alloc (.cells #[.int .i64 k, .bool b, .int .i64 n] 71) = W1 := ⟨_, rfl⟩
  rw [hW1] at HB0 c0 c2
  have HW1 := hide hW1
  cases hk : (decide (1 ≤ k) && decide (k ≤ 4))
  · rw [hk] at he
    obtain rfl : m = 4 := by simpa [firstNZ] using he.symm
    clear he hW1
    go_enter Tryd.func43, Tryd.ntmps43
    go_wp2_with fail
    rw [HW1.out]
    refine (within_any _ _ _ _).mono ?_
    rintro e w' ⟨rfl, rfl⟩
    rw [hk]
    go_wp2_with fail
    go_ret2
    exact ⟨rfl, HB0.out⟩
  · cases hn : (decide (0 ≤ n) && decide (n ≤ 65536))
    · rw [hk, hn] at he
      obtain rfl : m = 3 := by simpa [firstNZ] using he.symm
      clear he hW1
      go_enter Tryd.func43, Tryd.ntmps43
      go_wp2_with fail
      rw [HW1.out]
      refine (within_any _ _ _ _).mono ?_
      rintro e w' ⟨rfl, rfl⟩
      rw [hk]
      go_wp2_with fail
      refine (within_any _ _ _ _).mono ?_
      rintro e w' ⟨rfl, rfl⟩
      rw [hn]
      go_wp2_with fail
      go_ret2
      exact ⟨rfl, HB0.out⟩
    · cases hb : bigB s
      · rw [hk, hn, hb] at he
        simp [firstNZ] at he
        exact absurd he.symm hm
      · rw [hk, hn, hb] at he
        obtain rfl : m = 2 := by simpa [firstNZ] using he.symm
        simp only [hb] at HLG
        clear he hW1 hb
        go_enter Tryd.func43, Tryd.ntmps43
        go_wp2_with fail
        rw [HW1.out]
        refine (within_any _ _ _ _).mono ?_
        rintro e w' ⟨rfl, rfl⟩
        rw [hk]
        go_wp2_with fail
        refine (within_any _ _ _ _).mono ?_
        rintro e w' ⟨rfl, rfl⟩
        rw [hn]
        go_wp2_with fail
        refine (HLG.out _).mono ?_
        rintro e w2 ⟨rfl, hb2⟩
        have HB2 := hide (HB0.out.trans (hb2.mono HB0.out.size))
        clear hb2
        go_wp2_with fail
        go_ret2
        exact ⟨rfl, HB2.out⟩
/-- the errors of the law, with what computes them -/
theorem partWhens (k n : Int) (s : ByteArray) (hs : s.size ≤ maxLen) : ∃ (rk rn : Bool) (x1 x2 x3 : Int), partErr k n s = firstNZ [x1, x2, x3]
    ∧ (∀ W, Calls Tryd.prog 32 #[.int .i64 k, .int .i64 1, .int .i64 4] W fun e w' => e = .returned (.bool rk) ∧ W = w')
    ∧ (∀ W, Calls Tryd.prog 32 #[.int .i64 n, .int .i64 0, .int .i64 65536] W fun e w' => e = .returned (.bool rn) ∧ W = w')
    ∧ (∀ W, Calls Tryd.prog 16 #[.bool (!rk), .int .i64 4] W fun e w' => e = .returned (.int .i64 x1) ∧ W = w')
    ∧ (∀ W, Calls Tryd.prog 16 #[.bool (!rn), .int .i64 3] W fun e w' => e = .returned (.int .i64 x2) ∧ W = w')
    ∧ (∀ W : World, Calls Tryd.prog 22 #[.slice (some ⟨W.heap.size, 0, none⟩) 1 1] (W.alloc (.cells #[.string s] 9)) fun e w' => e = .returned (.int .i64 x3) ∧ Below W.heap.size W w') :=
  ⟨_, _, _, _, _, rfl, fun W => withinL_any _ _ _ W, fun W => withinL_any _ _ _ W, fun W => when_any _ _ W, fun W => when_any _ _ W, fun W => largeS_any s W hs⟩
end Go.Proofs.YtkikbejpgfhfoaaDoor
