import Derived.Test.YtafgncledbddiaaDiffers
import Derived.Test.YtafgncledbddiaaDifference
set_option linter.unusedSimpArgs false
set_option linter.unusedVariables false
namespace Go.Proofs.Ytafgncledbddiaa
open Go.RowKit Go.Pw

theorem gap_le (a b : List ByteArray) : ∀ (ps : List (Nat × Nat)) (f t : Nat), (hunksOf a b f t ps).length ≤ ps.length + 1
  | [], f, t => by have := gap_length a b f t a.length b.length; simpa [hunksOf] using this
  | p :: ps, f, t => by have := gap_length a b f t p.1 p.2; have := gap_le a b ps (p.1 + 1) (p.2 + 1); simp [hunksOf]; omega
theorem diffOf_le (a b : List ByteArray) : (diffOf a b).length ≤ a.length + 1 := by
  have h1 := gap_le a b (stayAt a b 0 0) 0 0
  have h2 := Chain.length_le (stay_chain a b)
  unfold diffOf; omega

set_option maxHeartbeats 2000000 in
theorem diffMatches_bad (va vb : Value) (a b : List ByteArray) (w : World) (ha : Strs w va a) (hb : Strs w vb b) (he : ¬ listsErr [a, b] = 0) :
    Calls Try.prog 3 #[va, vb] w fun e w' => e = .returned (.bool true) ∧ Below w.heap.size w w' := by
  have HA := hide ha
  have HB := hide hb
  obtain ⟨⟨_, A, ca, rfl, _⟩, _⟩ := ha
  obtain ⟨⟨_, B, cb, rfl, _⟩, _⟩ := hb
  have he' : (listsErr [a, b] != 0) = true := by simpa using he
  have HE := hide he
  clear he
  go_enter Try.func3, Try.ntmps3
  go_wp2_with fail
  refine (Diff_bad _ _ a b _ HA.out HB.out HE.out).mono ?_
  rintro e w1 ⟨rfl, hb1⟩
  go_wp2_with fail
  refine (listsError_any _ [a, b] _ (strsL_two w1 _ _ a b _ (HA.out.below hb1) (HB.out.below hb1))).mono ?_
  rintro e w2 ⟨rfl, rfl⟩
  go_wp2_with fail
  refine (differs_any _).mono ?_
  rintro e w3 ⟨rfl, hb3⟩
  have hb3' : Below w.heap.size w w3 := (hb1.alloc hb1.size _).trans (hb3.mono (by have := hb1.size; simp; omega))
  clear hb1 hb3
  go_wp2_with fail
  refine (differs_any _).mono ?_
  rintro e w4 ⟨rfl, hb4⟩
  have hb4' : Below w.heap.size w w4 := hb3'.trans (hb4.mono hb3'.size)
  go_wp2_with fail
  go_ret
  exact ⟨ret_bool (by simp), hb4'⟩

set_option maxHeartbeats 2000000 in
theorem diffMatches_good (va vb : Value) (a b : List ByteArray) (w : World) (ha : Strs w va a) (hb : Strs w vb b) (he : listsErr [a, b] = 0) :
    Calls Try.prog 3 #[va, vb] w fun e w' => e = .returned (.bool true) ∧ Below w.heap.size w w' := by
  have HA := hide ha
  have HB := hide hb
  obtain ⟨⟨_, A, ca, rfl, _⟩, _⟩ := ha
  obtain ⟨⟨_, B, cb, rfl, _⟩, _⟩ := hb
  have la := lists_len he (l := a) (by simp)
  have lb := lists_len he (l := b) (by simp)
  have HE := hide he
  clear he
  go_enter Try.func3, Try.ntmps3
  go_wp2_with fail
  refine (Diff_good _ _ a b _ HA.out HB.out HE.out).mono ?_
  rintro e w1 ⟨v, rfl, hh, hb1⟩
  have HH := hide hh
  clear hh
  go_wp2_with fail
  refine (listsError_any _ [a, b] _ (strsL_two w1 _ _ a b _ (HA.out.below hb1) (HB.out.below hb1))).mono ?_
  rintro e w2 ⟨rfl, rfl⟩
  rw [HE.out]
  go_wp2_with fail
  refine (differs_any _).mono ?_
  rintro e w3 ⟨rfl, hb3⟩
  have hb13 : Below w1.heap.size w1 w3 := ((Below.refl _ _).alloc (Nat.le_refl _) _).trans (hb3.mono (by simp))
  have hb3' : Below w.heap.size w w3 := hb1.trans (hb13.mono hb1.size)
  clear hb1 hb3
  have HH3 := hide (HH.out.below hb13)
  clear hb13 HH
  go_wp2_with fail
  refine (few_any _ [a, b] _ (strsL_two w3 _ _ a b _ (HA.out.below hb3') (HB.out.below hb3'))).mono ?_
  rintro e w4 ⟨rfl, rfl⟩
  have bb := (Below.refl w3.heap.size w3).alloc (Nat.le_refl _) (.cells #[.slice A a.length ca, .slice B b.length cb] 22)
  have hb4 : Below w.heap.size w (w3.alloc (.cells #[.slice A a.length ca, .slice B b.length cb] 22)) := hb3'.alloc hb3'.size _
  by_cases hf : fewB [a, b] = true
  · have HF := hide hf
    rw [hf]
    clear hf
    go_wp2_with fail
    refine (difference_any _ _ a b _ (HA.out.below hb4) (HB.out.below hb4) la lb).mono ?_
    rintro e w5 ⟨v5, rfl, hh5, hb5⟩
    have HH5 := hide hh5
    clear hh5
    have hb35 : Below w3.heap.size w3 w5 := bb.trans (hb5.mono (by simp))
    have hb5' : Below w.heap.size w w5 := hb3'.trans (hb35.mono hb3'.size)
    clear hb5 bb hb4
    go_wp2_with fail
    refine (sameHunks_any _ _ (diffOf a b) (diffOf a b) _ (HH3.out.below hb35) HH5.out (by have := diffOf_le a b; omega) true ⟨fun _ => rfl, fun _ => rfl⟩).mono ?_
    rintro e w6 ⟨rfl, hb6⟩
    have hb6' : Below w.heap.size w w6 := hb5'.trans (hb6.mono hb5'.size)
    go_wp2_with fail
    go_ret
    exact ⟨ret_bool (by simp), hb6'⟩
  · have hf' : fewB [a, b] = false := by simpa using hf
    rw [hf']
    clear hf hf'
    go_wp2_with fail
    go_ret
    exact ⟨ret_bool (by simp), hb4⟩

theorem diffMatches_any (va vb : Value) (a b : List ByteArray) (w : World) (ha : Strs w va a) (hb : Strs w vb b) :
    Calls Try.prog 3 #[va, vb] w fun e w' => e = .returned (.bool true) ∧ Below w.heap.size w w' := by
  by_cases he : listsErr [a, b] = 0
  · exact diffMatches_good va vb a b w ha hb he
  · exact diffMatches_bad va vb a b w ha hb he
end Go.Proofs.Ytafgncledbddiaa
