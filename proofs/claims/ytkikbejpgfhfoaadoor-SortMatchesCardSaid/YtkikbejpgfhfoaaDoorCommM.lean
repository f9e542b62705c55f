/- The law CommMatches: the walk. -/
import Derived.Test.YtkikbejpgfhfoaaDoorComm2
import Derived.Test.YtkikbejpgfhfoaaDoorCommR2
set_option linter.unusedVariables false
set_option linter.unusedSimpArgs false
namespace Go.Pw
open Go.RowKit
theorem rd_two (w : World) (x y : Int) (t : TypeId) : Rd (w.alloc (.cells #[.int .i64 x, .int .i64 y] t)) 1 (.slice (some ⟨w.heap.size, 0, none⟩) 2 2) 2 ([x, y].map (Value.int .i64)) := by
  refine ⟨rfl, _, _, rfl, Nat.le_refl _, by unfold maxLen; omega, fun _ => ⟨w.heap.size, 0, rfl, by simp, fun j u hu => ?_⟩⟩
  rw [World.cell?_alloc_new]
  simpa using hu
theorem two_strs_any (a b : ByteArray) : ([a, b].any bigB) = (bigB a || bigB b) := by simp
end Go.Pw
namespace Go.Proofs.YtkikbejpgfhfoaaDoor
open Go.RowKit Go.Pw
/-- 'want' of the law, and what stands behind it: e is the program's error, X what the texts' size says -/
theorem firstTwo_any (w : World) (x y : Int) : Calls Tryd.prog 14 #[.slice (some ⟨w.heap.size, 0, none⟩) 2 2] (w.alloc (.cells #[.int .i64 x, .int .i64 y] 25)) fun e w' => e = .returned (.int .i64 (firstNZ [x, y])) ∧ w' = w.alloc (.cells #[.int .i64 x, .int .i64 y] 25) :=
  (first_any _ [x, y] _ (rd_two w x y _)).mono fun e w' ⟨h1, h2⟩ => ⟨h1, h2.symm⟩
set_option maxHeartbeats 2000000 in
set_option maxRecDepth 100000 in
/-- where it is refused ahead of the lines -/
theorem commMatches_bad (a b : ByteArray) (h n : Int) (w : World) (ha : a.size ≤ maxLen) (hb : b.size ≤ maxLen) (hn : n ≠ 0) (hf : firstNZ [if !(decide (0 ≤ h) && decide (h ≤ 7)) then 3 else 0, if bigB a || bigB b then 2 else 0] = n)
    (HC : Hid (Calls Tryd.prog 31 #[.string a, .string b, .int .i64 h] w fun e w' => e = .returned (.tuple #[.string ⟨#[]⟩, .int .i64 n]) ∧ Below w.heap.size w w')) :
    Calls Tryd.prog 6 #[.string a, .string b, .int .i64 h] w fun e w' => e = .returned (.bool true) ∧ Below w.heap.size w w' := by
  have hnb : (n != 0) = true := by simpa using hn
  have HST := hide (fun W => largeL_any _ [a, b] _ (strs_two W a b 9 ha hb))
  simp only [two_strs_any] at HST
  have HF := hide hf
  have HN := hide hn
  clear hf hn
  go_enter Tryd.func6, Tryd.ntmps6
  go_wp2_with fail
  refine HC.out.mono ?_
  rintro e w1 ⟨rfl, hb1⟩
  have HB1 := hide hb1
  clear hb1
  go_wp2_with fail
  refine (withinL_any _ _ _ _).mono ?_
  rintro e w' ⟨rfl, rfl⟩
  obtain ⟨r, hr⟩ : ∃ r, (decide (0 ≤ h) && decide (h ≤ 7)) = r := ⟨_, rfl⟩
  rw [hr] at HF ⊢
  clear hr
  go_wp2_with fail
  refine (when_any _ _ _).mono ?_
  rintro e w' ⟨rfl, rfl⟩
  obtain ⟨x, hx⟩ : ∃ x : Int, (if !r then (3 : Int) else 0) = x := ⟨_, rfl⟩
  rw [hx] at HF ⊢
  clear hx
  go_wp2_with fail
  refine (HST.out _).mono ?_
  rintro e w2 ⟨rfl, hb2⟩
  have HB2 : Hid (Below w.heap.size w w2) := hide (HB1.out.trans (((Below.refl _ _).alloc (Nat.le_refl _) _).trans (hb2.mono (by simp) : Below w1.heap.size _ _) |>.mono HB1.out.size))
  clear hb2
  obtain ⟨y, hy⟩ : ∃ y : Int, (if bigB a || bigB b then (2 : Int) else 0) = y := ⟨_, rfl⟩
  rw [hy] at HF ⊢
  clear hy
  go_wp2_with fail
  refine (firstTwo_any _ _ _).mono ?_
  rintro e w3 ⟨rfl, rfl⟩
  rw [HF.out]
  have HB3 := hide (HB2.out.alloc HB2.out.size (.cells #[.int .i64 x, .int .i64 y] 25))
  go_wp2_with fail
  refine (sorts_any _).mono ?_
  rintro e w4 ⟨rfl, hb4⟩
  have HB4 := hide (HB3.out.trans (hb4.mono HB3.out.size))
  clear hb4
  go_wp2_with fail
  refine (outcome_bad _ _ _ HN.out).mono ?_
  rintro e w' ⟨rfl, rfl⟩
  go_wp2_with fail
  go_ret
  exact ⟨rfl, HB4.out⟩
set_option maxHeartbeats 2000000 in
set_option maxRecDepth 100000 in
/-- where it is not refused ahead of the lines: T, n is what the program hands back -/
theorem commMatches_in (a b : ByteArray) (hd : Nat) (G : Bool) (R : List ByteArray) (n : Int) (w : World) (hh : hd ≤ 7) (ga : bigB a = false) (gb : bigB b = false)
    (HG : Hid (G = (ordB (linesOf a) && ordB (linesOf b)))) (HRT : Hid (G = true → R = commL hd (linesOf a) (linesOf b))) (HRF : Hid (G = false → R = [])) (HW : Hid ((if !G then (9 : Int) else 0) = n)) (HNZ : Hid (¬ n = 0 → R = []))
    (hR : (resL R).length ≤ 1000000000)
    (HC : Hid (Calls Tryd.prog 31 #[.string a, .string b, .int .i64 (hd : Int)] w fun e w' => e = .returned (.tuple #[.string (mkB (resL R)), .int .i64 n]) ∧ Below w.heap.size w w')) :
    Calls Tryd.prog 6 #[.string a, .string b, .int .i64 (hd : Int)] w fun e w' => e = .returned (.bool true) ∧ Below w.heap.size w w' := by
  have za : a.size ≤ 65536 ∧ (linesOf a).length ≤ 4096 := by unfold bigB at ga; simp at ga; omega
  have zb : b.size ≤ 65536 ∧ (linesOf b).length ≤ 4096 := by unfold bigB at gb; simp at gb; omega
  have la := (linesOf_bound a).2
  have lb := (linesOf_bound b).2
  have HLA : Hid (∀ s ∈ linesOf a, s.size ≤ 65536) := hide (fun s hs => by have := la s hs; omega)
  have HLB : Hid (∀ s ∈ linesOf b, s.size ≤ 65536) := hide (fun s hs => by have := lb s hs; omega)
  clear la lb
  have HST := hide (fun W => largeL_any _ [a, b] _ (strs_two W a b 9 (by unfold maxLen; omega) (by unfold maxLen; omega)))
  simp only [two_strs_any, ga, gb] at HST
  have HR := hide hR
  have hw0 : decide ((0 : Int) ≤ (hd : Int)) = true := by simp
  have hw1 : decide ((hd : Int) ≤ 7) = true := by simp; omega
  clear ga gb hR
  go_enter Tryd.func6, Tryd.ntmps6
  go_wp2_with fail
  refine HC.out.mono ?_
  rintro e w1 ⟨rfl, hb1⟩
  have HB1 := hide hb1
  clear hb1
  obtain ⟨T, hT⟩ : ∃ T, mkB (resL R) = T := ⟨_, rfl⟩
  rw [hT]
  have HT := hide hT
  clear hT
  go_wp2_with fail
  refine (withinL_any _ _ _ _).mono ?_
  rintro e w' ⟨rfl, rfl⟩
  rw [hw0, hw1]
  go_wp2_with fail
  refine (when_any _ _ _).mono ?_
  rintro e w' ⟨rfl, rfl⟩
  go_wp2_with fail
  refine (HST.out _).mono ?_
  rintro e w2 ⟨rfl, hb2⟩
  have HB2 : Hid (Below w.heap.size w w2) := hide (HB1.out.trans (((Below.refl _ _).alloc (Nat.le_refl _) _).trans (hb2.mono (by simp) : Below w1.heap.size _ _) |>.mono HB1.out.size))
  clear hb2
  go_wp2_with fail
  refine (firstTwo_any _ _ _).mono ?_
  rintro e w3 ⟨rfl, rfl⟩
  have HB3 := hide (HB2.out.alloc HB2.out.size (.cells #[.int .i64 0, .int .i64 0] 25))
  obtain ⟨w3, hw3⟩ : ∃ w3, w2.alloc (.cells #[.int .i64 0, .int .i64 0] 25) = w3 := ⟨_, rfl⟩
  go_wp2_with fail
  rw [hw3] at HB3
  clear hw3
  refine (linesOf_any a _ (by omega)).mono ?_
  rintro e w4 ⟨x, rfl, hx, hb4⟩
  have HB4 := hide (HB3.out.trans (hb4.mono HB3.out.size))
  have HX4 := hide (hx.strs (fun s hs => by have := HLA.out s hs; unfold maxLen; omega))
  clear hb4 hx
  go_wp2_with fail
  refine (linesOf_any b _ (by omega)).mono ?_
  rintro e w5 ⟨y, rfl, hy, hb5⟩
  have HB5 := hide (HB4.out.trans (hb5.mono HB4.out.size))
  have HX5 := hide (HX4.out.below hb5)
  have HY5 := hide (hy.strs (fun s hs => by have := HLB.out s hs; unfold maxLen; omega))
  clear hb5 hy HX4
  go_wp2_with fail
  refine (compared_core x y _ _ R G hd w5 HG HRT HRF hh HX5.out HY5.out (by omega) (by omega) HLA.out HLB.out).mono ?_
  rintro e w6 ⟨v, rfl, hv, hb6⟩
  have HB6 := hide (HB5.out.trans (hb6.mono HB5.out.size))
  have HV6 := hide hv
  clear hb6 hv
  go_wp2_with fail
  refine (sorts_any _).mono ?_
  rintro e w7 ⟨rfl, hb7⟩
  have HB7 := hide (HB6.out.trans (hb7.mono HB6.out.size))
  have HV7 := hide (HV6.out.below hb7)
  clear hb7 HV6
  go_wp2_with fail
  refine (resultOf_any v R w7 HV7.out HR.out).mono ?_
  rintro e w' ⟨rfl, rfl⟩
  rw [HT.out]
  go_wp2_with fail
  refine (when_any _ _ _).mono ?_
  rintro e w' ⟨rfl, rfl⟩
  rw [HW.out]
  by_cases hn : n = 0
  · subst hn
    go_wp2_with fail
    refine (outcome_good _ _).mono ?_
    rintro e w' ⟨rfl, rfl⟩
    go_wp2_with fail
    go_ret
    exact ⟨rfl, HB7.out⟩
  · have hT2 : T = ⟨#[]⟩ := by rw [← HT.out, HNZ.out hn]; rfl
    subst hT2
    go_wp2_with fail
    refine (outcome_bad _ _ _ hn).mono ?_
    rintro e w' ⟨rfl, rfl⟩
    go_wp2_with fail
    go_ret
    exact ⟨rfl, HB7.out⟩
theorem commMatches_any (a b : ByteArray) (h : Int) (w : World) (ha : a.size ≤ maxLen) (hb : b.size ≤ maxLen) :
    Calls Tryd.prog 6 #[.string a, .string b, .int .i64 h] w fun e w' => e = .returned (.bool true) ∧ Below w.heap.size w w' := by
  cases hr : (decide (0 ≤ h) && decide (h ≤ 7))
  · exact commMatches_bad a b h 3 w ha hb (by decide) (by rw [hr]; rfl) (hide (comm_range a b h w hr))
  · obtain ⟨hd, rfl⟩ : ∃ hd : Nat, h = (hd : Int) := ⟨h.toNat, by simp at hr; omega⟩
    have hh : hd ≤ 7 := by simp at hr; omega
    cases hg : (bigB a || bigB b)
    · have hg' : bigB a = false ∧ bigB b = false := by simpa using hg
      obtain ⟨ga, gb⟩ := hg'
      have za : a.size ≤ 65536 ∧ (linesOf a).length ≤ 4096 := by unfold bigB at ga; simp at ga; omega
      have zb : b.size ≤ 65536 ∧ (linesOf b).length ≤ 4096 := by unfold bigB at gb; simp at gb; omega
      have la := (linesOf_bound a).2
      have lb := (linesOf_bound b).2
      cases ho : (ordB (linesOf a) && ordB (linesOf b))
      · exact commMatches_in a b hd false [] 9 w hh ga gb (hide ho.symm) (hide (fun h => by cases h)) (hide (fun _ => rfl)) (hide rfl) (hide (fun _ => rfl)) (by simp [resL]) (hide (comm_order a b hd w hh ga gb ho))
      · have ho' : ordB (linesOf a) = true ∧ ordB (linesOf b) = true := by simpa using ho
        have hk := commL_ok (hide := hd) (M := 65536) (fun s hs => by have := la s hs; omega) (fun s hs => by have := lb s hs; omega)
        have h1 := resL_le hk.2
        have h2 : (commL hd (linesOf a) (linesOf b)).length * (65538 + 1) ≤ 8192 * 65539 := Nat.mul_le_mul (by omega) (Nat.le_refl _)
        exact commMatches_in a b hd true _ 0 w hh ga gb (hide ho.symm) (hide (fun _ => rfl)) (hide (fun h => by cases h)) (hide rfl) (hide (fun h => absurd rfl h)) (by omega) (hide (comm_good a b hd w hh ga gb ho'.1 ho'.2))
    · exact commMatches_bad a b hd 2 w ha hb (by decide) (by rw [hr, hg]; rfl) (hide (comm_large a b hd w hh ha hb hg))
end Go.Proofs.YtkikbejpgfhfoaaDoor
