/- The law SortRunsMatch: the walk. -/
import Derived.Test.YtkikbejpgfhfoaaDoorLawK2
import Derived.Test.YtkikbejpgfhfoaaDoorRefO4
import Derived.Test.YtkikbejpgfhfoaaDoorZRunsG
set_option linter.unusedVariables false
set_option linter.unusedSimpArgs false
namespace Go.Proofs.YtkikbejpgfhfoaaDoor
open Go.RowKit Go.Pw
theorem largeOnly_any (s : ByteArray) (w : World) (hs : s.size ≤ maxLen) : Calls Tryd.prog 22 #[.slice (some ⟨w.heap.size, 0, none⟩) 1 1] (w.alloc (.cells #[.string s] 9)) fun e w' => e = .returned (.int .i64 (if bigB s then 2 else 0)) ∧ Below w.heap.size w w' :=
  (largeL_any _ [s] _ (strs_one w s 9 hs)).mono fun e w' ⟨h1, h2⟩ => ⟨by rw [h1]; simp, ((Below.refl _ _).alloc (Nat.le_refl _) _).trans (h2.mono (by simp))⟩
theorem rd_four' (w : World) (x y z u : Int) (t : TypeId) : Rd (w.alloc (.cells #[.int .i64 x, .int .i64 y, .int .i64 z, .int .i64 u] t)) 1 (.slice (some ⟨w.heap.size, 0, none⟩) 4 4) 4 ([x, y, z, u].map (Value.int .i64)) := by
  refine ⟨rfl, _, 4, rfl, Nat.le_refl _, by unfold maxLen; omega, fun _ => ⟨w.heap.size, 0, rfl, by simp, fun j u hu => ?_⟩⟩
  rw [World.cell?_alloc_new]
  simpa using hu
theorem firstFour'_any (w : World) (x y z u : Int) : Calls Tryd.prog 14 #[.slice (some ⟨w.heap.size, 0, none⟩) 4 4] (w.alloc (.cells #[.int .i64 x, .int .i64 y, .int .i64 z, .int .i64 u] 25)) fun e w' => e = .returned (.int .i64 (firstNZ [x, y, z, u])) ∧ w' = w.alloc (.cells #[.int .i64 x, .int .i64 y, .int .i64 z, .int .i64 u] 25) :=
  (first_any _ [x, y, z, u] _ (rd_four' w x y z u _)).mono fun e w' ⟨h1, h2⟩ => ⟨h1, h2.symm⟩
theorem runsWhens (o : Sp) (s : ByteArray) (mem ways : Int) (hs : s.size ≤ maxLen) : ∃ (rm rw : Bool) (x0 x1 x2 x3 : Int), ordErr o = x0 ∧ runsErr o s mem ways = firstNZ [x0, x1, x2, x3]
    ∧ (∀ W, Calls Tryd.prog 32 #[.int .i64 mem, .int .i64 1, .int .i64 65536] W fun e w' => e = .returned (.bool rm) ∧ W = w')
    ∧ (∀ W, Calls Tryd.prog 32 #[.int .i64 ways, .int .i64 2, .int .i64 16] W fun e w' => e = .returned (.bool rw) ∧ W = w')
    ∧ (∀ W, Calls Tryd.prog 16 #[.bool (!rm), .int .i64 3] W fun e w' => e = .returned (.int .i64 x1) ∧ W = w')
    ∧ (∀ W, Calls Tryd.prog 16 #[.bool (!rw), .int .i64 3] W fun e w' => e = .returned (.int .i64 x2) ∧ W = w')
    ∧ (∀ W : World, Calls Tryd.prog 22 #[.slice (some ⟨W.heap.size, 0, none⟩) 1 1] (W.alloc (.cells #[.string s] 9)) fun e w' => e = .returned (.int .i64 x3) ∧ Below W.heap.size W w') :=
  ⟨_, _, _, _, _, _, rfl, rfl, fun W => withinL_any _ _ _ W, fun W => withinL_any _ _ _ W, fun W => when_any _ _ W, fun W => when_any _ _ W, fun W => largeOnly_any s W hs⟩
set_option maxHeartbeats 2000000 in
set_option maxRecDepth 100000 in
theorem runsMatches_bad (o : Sp) (kv : Value) (s : ByteArray) (mem ways n : Int) (w : World) (hk : KeysIn w kv o.keys) (hsep : o.sep.size ≤ maxLen) (hs : s.size ≤ maxLen) (hn : n ≠ 0) (hsp : runsErr o s mem ways = n) :
    Calls Tryd.prog 9 #[spV o kv, .string s, .int .i64 mem, .int .i64 ways] w fun e w' => e = .returned (.bool true) ∧ Below w.heap.size w w' := by
  unfold maxLen at hsep
  have hsep' : o.sep.size ≤ 9223372036854775807 := by omega
  obtain ⟨A, cap, rfl⟩ : ∃ A cap, kv = .slice A o.keys.length cap := by
    obtain ⟨_, A, cap, h, _⟩ := hk
    exact ⟨A, cap, h⟩
  have hB0 := ((Below.refl w.heap.size w).alloc (Nat.le_refl _) (.cells #[.string o.sep, (.slice A o.keys.length cap), .bool o.reverse, .bool o.stable, .bool o.unique] 24))
  have HN0 : Hid (SpIn (w.alloc (.cells #[.string o.sep, (.slice A o.keys.length cap), .bool o.reverse, .bool o.stable, .bool o.unique] 24)) w.heap.size 24 o (.slice A o.keys.length cap)) := hide (heap_alloc_new _ _)
  have HB0 := hide hB0
  have HK := hide hk
  have HSO := hide (fun W h => textRuns_bad o (.slice A o.keys.length cap) s mem ways n W h hsep' hs hn hsp)
  have HOE := hide (fun W h => orderError_any o (.slice A o.keys.length cap) W h hsep')
  have hnb : (n != 0) = true := by simpa using hn
  have hnn : (n == n) = true := by simp
  obtain ⟨rm, rw', x0, x1, x2, x3, hx, e0, g1, g2, g3, g4, g5⟩ := runsWhens o s mem ways hs
  rw [hsp] at e0
  simp only [hx] at HOE
  have HF := hide e0
  have HG1 := hide g1
  have HG2 := hide g2
  have HG3 := hide g3
  have HG4 := hide g4
  have HG5 := hide g5
  clear e0 g1 g2 g3 g4 g5 hx hk hB0 hsp hn
  unfold spV at HSO HOE ⊢
  go_enter Tryd.func9, Tryd.ntmps9
  go_wp2_with fail
  refine (HSO.out _ (HK.out.below HB0.out)).mono ?_
  rintro e w1 ⟨rfl, hb1⟩
  have HB1 := hide (HB0.out.trans (hb1.mono (by simp)))
  have HN1 := hide (HN0.out.below hb1 (by simp))
  clear hb1
  obtain ⟨c0, c1, c2, c3, c4⟩ := HN1.out.cells
  go_wp2_with fail
  refine (HOE.out _ (HK.out.below HB1.out)).mono ?_
  rintro e w3 ⟨rfl, hb3⟩
  have HB3 := hide (HB1.out.trans (hb3.mono HB1.out.size))
  clear hb3 c0 c1 c2 c3 c4
  go_wp2_with fail
  refine (HG1.out _).mono ?_
  rintro e w' ⟨rfl, rfl⟩
  go_wp2_with fail
  refine (HG3.out _).mono ?_
  rintro e w' ⟨rfl, rfl⟩
  go_wp2_with fail
  refine (HG2.out _).mono ?_
  rintro e w' ⟨rfl, rfl⟩
  go_wp2_with fail
  refine (HG4.out _).mono ?_
  rintro e w' ⟨rfl, rfl⟩
  go_wp2_with fail
  refine (HG5.out _).mono ?_
  rintro e w4 ⟨rfl, hb4⟩
  have HB4 := hide (HB3.out.trans (hb4.mono HB3.out.size))
  clear hb4
  go_wp2_with fail
  refine (firstFour'_any _ _ _ _ _).mono ?_
  rintro e w5 ⟨rfl, rfl⟩
  rw [← HF.out]
  have HB5 := hide (HB4.out.alloc HB4.out.size (.cells #[.int .i64 x0, .int .i64 x1, .int .i64 x2, .int .i64 x3] 25))
  go_wp2_with fail
  refine (sorts_any _).mono ?_
  rintro e w6 ⟨rfl, hb6⟩
  have HB6 := hide (HB5.out.trans (hb6.mono HB5.out.size))
  clear hb6
  go_wp2_with fail
  refine (sorts_any _).mono ?_
  rintro e w7 ⟨rfl, hb7⟩
  have HB7 := hide (HB6.out.trans (hb7.mono HB6.out.size))
  clear hb7
  go_wp2_with fail
  go_ret
  exact ⟨ret_bool (by simp), HB7.out⟩
theorem runsErr_zero {o : Sp} {s : ByteArray} {mem ways : Int} (h : runsErr o s mem ways = 0) : ordErr o = 0 ∧ bigB s = false ∧ (1 ≤ mem ∧ mem ≤ 65536) ∧ 2 ≤ ways ∧ ways ≤ 16 := by
  unfold runsErr at h
  simp only [firstNZ] at h
  by_cases he : ordErr o = 0
  · rw [if_pos he] at h
    cases h1 : inB 1 65536 mem
    · simp [h1] at h
    · cases h2 : inB 2 16 ways
      · simp [h1, h2] at h
      · cases h3 : bigB s
        · unfold inB at h1 h2
          simp only [Bool.and_eq_true, decide_eq_true_eq] at h1 h2
          exact ⟨he, rfl, h1, h2⟩
        · simp [h1, h2, h3] at h
  · rw [if_neg he] at h; exact absurd h he
set_option maxHeartbeats 2000000 in
set_option maxRecDepth 100000 in
theorem runsMatches_good (o : Sp) (kv : Value) (s : ByteArray) (mem : Int) (ways : Nat) (w : World) (hk : KeysIn w kv o.keys) (hz : runsErr o s mem ways = 0) :
    Calls Tryd.prog 9 #[spV o kv, .string s, .int .i64 mem, .int .i64 (ways : Int)] w fun e w' => e = .returned (.bool true) ∧ Below w.heap.size w w' := by
  obtain ⟨he, hb, ⟨hm1, hm2⟩, hw1, hw2⟩ := runsErr_zero hz
  obtain ⟨hsz, hln, hls⟩ := bigB_false hb
  obtain ⟨A, cap, rfl⟩ : ∃ A cap, kv = .slice A o.keys.length cap := by
    obtain ⟨_, A, cap, h, _⟩ := hk
    exact ⟨A, cap, h⟩
  have hB0 := ((Below.refl w.heap.size w).alloc (Nat.le_refl _) (.cells #[.string o.sep, (.slice A o.keys.length cap), .bool o.reverse, .bool o.stable, .bool o.unique] 24))
  have HN0 : Hid (SpIn (w.alloc (.cells #[.string o.sep, (.slice A o.keys.length cap), .bool o.reverse, .bool o.stable, .bool o.unique] 24)) w.heap.size 24 o (.slice A o.keys.length cap)) := hide (heap_alloc_new _ _)
  have HB0 := hide hB0
  have HK := hide hk
  have HLS := hide hls
  have HSR := hide (fun W h => textRuns_good o (.slice A o.keys.length cap) s mem ways W h he hb hm1 hm2 (by omega) (by omega))
  have HSO := hide (fun W h => sort_good o (.slice A o.keys.length cap) s W h he hb)
  have HOE := hide (fun W h => orderError_any o (.slice A o.keys.length cap) W h (sep_size he))
  obtain ⟨T, hT⟩ : ∃ T, mkB (resL (sortL o s)) = T := ⟨_, rfl⟩
  simp only [he] at HOE
  simp only [hT] at HSO HSR
  have HPS := hide (fun v W (h : Strs W v (linesOf s)) => passesR_any v (linesOf s) mem ways W h hls (by omega) hm1 hm2 (by omega) (by omega))
  have hct := (dvd_count ByteArray.size mem (linesOf s)).1
  obtain ⟨pn, hpn⟩ : ∃ pn, pas ways (dvd ByteArray.size mem (linesOf s)).1.length = pn := ⟨_, rfl⟩
  have hpn' : pas ways (cntL ByteArray.size mem (linesOf s)).1 = pn := by rw [← hpn]; unfold cntL; rw [hct]
  simp only [hpn] at HSR
  simp only [hpn'] at HPS
  obtain ⟨rm, rw', x0, x1, x2, x3, hx, e0, g1, g2, g3, g4, g5⟩ := runsWhens o s mem ways (by unfold maxLen; omega)
  rw [hz] at e0
  rw [he] at hx
  subst hx
  have HF := hide e0
  have HG1 := hide g1
  have HG2 := hide g2
  have HG3 := hide g3
  have HG4 := hide g4
  have HG5 := hide g5
  clear e0 g1 g2 g3 g4 g5 hk hB0 he hb hls hT hz hct hpn hpn'
  unfold spV at HSR HSO HOE ⊢
  go_enter Tryd.func9, Tryd.ntmps9
  go_wp2_with fail
  refine (HSR.out _ (HK.out.below HB0.out)).mono ?_
  rintro e w1 ⟨rfl, hb1⟩
  have HB1 := hide (HB0.out.trans (hb1.mono (by simp)))
  have HN1 := hide (HN0.out.below hb1 (by simp))
  clear hb1
  obtain ⟨c0, c1, c2, c3, c4⟩ := HN1.out.cells
  go_wp2_with fail
  refine (HOE.out _ (HK.out.below HB1.out)).mono ?_
  rintro e w3 ⟨rfl, hb3⟩
  have HB3 := hide (HB1.out.trans (hb3.mono HB1.out.size))
  have HN3 := hide (HN1.out.below hb3 HN1.out.lt)
  clear hb3 c0 c1 c2 c3 c4
  go_wp2_with fail
  refine (HG1.out _).mono ?_
  rintro e w' ⟨rfl, rfl⟩
  go_wp2_with fail
  refine (HG3.out _).mono ?_
  rintro e w' ⟨rfl, rfl⟩
  go_wp2_with fail
  refine (HG2.out _).mono ?_
  rintro e w' ⟨rfl, rfl⟩
  go_wp2_with fail
  refine (HG4.out _).mono ?_
  rintro e w' ⟨rfl, rfl⟩
  go_wp2_with fail
  refine (HG5.out _).mono ?_
  rintro e w4 ⟨rfl, hb4⟩
  have HB4 := hide (HB3.out.trans (hb4.mono HB3.out.size))
  have HN4 := hide (HN3.out.below hb4 HN3.out.lt)
  clear hb4
  go_wp2_with fail
  refine (firstFour'_any _ _ _ _ _).mono ?_
  rintro e w5 ⟨rfl, rfl⟩
  rw [← HF.out]
  have hal := (Below.refl w4.heap.size w4).alloc (Nat.le_refl _) (.cells #[.int .i64 0, .int .i64 x1, .int .i64 x2, .int .i64 x3] 25)
  have HB5 := hide (HB4.out.trans (hal.mono HB4.out.size))
  have HN5 := hide (HN4.out.below hal HN4.out.lt)
  obtain ⟨w5, hw5⟩ : ∃ w5, w4.alloc (.cells #[.int .i64 0, .int .i64 x1, .int .i64 x2, .int .i64 x3] 25) = w5 := ⟨_, rfl⟩
  rw [hw5] at HB5 HN5 ⊢
  clear hw5 hal
  go_wp2_with fail
  refine (sorts_any _).mono ?_
  rintro e w6 ⟨rfl, hb6⟩
  have HB6 := hide (HB5.out.trans (hb6.mono HB5.out.size))
  have HN6 := hide (HN5.out.below hb6 HN5.out.lt)
  clear hb6
  obtain ⟨c0, c1, c2, c3, c4⟩ := HN6.out.cells
  go_wp2_with fail
  refine (HSO.out _ (HK.out.below HB6.out)).mono ?_
  rintro e w7 ⟨rfl, hb7⟩
  have HB7 := hide (HB6.out.trans (hb7.mono HB6.out.size))
  clear hb7 c0 c1 c2 c3 c4
  go_wp2_with fail
  refine (linesOf_any s _ (by omega)).mono ?_
  rintro e w8 ⟨v, rfl, ho, hb8⟩
  have HB8 := hide (HB7.out.trans (hb8.mono HB7.out.size))
  have HV8 := hide (ho.strs (fun x hx => by have := HLS.out x hx; unfold maxLen; omega))
  clear hb8 ho
  go_wp2_with fail
  refine (HPS.out _ _ HV8.out).mono ?_
  rintro e w' ⟨rfl, rfl⟩
  go_wp2_with fail
  go_ret
  exact ⟨ret_bool (by simp), HB8.out⟩
theorem runsMatches_any (o : Sp) (kv : Value) (s : ByteArray) (mem ways : Int) (w : World) (hk : KeysIn w kv o.keys) (hsep : o.sep.size ≤ maxLen) (hs : s.size ≤ maxLen) :
    Calls Tryd.prog 9 #[spV o kv, .string s, .int .i64 mem, .int .i64 ways] w fun e w' => e = .returned (.bool true) ∧ Below w.heap.size w w' := by
  by_cases h : runsErr o s mem ways = 0
  · obtain ⟨_, _, _, h2, _⟩ := runsErr_zero h
    obtain ⟨k, rfl⟩ : ∃ k : Nat, ways = (k : Int) := ⟨ways.toNat, by omega⟩
    exact runsMatches_good o kv s mem k w hk h
  · exact runsMatches_bad o kv s mem ways _ w hk hsep hs h rfl
end Go.Proofs.YtkikbejpgfhfoaaDoor
