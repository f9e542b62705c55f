/- PatchMatches: the law's walk. -/
import Derived.Test.YtfjbdbdjhkmifaaPtS
import Derived.Test.YtfjbdbdjhkmifaaPtT
set_option linter.unusedVariables false
set_option linter.unusedSimpArgs false
namespace Go.Proofs.Ytfjbdbdjhkmifaa
open Go.RowKit Go.Pw
theorem rd_three (w : World) (a b c : Int) (t : TypeId) : Rd (w.alloc (.cells #[.int .i64 a, .int .i64 b, .int .i64 c] t)) 1 (.slice (some ⟨w.heap.size, 0, none⟩) 3 3) [a, b, c].length ([a, b, c].map (Value.int .i64)) := by
  refine ⟨rfl, _, 3, rfl, Nat.le_refl _, by unfold maxLen; omega, fun _ => ⟨w.heap.size, 0, rfl, by simp, fun j u hu => ?_⟩⟩
  rw [World.cell?_alloc_new]
  simpa using hu
theorem want_eq (al : List ByteArray) (hs : List Hk) (fz : Int) : firstNZ [listErr al, hunkErr none false hs, if (!decide ((0 : Int) ≤ fz ∧ fz ≤ 10)) = true then 3 else 0] = patchErr al hs fz := by
  unfold patchErr
  simp only [firstNZ]
  by_cases h1 : listErr al = 0
  · by_cases h2 : hunkErr none false hs = 0
    · by_cases h3 : 0 ≤ fz ∧ fz ≤ 10
      · simp [h1, h2, h3]
      · simp [h1, h2, h3]
    · simp [h1, h2]
  · simp [h1]
set_option maxHeartbeats 4000000 in
set_option maxRecDepth 100000 in
theorem patchMatches_bad (va v : Value) (al : List ByteArray) (hs : List Hk) (fz : Int) (w : World) (ha : Strs w va al) (h : Hunks w v hs) (hlen : hs.length ≤ 4398046511104) (he : patchErr al hs fz ≠ 0) :
    Calls Try.prog 4 #[va, v, .int .i64 fz] w fun e w' => e = .returned (.bool true) ∧ Below w.heap.size w w' := by
  have HA := hide ha
  have HH := hide h
  have HP := hide (Patch_bad va v al hs fz w ha h he)
  obtain ⟨⟨_, A, ca, rfl, _⟩, _⟩ := ha
  obtain ⟨_, _, ⟨_, B, cb, rfl, _⟩, _⟩ := h
  obtain ⟨E, hE⟩ : ∃ E, patchErr al hs fz = E := ⟨_, rfl⟩
  rw [hE] at HP he
  have HW := hide ((want_eq al hs fz).trans hE)
  have hn : (E != 0) = true := by simpa using he
  obtain ⟨E1, hE1⟩ : ∃ E1, listErr al = E1 := ⟨_, rfl⟩
  obtain ⟨E2, hE2⟩ : ∃ E2, hunkErr none false hs = E2 := ⟨_, rfl⟩
  rw [hE1, hE2] at HW
  have HE1 := hide ((lists_1 al).trans hE1)
  have HE2 := hide hE2
  obtain ⟨D, hD⟩ : ∃ D, decide ((0 : Int) ≤ fz ∧ fz ≤ 10) = D := ⟨_, rfl⟩
  rw [hD] at HW
  have HD := hide hD
  obtain ⟨E3, hE3⟩ : ∃ E3 : Int, (if (!D) = true then 3 else 0) = E3 := ⟨_, rfl⟩
  rw [hE3] at HW
  have HE3 := hide hE3
  clear hE he hE1 hE2 hD hE3
  go_enter Try.func4, Try.ntmps4
  go_wp2_with fail
  refine HP.out.mono ?_
  rintro e w1 ⟨rfl, hb1⟩
  have b1 := (Below.refl w1.heap.size w1).alloc (Nat.le_refl _) (.cells #[.slice A al.length ca] 22)
  have hb2 := hb1.trans (b1.mono hb1.size)
  go_wp2_with fail
  refine (listsError_any _ [al] _ (strsL_1 w1 _ al _ (HA.out.below hb1))).mono ?_
  rintro e w2 ⟨rfl, rfl⟩
  rw [HE1.out]
  go_wp2_with fail
  refine (hunkErrors_none _ hs false _ (HH.out.below hb2) hlen).mono ?_
  rintro e w3 ⟨rfl, hb3⟩
  rw [HE2.out]
  have hb3' := hb2.trans (hb3.mono hb2.size)
  go_wp2_with fail
  refine (withinL_p _ _ _ _).mono ?_
  rintro e w4 ⟨rfl, rfl⟩
  rw [HD.out]
  go_wp2_with fail
  refine (when_p _ _ _).mono ?_
  rintro e w4 ⟨rfl, rfl⟩
  rw [HE3.out]
  have hb4 := hb3'.alloc hb3'.size (.cells #[.int .i64 E1, .int .i64 E2, .int .i64 E3] 24)
  go_wp2_with fail
  refine (first_p _ [E1, E2, E3] _ (rd_three w3 E1 E2 E3 _)).mono ?_
  rintro e w4 ⟨rfl, rfl⟩
  rw [HW.out]
  go_wp2_with fail
  refine (differs_any _).mono ?_
  rintro e w5 ⟨rfl, hb5⟩
  have hb5' := hb4.trans (hb5.mono hb4.size)
  go_wp2_with fail
  refine (differs_any _).mono ?_
  rintro e w6 ⟨rfl, hb6⟩
  have hb6' := hb5'.trans (hb6.mono hb5'.size)
  go_wp2_with fail
  go_ret
  exact ⟨rfl, hb6'⟩
theorem patchP_length (fz : Nat) : ∀ (hs : List Hk) (i : Nat) (s : Pt), (patchP fz hs i s).2.length = hs.length
  | [], _, _ => rfl
  | h :: hs, i, s => by rw [patchP]; simp [patchP_length fz hs]
set_option maxHeartbeats 4000000 in
set_option maxRecDepth 100000 in
theorem patchMatches_good (va v : Value) (al : List ByteArray) (hs : List Hk) (fz : Nat) (w : World) (ha : Strs w va al) (h : Hunks w v hs) (hlen : hs.length ≤ 4398046511104) (he1 : listErr al = 0) (he2 : hunkErr none false hs = 0) (hfz : fz ≤ 10) :
    Calls Try.prog 4 #[va, v, .int .i64 (fz : Int)] w fun e w' => e = .returned (.bool true) ∧ Below w.heap.size w w' := by
  have HA := hide ha
  have HH := hide h
  have hp := Patch_good va v al hs fz w ha h he1 he2 hfz
  have HR := hide (fun w' (hb : Below w.heap.size w w') => Patched_any va v al hs fz w' (ha.below hb) (h.below hb) (listErr_len he1) he2 hfz)
  obtain ⟨⟨_, A, ca, rfl, _⟩, _⟩ := ha
  have hhh := h
  obtain ⟨_, _, ⟨_, B, cb, rfl, _⟩, _⟩ := hhh
  have hrr := patchP_length fz hs 0 ⟨al, 0, 0, 0⟩
  obtain ⟨R, hR⟩ : ∃ R, patchP fz hs 0 ⟨al, 0, 0, 0⟩ = R := ⟨_, rfl⟩
  rw [hR] at hp HR hrr
  have HRR := hide hrr
  have HL := hide ((lists_1 al).trans he1)
  have HE2 := hide he2
  have HD : Hid (decide ((0 : Int) ≤ (fz : Int) ∧ (fz : Int) ≤ 10) = true) := hide (by simp; omega)
  have hhl : hs.length ≤ 1000 := (hunks_ok he2).1
  clear he1 he2 hR h hrr
  by_cases hbig : 1000 < R.1.lst.length
  · have HP := hide (hp.mono (R' := fun e w' => e = .returned (.tuple #[.slice none 0 0, .slice none 0 0, .int .i64 2]) ∧ Below w.heap.size w w') (fun e w' h => ⟨h.1.elim (fun ⟨_, _, _, _, _, h⟩ => absurd hbig (by omega)) (fun h => h.1), h.2⟩))
    have hb1' : (1000 : Int) < (R.1.lst.length : Int) := by omega
    clear hp
    go_enter Try.func4, Try.ntmps4
    go_wp2_with fail
    refine HP.out.mono ?_
    rintro e w1 ⟨rfl, hb1⟩
    have b1 := (Below.refl w1.heap.size w1).alloc (Nat.le_refl _) (.cells #[.slice A al.length ca] 22)
    have hb2 := hb1.trans (b1.mono hb1.size)
    go_wp2_with fail
    refine (listsError_any _ [al] _ (strsL_1 w1 _ al _ (HA.out.below hb1))).mono ?_
    rintro e w2 ⟨rfl, rfl⟩
    rw [HL.out]
    go_wp2_with fail
    refine (hunkErrors_none _ hs false _ (HH.out.below hb2) hlen).mono ?_
    rintro e w3 ⟨rfl, hb3⟩
    rw [HE2.out]
    have hb13 := b1.trans (hb3.mono (by simp))
    have hb3' := hb1.trans (hb13.mono hb1.size)
    go_wp2_with fail
    refine (withinL_p _ _ _ _).mono ?_
    rintro e w4 ⟨rfl, rfl⟩
    rw [HD.out]
    go_wp2_with fail
    refine (when_p _ _ _).mono ?_
    rintro e w4 ⟨rfl, rfl⟩
    have hb14 := hb13.alloc hb13.size (.cells #[.int .i64 0, .int .i64 0, .int .i64 0] 24)
    go_wp2_with fail
    refine (first_p _ [0, 0, 0] _ (rd_three w3 0 0 0 _)).mono ?_
    rintro e w4 ⟨rfl, rfl⟩
    rw [show firstNZ [0, 0, 0] = 0 from rfl]
    go_wp2_with fail
    refine (differs_any _).mono ?_
    rintro e w5 ⟨rfl, hb5⟩
    have hb15 := hb14.trans (hb5.mono hb14.size)
    have hb15' := hb1.trans (hb15.mono hb1.size)
    have hb16 := hb15.alloc hb15.size (.cells #[.slice A al.length ca] 22)
    have hb16' := hb1.trans (hb16.mono hb1.size)
    clear hb2 hb3 hb3' hb5 hb13 hb14 b1
    go_wp2_with fail
    refine (few_any _ [al] _ (strsL_1 w5 _ al _ (HA.out.below hb15'))).mono ?_
    rintro e w6 ⟨rfl, rfl⟩
    cases hfew : fewB [al]
    · go_wp2_with fail
      go_ret
      exact ⟨rfl, hb16'⟩
    · by_cases h10 : (10 : Int) < (hs.length : Int)
      · have h10' : decide ((10 : Int) < (hs.length : Int)) = true := by simpa using h10
        go_wp2_with fail
        go_ret
        exact ⟨rfl, hb16'⟩
      · have h10' : decide ((10 : Int) < (hs.length : Int)) = false := by simpa using h10
        go_wp2_with fail
        refine (containsH_any _ hs _ (HH.out.below hb16')).mono ?_
        rintro e w7 ⟨hcb, hb7⟩
        obtain ⟨cb', rfl⟩ := hcb
        have hb17 := hb16.trans (hb7.mono hb16.size)
        have hb17' := hb1.trans (hb17.mono hb1.size)
        cases cb'
        · go_wp2_with fail
          refine (HR.out w7 hb17').mono ?_
          rintro e w8 ⟨u1, u2, rfl, hu1, hu2, hb8⟩
          have hb18 := hb17.trans (hb8.mono hb17.size)
          have hb18' := hb1.trans (hb18.mono hb1.size)
          obtain ⟨UA, un, uc, rfl⟩ := strs_form hu1
          obtain rfl := hu1.len
          have HU1 := hide hu1
          have HU2 := hide hu2
          clear hu1 hu2
          go_wp2_with fail
          go_ret
          exact ⟨rfl, hb18'⟩
        · go_wp2_with fail
          go_ret
          exact ⟨rfl, hb17'⟩
  · have HP := hide (hp.mono (R' := fun e w' => (∃ v1 v2, e = .returned (.tuple #[v1, v2, .int .i64 0]) ∧ Strs w' v1 R.1.lst ∧ Rd w' 5 v2 hs.length (plCells R.2)) ∧ Below w.heap.size w w') (fun e w' h => ⟨h.1.elim (fun ⟨v1, v2, h1, h2, h3, _⟩ => ⟨v1, v2, h1, h2, h3⟩) (fun h => absurd h.2 hbig), h.2⟩))
    have hb1' : ¬ ((1000 : Int) < (R.1.lst.length : Int)) := by omega
    have hb1'' : decide ((1000 : Int) < (R.1.lst.length : Int)) = false := by simpa using hb1'
    clear hp
    go_enter Try.func4, Try.ntmps4
    go_wp2_with fail
    refine HP.out.mono ?_
    rintro e w1 ⟨⟨v1, v2, rfl, hs1, hs2⟩, hb1⟩
    have HS1 := hide hs1
    have HS2 := hide hs2
    clear hs1 hs2
    have b1 := (Below.refl w1.heap.size w1).alloc (Nat.le_refl _) (.cells #[.slice A al.length ca] 22)
    have hb2 := hb1.trans (b1.mono hb1.size)
    go_wp2_with fail
    refine (listsError_any _ [al] _ (strsL_1 w1 _ al _ (HA.out.below hb1))).mono ?_
    rintro e w2 ⟨rfl, rfl⟩
    rw [HL.out]
    go_wp2_with fail
    refine (hunkErrors_none _ hs false _ (HH.out.below hb2) hlen).mono ?_
    rintro e w3 ⟨rfl, hb3⟩
    rw [HE2.out]
    have hb13 := b1.trans (hb3.mono (by simp))
    have hb3' := hb1.trans (hb13.mono hb1.size)
    go_wp2_with fail
    refine (withinL_p _ _ _ _).mono ?_
    rintro e w4 ⟨rfl, rfl⟩
    rw [HD.out]
    go_wp2_with fail
    refine (when_p _ _ _).mono ?_
    rintro e w4 ⟨rfl, rfl⟩
    have hb14 := hb13.alloc hb13.size (.cells #[.int .i64 0, .int .i64 0, .int .i64 0] 24)
    go_wp2_with fail
    refine (first_p _ [0, 0, 0] _ (rd_three w3 0 0 0 _)).mono ?_
    rintro e w4 ⟨rfl, rfl⟩
    rw [show firstNZ [0, 0, 0] = 0 from rfl]
    go_wp2_with fail
    refine (differs_any _).mono ?_
    rintro e w5 ⟨rfl, hb5⟩
    have hb15 := hb14.trans (hb5.mono hb14.size)
    have hb15' := hb1.trans (hb15.mono hb1.size)
    have hb16 := hb15.alloc hb15.size (.cells #[.slice A al.length ca] 22)
    have hb16' := hb1.trans (hb16.mono hb1.size)
    clear hb2 hb3 hb3' hb5 hb13 hb14 b1
    go_wp2_with fail
    refine (few_any _ [al] _ (strsL_1 w5 _ al _ (HA.out.below hb15'))).mono ?_
    rintro e w6 ⟨rfl, rfl⟩
    cases hfew : fewB [al]
    · go_wp2_with fail
      go_ret
      exact ⟨rfl, hb16'⟩
    · by_cases h10 : (10 : Int) < (hs.length : Int)
      · have h10' : decide ((10 : Int) < (hs.length : Int)) = true := by simpa using h10
        go_wp2_with fail
        go_ret
        exact ⟨rfl, hb16'⟩
      · have h10' : decide ((10 : Int) < (hs.length : Int)) = false := by simpa using h10
        go_wp2_with fail
        refine (containsH_any _ hs _ (HH.out.below hb16')).mono ?_
        rintro e w7 ⟨hcb, hb7⟩
        obtain ⟨cb', rfl⟩ := hcb
        have hb17 := hb16.trans (hb7.mono hb16.size)
        have hb17' := hb1.trans (hb17.mono hb1.size)
        cases cb'
        · go_wp2_with fail
          refine (HR.out w7 hb17').mono ?_
          rintro e w8 ⟨u1, u2, rfl, hu1, hu2, hb8⟩
          have hb18 := hb17.trans (hb8.mono hb17.size)
          have hb18' := hb1.trans (hb18.mono hb1.size)
          obtain ⟨UA, un, uc, rfl⟩ := strs_form hu1
          obtain rfl := hu1.len
          have HU1 := hide hu1
          have HU2 := hide hu2
          clear hu1 hu2
          go_wp2_with fail
          refine (equal_any _ _ _ _ _ (HS1.out.below hb18) HU1.out).mono ?_
          rintro e w9 ⟨rfl, q9, rfl⟩
          rw [decide_eq_true (p := R.1.lst = R.1.lst) rfl]
          go_wp2_with fail
          refine (equalPl_same _ _ R.2 _ (by rw [HRR.out]; exact HS2.out.below (below_drewN hb18 q9)) (by rw [HRR.out]; exact HU2.out)).mono ?_
          rintro e w10 ⟨rfl, q10, rfl⟩
          go_wp2_with fail
          go_ret
          exact ⟨rfl, below_drewN hb18' (q9 + q10)⟩
        · go_wp2_with fail
          go_ret
          exact ⟨rfl, hb17'⟩
theorem patchMatches_any (va v : Value) (al : List ByteArray) (hs : List Hk) (fz : Int) (w : World) (ha : Strs w va al) (h : Hunks w v hs) (hlen : hs.length ≤ 4398046511104) :
    Calls Try.prog 4 #[va, v, .int .i64 fz] w fun e w' => e = .returned (.bool true) ∧ Below w.heap.size w w' := by
  by_cases he : patchErr al hs fz = 0
  · unfold patchErr at he
    split at he
    · rename_i h1; exact absurd he h1
    · rename_i h1
      split at he
      · rename_i h2; exact absurd he h2
      · rename_i h2
        split at he
        · rename_i h3
          obtain ⟨n, rfl⟩ : ∃ n : Nat, fz = (n : Int) := ⟨fz.toNat, by omega⟩
          exact patchMatches_good va v al hs n w ha h hlen (by omega) (by omega) (by omega)
        · cases he
  · exact patchMatches_bad va v al hs fz w ha h hlen he
end Go.Proofs.Ytfjbdbdjhkmifaa
