/- The law SortCompareMatches: the walk. -/
import Derived.Test.YtkikbejpgfhfoaaDoorRefO5
import Derived.Test.YtkikbejpgfhfoaaDoorRefO4
import Derived.Test.YtkikbejpgfhfoaaDoorLawKit
set_option linter.unusedVariables false
set_option linter.unusedSimpArgs false
namespace Go.Pw
open Go.RowKit
def nlB (s : ByteArray) : Bool := decide (0 ≤ Lib.indexByte s.data.toList 10)
theorem nlB_iff (s : ByteArray) : nlB s = true ↔ (10 : UInt8) ∈ s.data.toList := by
  unfold nlB
  rw [decide_eq_true_eq]
  rcases ix_split s.data.toList with ⟨h1, h2⟩ | ⟨x, y, h1, h2, h3⟩
  · rw [h1]
    constructor
    · intro h; omega
    · intro h; exact absurd rfl (h2 10 h)
  · rw [h2]
    constructor
    · intro _; rw [h1]; simp
    · intro _; omega
theorem nlB_app (a b : ByteArray) : nlB (a ++ b) = (nlB a || nlB b) := by
  rw [Bool.eq_iff_iff, Bool.or_eq_true, nlB_iff, nlB_iff, nlB_iff, ByteArray.data_append, Array.toList_append, List.mem_append]
def lgB (a b : ByteArray) : Bool := decide (65536 < a.size) || decide (65536 < b.size)
/-- the error of a comparison -/
def cmpErr (o : Sp) (a b : ByteArray) : Int := firstNZ [ordErr o, if nlB a || nlB b then 5 else 0, if lgB a b then 2 else 0]
end Go.Pw
namespace Go.Proofs.YtkikbejpgfhfoaaDoor
open Go.RowKit Go.Pw
theorem fnz3_zero {x y z : Int} (h : firstNZ [x, y, z] = 0) : x = 0 ∧ y = 0 ∧ z = 0 := by
  simp only [firstNZ] at h
  by_cases hx : x = 0
  · by_cases hy : y = 0
    · by_cases hz : z = 0
      · exact ⟨hx, hy, hz⟩
      · simp [hx, hy, hz] at h
    · simp [hx, hy] at h
  · simp [hx] at h
theorem cmpErr_zero {o : Sp} {a b : ByteArray} (h : cmpErr o a b = 0) : (∀ k ∈ o.keys, k.good) ∧ a.size ≤ 65536 ∧ b.size ≤ 65536 := by
  unfold cmpErr at h
  obtain ⟨h1, _, h3⟩ := fnz3_zero h
  refine ⟨good_of_valid h1, ?_⟩
  unfold lgB at h3
  by_cases h4 : 65536 < a.size
  · simp [h4] at h3
  · by_cases h5 : 65536 < b.size
    · simp [h5] at h3
    · omega
theorem contains_nl (s : ByteArray) (w : World) : Calls Tryd.prog 17 #[.string s, .string ⟨#[10]⟩] w fun e w' => e = .returned (.bool (nlB s)) ∧ w = w' :=
  (Tryd.strings_Contains_one s 10 w).mono fun e w' ⟨h1, h2⟩ => ⟨h1, h2.symm⟩
set_option maxHeartbeats 2000000 in
set_option maxRecDepth 100000 in
theorem Compare_any (o : Sp) (kv : Value) (a b : ByteArray) (w : World) (hk : KeysIn w kv o.keys) (ho : o.sep.size ≤ maxLen) (ha : a.size ≤ maxLen) (hb : b.size ≤ maxLen) :
    Calls Tryd.prog 13 #[spV o kv, .string a, .string b] w fun e w' => e = .returned (.tuple #[.int .i64 (if cmpErr o a b = 0 then ordCmp o a b else 0), .int .i64 (cmpErr o a b)]) ∧ Below w.heap.size w w' := by
  unfold maxLen at ho ha hb
  obtain ⟨A, cap, rfl⟩ : ∃ A cap, kv = .slice A o.keys.length cap := by
    obtain ⟨_, A, cap, h, _⟩ := hk
    exact ⟨A, cap, h⟩
  have hB0 := ((Below.refl w.heap.size w).alloc (Nat.le_refl _) (.cells #[.string o.sep, .slice A o.keys.length cap, .bool o.reverse, .bool o.stable, .bool o.unique] 24))
  have HN0 : Hid (SpIn (w.alloc (.cells #[.string o.sep, .slice A o.keys.length cap, .bool o.reverse, .bool o.stable, .bool o.unique] 24)) w.heap.size 24 o (.slice A o.keys.length cap)) := hide (heap_alloc_new _ _)
  have HV := hide (valid_any o (.slice A o.keys.length cap) _ (hk.below hB0) (by omega))
  have HKI := hide (hk.below hB0)
  have HB0 := hide hB0
  clear hB0
  have HGD := hide (good_of_valid (o := o))
  have HCA := hide (fun W => contains_nl a W)
  have HCB := hide (fun W => contains_nl b W)
  obtain ⟨E, hE⟩ : ∃ E, ordErr o = E := ⟨_, rfl⟩
  obtain ⟨na, hna⟩ : ∃ n, nlB a = n := ⟨_, rfl⟩
  obtain ⟨nb, hnb⟩ : ∃ n, nlB b = n := ⟨_, rfl⟩
  have HCE : Hid (cmpErr o a b = firstNZ [E, if na || nb then 5 else 0, if lgB a b then 2 else 0]) := hide (by unfold cmpErr; rw [hE, hna, hnb])
  simp only [hE] at HV HGD
  simp only [hna] at HCA
  simp only [hnb] at HCB
  clear hE hna hnb hk
  unfold spV at HV ⊢
  have HRR : Hid (¬ cmpErr o a b = 0 → (if cmpErr o a b = 0 then ordCmp o a b else 0) = 0) := hide (fun h => if_neg h)
  have HRG : Hid (cmpErr o a b = 0 → (if cmpErr o a b = 0 then ordCmp o a b else 0) = ordCmp o a b) := hide (fun h => if_pos h)
  obtain ⟨R, hR⟩ : ∃ R, (if cmpErr o a b = 0 then ordCmp o a b else 0) = R := ⟨_, rfl⟩
  obtain ⟨C, hC⟩ : ∃ C, cmpErr o a b = C := ⟨_, rfl⟩
  simp only [hR] at HRR HRG ⊢
  simp only [hC] at HRR HRG HCE ⊢
  clear hR hC
  by_cases hE0 : E = 0
  · subst hE0
    cases na
    · cases nb
      · by_cases hla : 65536 < a.size
        · have HC2 : Hid (C = 2) := hide (by rw [HCE.out]; simp [firstNZ, lgB, hla])
          go_enter Tryd.func13, Tryd.ntmps13
          go_wp2_with fail
          refine HV.out.mono ?_
          rintro e w1 ⟨rfl, hb1⟩
          have HB1 := hide (HB0.out.trans (hb1.mono (by simp)))
          clear hb1
          go_wp2_with fail
          refine (HCA.out _).mono ?_
          rintro e w' ⟨rfl, rfl⟩
          go_wp2_with fail
          refine (HCB.out _).mono ?_
          rintro e w' ⟨rfl, rfl⟩
          go_wp2_with fail
          go_ret2
          exact ⟨by rw [HRR.out (by rw [HC2.out]; decide), HC2.out]; rfl, HB1.out⟩
        · by_cases hlb : 65536 < b.size
          · have HC2 : Hid (C = 2) := hide (by rw [HCE.out]; simp [firstNZ, lgB, hlb])
            have hi1 : ¬ ((65536 : Int) < (a.size : Int)) := by omega
            have hi2 : (65536 : Int) < (b.size : Int) := by omega
            go_enter Tryd.func13, Tryd.ntmps13
            go_wp2_with fail
            refine HV.out.mono ?_
            rintro e w1 ⟨rfl, hb1⟩
            have HB1 := hide (HB0.out.trans (hb1.mono (by simp)))
            clear hb1
            go_wp2_with fail
            refine (HCA.out _).mono ?_
            rintro e w' ⟨rfl, rfl⟩
            go_wp2_with fail
            refine (HCB.out _).mono ?_
            rintro e w' ⟨rfl, rfl⟩
            go_wp2_with fail
            go_ret2
            exact ⟨by rw [HRR.out (by rw [HC2.out]; decide), HC2.out]; rfl, HB1.out⟩
          · have HC2 : Hid (C = 0) := hide (by rw [HCE.out]; simp [firstNZ, lgB, hla, hlb])
            have hi1 : ¬ ((65536 : Int) < (a.size : Int)) := by omega
            have hi2 : ¬ ((65536 : Int) < (b.size : Int)) := by omega
            go_enter Tryd.func13, Tryd.ntmps13
            go_wp2_with fail
            refine HV.out.mono ?_
            rintro e w1 ⟨rfl, hb1⟩
            have n1 := HN0.out.below hb1 (by simp)
            have HB1 := hide (HB0.out.trans (hb1.mono (by simp)))
            have HK1 := hide (HKI.out.below hb1)
            obtain ⟨c0, c1, c2, c3, c4⟩ := n1.cells
            clear hb1 n1
            go_wp2_with fail
            refine (HCA.out _).mono ?_
            rintro e w' ⟨rfl, rfl⟩
            go_wp2_with fail
            refine (HCB.out _).mono ?_
            rintro e w' ⟨rfl, rfl⟩
            have HCM := hide (compare_any o (.slice A o.keys.length cap) a b w1 HK1.out (HGD.out (by first | rfl | trivial)) (by omega) (by omega))
            unfold spV at HCM
            go_wp2_with fail
            refine HCM.out.mono ?_
            rintro e w2 ⟨rfl, hb2⟩
            have HB2 := hide (HB1.out.trans (hb2.mono HB1.out.size))
            clear hb2
            go_wp2_with fail
            go_ret2
            exact ⟨by rw [HRG.out HC2.out, HC2.out]; rfl, HB2.out⟩
      · have HC2 : Hid (C = 5) := hide (by rw [HCE.out]; simp [firstNZ])
        go_enter Tryd.func13, Tryd.ntmps13
        go_wp2_with fail
        refine HV.out.mono ?_
        rintro e w1 ⟨rfl, hb1⟩
        have HB1 := hide (HB0.out.trans (hb1.mono (by simp)))
        clear hb1
        go_wp2_with fail
        refine (HCA.out _).mono ?_
        rintro e w' ⟨rfl, rfl⟩
        go_wp2_with fail
        refine (HCB.out _).mono ?_
        rintro e w' ⟨rfl, rfl⟩
        go_wp2_with fail
        go_ret2
        exact ⟨by rw [HRR.out (by rw [HC2.out]; decide), HC2.out]; rfl, HB1.out⟩
    · have HC2 : Hid (C = 5) := hide (by rw [HCE.out]; simp [firstNZ])
      go_enter Tryd.func13, Tryd.ntmps13
      go_wp2_with fail
      refine HV.out.mono ?_
      rintro e w1 ⟨rfl, hb1⟩
      have HB1 := hide (HB0.out.trans (hb1.mono (by simp)))
      clear hb1
      go_wp2_with fail
      refine (HCA.out _).mono ?_
      rintro e w' ⟨rfl, rfl⟩
      go_wp2_with fail
      go_ret2
      exact ⟨by rw [HRR.out (by rw [HC2.out]; decide), HC2.out]; rfl, HB1.out⟩
  · have HC2 : Hid (C = E) := hide (by rw [HCE.out, firstNZ, if_neg hE0])
    have HC3 : Hid (R = 0) := hide (HRR.out (by rw [HC2.out]; exact hE0))
    have hne : (E != 0) = true := by simpa using hE0
    clear hE0
    go_enter Tryd.func13, Tryd.ntmps13
    go_wp2_with fail
    refine HV.out.mono ?_
    rintro e w1 ⟨rfl, hb1⟩
    have HB1 := hide (HB0.out.trans (hb1.mono (by simp)))
    clear hb1
    go_wp2_with fail
    go_ret2
    exact ⟨by rw [HC3.out, HC2.out]; rfl, HB1.out⟩

set_option maxHeartbeats 2000000 in
set_option maxRecDepth 100000 in
theorem sortCompare_any (o : Sp) (kv : Value) (a b : ByteArray) (w : World) (hk : KeysIn w kv o.keys) (ho : o.sep.size ≤ maxLen) (ha : a.size ≤ 140737488355328) (hb : b.size ≤ 140737488355328) :
    Calls Tryd.prog 3 #[spV o kv, .string a, .string b] w fun e w' => e = .returned (.bool true) ∧ Below w.heap.size w w' := by
  have ho' := ho
  unfold maxLen at ho'
  obtain ⟨A, cap, rfl⟩ : ∃ A cap, kv = .slice A o.keys.length cap := by
    obtain ⟨_, A, cap, h, _⟩ := hk
    exact ⟨A, cap, h⟩
  have hB0 := ((Below.refl w.heap.size w).alloc (Nat.le_refl _) (.cells #[.string o.sep, .slice A o.keys.length cap, .bool o.reverse, .bool o.stable, .bool o.unique] 24))
  have HN0 : Hid (SpIn (w.alloc (.cells #[.string o.sep, .slice A o.keys.length cap, .bool o.reverse, .bool o.stable, .bool o.unique] 24)) w.heap.size 24 o (.slice A o.keys.length cap)) := hide (heap_alloc_new _ _)
  have HCM := hide (Compare_any o (.slice A o.keys.length cap) a b _ (hk.below hB0) ho (by unfold maxLen; omega) (by unfold maxLen; omega))
  have HK0 := hide (hk.below hB0)
  have HOE := hide (fun W h => orderError_any o (.slice A o.keys.length cap) W h ho')
  have HNL := hide (fun W => contains_nl (a ++ b) W)
  have HB0 := hide hB0
  have HGD : Hid (cmpErr o a b = 0 → (∀ k ∈ o.keys, k.good) ∧ a.size ≤ 65536 ∧ b.size ≤ 65536) := hide (fun h => cmpErr_zero h)
  have HCE : Hid (cmpErr o a b = firstNZ [ordErr o, if nlB (a ++ b) then 5 else 0, if lgB a b then 2 else 0]) := hide (by unfold cmpErr; rw [nlB_app])
  have HLG : Hid (lgB a b = (decide ((65536 : Int) < (a.size : Int)) || decide ((65536 : Int) < (b.size : Int)))) := hide (by unfold lgB; congr 1 <;> exact decide_eq_decide.2 (by omega))
  have HRG : Hid (cmpErr o a b = 0 → (if cmpErr o a b = 0 then ordCmp o a b else 0) = ordCmp o a b) := hide (fun h => if_pos h)
  have HRR : Hid (¬ cmpErr o a b = 0 → (if cmpErr o a b = 0 then ordCmp o a b else 0) = 0) := hide (fun h => if_neg h)
  have HR3 := hide (fun W : World => rd_three W (ordErr o) (if nlB (a ++ b) then 5 else 0) (if lgB a b then 2 else 0) 25)
  obtain ⟨R, hR⟩ : ∃ R, (if cmpErr o a b = 0 then ordCmp o a b else 0) = R := ⟨_, rfl⟩
  obtain ⟨C, hC⟩ : ∃ C, cmpErr o a b = C := ⟨_, rfl⟩
  obtain ⟨E, hE⟩ : ∃ E, ordErr o = E := ⟨_, rfl⟩
  obtain ⟨N, hN⟩ : ∃ N, nlB (a ++ b) = N := ⟨_, rfl⟩
  obtain ⟨G, hG⟩ : ∃ G, lgB a b = G := ⟨_, rfl⟩
  simp only [hR] at HCM HRG HRR
  simp only [hC] at HCM HGD HCE HRG HRR
  simp only [hE] at HOE HCE HR3
  simp only [hN] at HNL HCE HR3
  simp only [hG] at HCE HR3 HLG
  obtain ⟨X5, h5⟩ : ∃ X, (if N then (5 : Int) else 0) = X := ⟨_, rfl⟩
  obtain ⟨X2, h2⟩ : ∃ X, (if G then (2 : Int) else 0) = X := ⟨_, rfl⟩
  have HW5 := hide (fun W => when_any N 5 W)
  have HW2 := hide (fun W => when_any G 2 W)
  simp only [h5] at HW5 HCE HR3
  simp only [h2] at HW2 HCE HR3
  clear hR hC hE hN hG hB0 hk ho h5 h2
  unfold spV at HCM HOE ⊢
  go_enter Tryd.func3, Tryd.ntmps3
  go_wp2_with fail
  refine HCM.out.mono ?_
  rintro e w1 ⟨rfl, hb1⟩
  have n1 := HN0.out.below hb1 (by simp)
  have HB1 := hide (HB0.out.trans (hb1.mono (by simp)))
  have HK1 := hide (HK0.out.below hb1)
  have HN1 := hide n1
  obtain ⟨c0, c1, c2, c3, c4⟩ := n1.cells
  clear hb1 n1
  go_wp2_with fail
  refine (HOE.out _ HK1.out).mono ?_
  rintro e w2 ⟨rfl, hb2⟩
  have HB2 := hide (HB1.out.trans (hb2.mono HB1.out.size))
  have HK2 := hide (HK1.out.below hb2)
  have HN2 := hide (HN1.out.below hb2 HN1.out.lt)
  clear hb2 c0 c1 c2 c3 c4
  go_wp2_with fail
  refine (HNL.out _).mono ?_
  rintro e w' ⟨rfl, rfl⟩
  go_wp2_with fail
  refine (HW5.out _).mono ?_
  rintro e w' ⟨rfl, rfl⟩
  have HR4 := hide (HR3.out w2)
  have h3 : (65536 : Int) < (a.size : Int) ∨ (¬ (65536 : Int) < (a.size : Int) ∧ (65536 : Int) < (b.size : Int)) ∨ (¬ (65536 : Int) < (a.size : Int) ∧ ¬ (65536 : Int) < (b.size : Int)) := by omega
  rcases h3 with hla | ⟨hla, hlb⟩ | ⟨hla, hlb⟩
  case' inl => obtain rfl : G = true := by rw [HLG.out]; simp [hla]
  case' inr.inl => obtain rfl : G = true := by rw [HLG.out]; simp [hla, hlb]
  case' inr.inr => obtain rfl : G = false := by rw [HLG.out]; simp [hla, hlb]
  all_goals
    go_wp2_with fail
    try (have hdd : (decide ((65536 : Int) < (a.size : Int)) || decide ((65536 : Int) < (b.size : Int))) = false := (by simp [hla, hlb]); rw [hdd])
    refine (HW2.out _).mono ?_
    rintro e w' ⟨rfl, rfl⟩
    go_wp2_with fail
    refine (first_any _ [E, X5, X2] _ HR4.out).mono ?_
    rintro e w' ⟨rfl, rfl⟩
    rw [← HCE.out]
    have hb3 := HB2.out.alloc HB2.out.size (.cells #[.int .i64 E, .int .i64 X5, .int .i64 X2] 25)
    have HB3 := hide hb3
    have hal := (Below.refl w2.heap.size w2).alloc (Nat.le_refl _) (.cells #[.int .i64 E, .int .i64 X5, .int .i64 X2] 25)
    have HK3 := hide (HK2.out.below hal)
    have HN3 := hide (HN2.out.below hal HN2.out.lt)
    clear hb3 hal
    go_wp2_with fail
    refine (sorts_any _).mono ?_
    rintro e w4 ⟨rfl, hb4⟩
    have HB4 := hide (HB3.out.trans (hb4.mono HB3.out.size))
    have HK4 := hide (HK3.out.below hb4)
    have n4 := HN3.out.below hb4 HN3.out.lt
    obtain ⟨c0, c1, c2, c3, c4⟩ := n4.cells
    clear hb4 n4
    by_cases hC0 : C = 0
    · subst hC0
      obtain ⟨g1, g2, g3⟩ := HGD.out rfl
      have HOR := hide (orderR_any o (.slice A o.keys.length cap) a b w4 HK4.out g1 (by omega) (by omega))
      have HEQ : Hid ((R == ordCmp o a b) = true) := hide (by rw [HRG.out rfl]; simp)
      clear g1
      unfold spV at HOR
      go_wp2_with fail
      refine HOR.out.mono ?_
      rintro e w5 ⟨rfl, hb5⟩
      have HB5 := hide (HB4.out.trans (hb5.mono HB4.out.size))
      clear hb5
      go_wp2_with fail
      go_ret
      exact ⟨ret_bool HEQ.out, HB5.out⟩
    · have hne : (C != 0) = true := by simpa using hC0
      obtain rfl : R = 0 := HRR.out hC0
      clear hC0
      go_wp2_with fail
      refine (sorts_any _).mono ?_
      rintro e w5 ⟨rfl, hb5⟩
      have HB5 := hide (HB4.out.trans (hb5.mono HB4.out.size))
      clear hb5
      go_wp2_with fail
      go_ret
      exact ⟨ret_bool (by simp), HB5.out⟩
end Go.Proofs.YtkikbejpgfhfoaaDoor
