/- The reference's decimals: DecOf. -/
import Derived.Test.YtoieicdnehnacaaGreatDoorSeqJ
import Derived.Laws.ResultCell
set_option linter.unusedVariables false
set_option linter.unusedSimpArgs false
namespace Go.Pw
open Go.RowKit
theorem DEnv.setR12 {T : TypeId} {b : Bool} {d : ByteArray} {c : Nat} {b2 : Bool} {d2 : ByteArray} {c2 : Nat} {w W : World} (h : DEnv T b d c b2 d2 c2 w W) (d' : ByteArray) (c' : Nat) : DEnv T b d c b2 d' c' w ((W.setCell ⟨w.heap.size + 1, 1, none⟩ (.string d')).setCell ⟨w.heap.size + 1, 2, none⟩ (.int .i64 (c' : Int))) :=
  ⟨(h.x.other (by omega) _).other (by omega) _, (h.r.set1 d').set2 c', (h.bel.setCell (by simp) _).setCell (by simp) _⟩
theorem DEnv.setX {T : TypeId} {b : Bool} {d : ByteArray} {c : Nat} {b2 : Bool} {d2 : ByteArray} {c2 : Nat} {w W : World} (h : DEnv T b d c b2 d2 c2 w W) (b' : Bool) (d' : ByteArray) (c' : Nat) : DEnv T b' d' c' b2 d2 c2 w (((W.setCell ⟨w.heap.size, 0, none⟩ (.bool b')).setCell ⟨w.heap.size, 1, none⟩ (.string d')).setCell ⟨w.heap.size, 2, none⟩ (.int .i64 (c' : Int))) :=
  ⟨h.x.set b' d' c', ((h.r.other (by omega) _).other (by omega) _).other (by omega) _, ((h.bel.setCell (by simp) _).setCell (by simp) _).setCell (by simp) _⟩
/-- a number in digits, then what stands behind -/
theorem dotAt_dw : ∀ t : List UInt8, (t.dropWhile digB = [] → dotAt t = (t, [], false)) ∧ (∀ x p, t.dropWhile digB = x :: p → (x = 46 → dotAt t = (t.takeWhile digB, p, true)) ∧ (x ≠ 46 → (dotAt t).1.all digB = false))
  | [] => ⟨fun _ => rfl, fun x p h => by simp at h⟩
  | c :: t => by
    obtain ⟨ih1, ih2⟩ := dotAt_dw t
    cases hc : digB c
    · rw [List.dropWhile_cons, List.takeWhile_cons, hc]
      refine ⟨fun h => by simp at h, fun x p h => ?_⟩
      simp at h
      obtain ⟨rfl, rfl⟩ := h
      refine ⟨fun e => by subst e; simp [dotAt], fun e => ?_⟩
      rw [dotAt, if_neg e]
      simp [hc]
    · have hn : c ≠ 46 := fun e => by subst e; revert hc; decide
      rw [List.dropWhile_cons, List.takeWhile_cons, hc]
      simp only [if_true]
      refine ⟨fun h => by rw [dotAt, if_neg hn, ih1 h], fun x p h => ⟨fun e => by rw [dotAt, if_neg hn, (ih2 x p h).1 e], fun e => ?_⟩⟩
      rw [dotAt, if_neg hn, List.all_cons, hc, (ih2 x p h).2 e]
      rfl
theorem dRest_neg {s : ByteArray} (h0 : 0 < s.size) (h : s[0] = 45) : dRest s.data.toList = (s.extract 1 s.size).data.toList ∧ dNeg s.data.toList = true := by
  have e : Lib.hasPrefix s.data.toList [45] = true := by rw [head_byte s h0, h]; simp [Lib.hasPrefix, List.isPrefixOf]
  refine ⟨?_, e⟩
  unfold dRest Lib.trimPrefix
  rw [e, if_pos rfl, Lib.extract_to_end]; rfl
theorem dRest_pos {s : ByteArray} (h : ∀ h0 : 0 < s.size, s[0] ≠ 45) : dRest s.data.toList = s.data.toList ∧ dNeg s.data.toList = false := by
  have e : Lib.hasPrefix s.data.toList [45] = false := by
    by_cases h0 : 0 < s.size
    · rw [head_byte s h0]
      unfold Lib.hasPrefix List.isPrefixOf
      rw [beq_false_of_ne (fun e => h h0 e.symm)]; rfl
    · have hl := len_size s
      rw [List.eq_nil_of_length_eq_zero (l := s.data.toList) (by omega)]; rfl
  refine ⟨?_, e⟩
  unfold dRest Lib.trimPrefix
  rw [e]; rfl
theorem isNumL_bad {l : List UInt8} (h : l.all digB = false) : isNumL l = false := by unfold isNumL; rw [h, Bool.and_false]
theorem isNumL_good {s : ByteArray} (h : s.data.toList.all digB = true) : isNumL s.data.toList = decide (0 < s.size) := by
  unfold isNumL
  rw [h, Bool.and_true]
  have hl := len_size s
  cases he : s.data.toList with
  | nil =>
    have h0 : s.size = 0 := by rw [he] at hl; simpa using hl.symm
    simp [h0]
  | cons c t =>
    have h0 : 0 < s.size := by rw [he] at hl; simp at hl; omega
    simp [h0]
theorem take_all (l : List UInt8) : (l.takeWhile digB).all digB = true := by
  rw [List.all_eq_true]
  intro c hc
  have := List.all_takeWhile (p := digB) (l := l)
  rw [List.all_eq_true] at this
  exact this c hc
end Go.Pw
namespace Go.Proofs.YtoieicdnehnacaaGreatDoor
open Go.RowKit Go.Pw
theorem decResult2 {fn : Func} {p u : Tmp} (h : fn.results = #[.cell p 71, .tmp u]) (tmps : Array Value) (w : World) (g : Nat) (b : Bool) (d : ByteArray) (c : Nat) (v : Value)
    (hp : tmps.getD p undef = .pointer (some ⟨g, 0, none⟩)) (hv : tmps.getD u undef = v) (hg : DAt w g 71 b d c) : (results fn tmps).run Tryz.prog w = .ok (.tuple #[.agg #[.bool b, .string d, .int .i64 (c : Int)], v]) w := by
  rw [results_cell_tmp h, hp]
  simp only [asAddr]
  rw [← hv]
  simp [asAddr, run_loadVar_row w g 71 71 #[.bool b, .string d, .int .i64 (c : Int)] (0, 0) _ hg Tryz.underlying71 rfl info_dec, Result.andThen]
set_option maxHeartbeats 8000000 in
set_option maxRecDepth 100000 in
theorem decOf_any (s : ByteArray) (w : World) (hs : s.size ≤ 1000) :
    Calls Tryz.prog 41 #[.string s] w fun e w' => Below w.heap.size w w' ∧
      ((dOk s.data.toList = true ∧ ∃ b d, e = .returned (.tuple #[.agg #[.bool b, .string d, .int .i64 ((dPart s.data.toList).length : Int)], .int .i64 0]) ∧ ExI (dVal s.data.toList) b d) ∨
       (dOk s.data.toList = false ∧ e = .returned (.tuple #[.agg #[.bool false, .string ⟨#[]⟩, .int .i64 0], .int .i64 1]))) := by
  by_cases hsg : ∃ h0 : 0 < s.size, s[0] = 45
  · obtain ⟨hs0, hs45⟩ := hsg
    obtain ⟨hr1, hr2⟩ := dRest_neg hs0 hs45
    have hs0i : (0 : Int) < (s.size : Int) := by omega
    have hs1i : (1 : Int) ≤ (s.size : Int) := by omega
    have hs4 : ((s[0].toNat : Int) == 45) = true := by rw [hs45]; rfl
    obtain ⟨T0, hT0⟩ : ∃ T0, s.extract 1 s.size = T0 := ⟨_, rfl⟩
    have hTz : T0.size ≤ 1000 := by rw [← hT0, ByteArray.size_extract]; omega
    rw [hT0] at hr1
    have HT0 := hide hT0
    have HRest := hide hr1
    have HO : Hid (dOk s.data.toList = (dForm s.data.toList && !(true && decide (dMag s.data.toList = 0)))) := hide (by rw [← hr2]; rfl)
    have HVal : Hid (dVal s.data.toList = -(dMag s.data.toList : Int)) := hide (by unfold dVal; rw [hr2]; rfl)
    clear hr1 hr2 hs45 hT0
    have hlT := len_size T0
    have HDW := hide (dotAt_dw T0.data.toList)
    clear hlT
    have E3 := dec_two w 71 false true ⟨#[]⟩ ⟨#[]⟩ 0 0
    have EN : Hid (DEnv 71 false ⟨#[]⟩ 0 true ⟨#[]⟩ 0 w ((w.alloc (.cells #[.bool false, .string ⟨#[]⟩, .int .i64 0] 71)).alloc (.cells #[.bool true, .string ⟨#[]⟩, .int .i64 0] 71))) := hide ⟨E3.1, E3.2.1, E3.2.2⟩
    obtain ⟨W3, hW3⟩ : ∃ W3, (w.alloc (.cells #[.bool false, .string ⟨#[]⟩, .int .i64 0] 71)).alloc (.cells #[.bool true, .string ⟨#[]⟩, .int .i64 0] 71) = W3 := ⟨_, rfl⟩
    rw [hW3] at EN
    have HW3 := hide hW3
    clear E3 hW3
    go_enter Tryz.func41, Tryz.ntmps41
    go_wp2_with fail
    rw [HW3.out]
    rw [HT0.out]
    obtain ⟨a0, a1, a2⟩ := EN.out.x.cells
    obtain ⟨y0, y1, y2⟩ := EN.out.r.cells
    have f0 := EN.out.x.frozen 0
    have f1 := EN.out.x.frozen 1
    have f2 := EN.out.x.frozen 2
    have g0 := EN.out.r.frozen 0
    have g1 := EN.out.r.frozen 1
    have g2 := EN.out.r.frozen 2
    go_loop [6] (fun v => ∃ k : Nat, k ≤ T0.size ∧ v = .int .i64 (k : Int) ∧ Hid ((T0.data.toList.takeWhile digB) = T0.data.toList.take k ++ ((T0.data.toList.drop k).takeWhile digB) ∧ T0.data.toList.dropWhile digB = (T0.data.toList.drop k).dropWhile digB)) (fun v => T0.size - (intOf v).toNat)
    case atStart => exact ⟨0, by omega, rfl, hide ⟨by simp, by simp⟩⟩
    case round =>
      obtain ⟨k, hk, rfl, HK⟩ := hrel
      have hki : (k : Int) ≤ (T0.size : Int) := by omega
      by_cases hlt : k < T0.size
      · have hlti : (k : Int) < (T0.size : Int) := by omega
        have hwk : IntKind.i64.wrap ((k : Int) + 1) = (k : Int) + 1 := IntWalk.i64_in _ (by omega)
        have HDB := hide (drop_byte T0 k hlt)
        cases hdg : digB T0[k]
        · skip
          have HTK : Hid (T0.data.toList.takeWhile digB = T0.data.toList.take k ∧ T0.data.toList.dropWhile digB = T0[k] :: T0.data.toList.drop (k + 1)) := hide (by
            refine ⟨?_, ?_⟩
            · rw [HK.out.1, HDB.out, List.takeWhile_cons, hdg]; simp
            · rw [HK.out.2, HDB.out, List.dropWhile_cons, hdg]; simp)
          obtain ⟨A, hA⟩ : ∃ A, T0.extract 0 k = A := ⟨_, rfl⟩
          have HA : Hid (A.data.toList = T0.data.toList.takeWhile digB) := hide (by
            rw [← hA, HTK.out.1, ByteArray.data_extract, Array.toList_extract, List.extract_eq_take_drop]; rfl)
          have hAs : A.size ≤ 1000 := by rw [← hA, ByteArray.size_extract]; omega
          by_cases hdt : T0[k] = 46
          · have hd2 : ((T0[k].toNat : Int) != 46) = false := by rw [hdt]; rfl
            have HDot : Hid (dotAt T0.data.toList = (A.data.toList, T0.data.toList.drop (k + 1), true)) := hide (by rw [((HDW.out.2 _ _ HTK.out.2).1 hdt), HA.out])
            clear hdt
            by_cases hend : k + 1 = T0.size
            · have hendi : (k : Int) + 1 = (T0.size : Int) := by omega
              have HOx : Hid (dOk s.data.toList = false) := hide (by
                rw [HO.out]
                have hl := len_size T0
                have : dForm s.data.toList = false := by
                  unfold dForm dDot dPart; rw [HRest.out, HDot.out]
                  rw [List.drop_of_length_le (by omega)]; simp [isNumL]
                rw [this]; rfl)
              clear hend
              skip
              have HOf : Hid (dOk s.data.toList = false) := hide (by exact HOx.out)
              have HR := hide (EN.out.setX false ⟨#[]⟩ 0)
              go_wp2_with (go_at_call 103; refine (digitR_any _ _).mono ?_; rintro e w' ⟨rfl, rfl⟩)
              (try simp only [Exit.inBlock, Exit.then])
              refine bodyPost_ret (decResult2 rfl _ _ w.heap.size false ⟨#[]⟩ 0 _ rfl rfl HR.out.x) rfl ?_
              exact ⟨HR.out.bel, .inr ⟨HOf.out, rfl⟩⟩
            · have hendi : ((k : Int) + 1 == (T0.size : Int)) = false := by simp; omega
              have hk1 : (k : Int) + 1 ≤ (T0.size : Int) := by omega
              have hkn : ((k : Int) + 1).toNat = k + 1 := by omega
              have hk0 : (0 : Int) ≤ (k : Int) + 1 := by omega
              obtain ⟨P, hP⟩ : ∃ P, T0.extract (k + 1) T0.size = P := ⟨_, rfl⟩
              have HP : Hid (P.data.toList = T0.data.toList.drop (k + 1)) := hide (by rw [← hP, Lib.extract_to_end])
              have hPs : P.size ≤ 1000 := by rw [← hP, ByteArray.size_extract]; omega
              have hP0 : 0 < P.size := by rw [← hP, ByteArray.size_extract]; omega
              go_wp2_with (go_at_call 103; refine (digitR_any _ _).mono ?_; rintro e w' ⟨rfl, rfl⟩)
              (try rw [hP])
              (try rw [hA])
              clear hA hP hendi hk1 hkn hk0 hwk hend
              go_loop [60] (fun v => ∃ j : Nat, j ≤ P.size ∧ v = .int .i64 (j : Int) ∧ Hid (P.data.toList.all digB = (P.data.toList.drop j).all digB)) (fun v => P.size - (intOf v).toNat)
              case atStart => exact ⟨0, by omega, rfl, hide (by simp)⟩
              case round =>
                obtain ⟨j, hj, rfl, HJ⟩ := hrel
                have hji : (j : Int) ≤ (P.size : Int) := by omega
                by_cases hjl : j < P.size
                · have hjli : (j : Int) < (P.size : Int) := by omega
                  have hwj : IntKind.i64.wrap ((j : Int) + 1) = (j : Int) + 1 := IntWalk.i64_in _ (by omega)
                  have HJB := hide (drop_byte P j hjl)
                  cases hdj : digB P[j]
                  · skip
                    have HOx : Hid (dOk s.data.toList = false) := hide (by
                      rw [HO.out]
                      have : dForm s.data.toList = false := by
                        unfold dForm dDot dPart; rw [HRest.out, HDot.out]
                        have h2 : isNumL (T0.data.toList.drop (k + 1)) = false := isNumL_bad (by rw [← HP.out, HJ.out, HJB.out, List.all_cons, hdj]; rfl)
                        simp [h2]
                      rw [this]; rfl)
                    have HOf : Hid (dOk s.data.toList = false) := hide (by exact HOx.out)
                    have HR := hide (EN.out.setX false ⟨#[]⟩ 0)
                    go_wp2_with (go_at_call 103; refine (digitR_any _ _).mono ?_; rintro e w' ⟨rfl, rfl⟩)
                    (try simp only [Exit.inBlock, Exit.then])
                    refine bodyPost_ret (decResult2 rfl _ _ w.heap.size false ⟨#[]⟩ 0 _ rfl rfl HR.out.x) rfl ?_
                    exact ⟨HR.out.bel, .inr ⟨HOf.out, rfl⟩⟩
                  · have HJ2 : Hid (P.data.toList.all digB = (P.data.toList.drop (j + 1)).all digB) := hide (by rw [HJ.out, HJB.out, List.all_cons, hdj]; rfl)
                    go_wp2_with (go_at_call 103; refine (digitR_any _ _).mono ?_; rintro e w' ⟨rfl, rfl⟩)
                    go_round
                    case rel => exact ⟨j + 1, by omega, by go_num, HJ2⟩
                    case measure => simp [intOf]; omega
                · have hjli : ¬ (j : Int) < (P.size : Int) := by omega
                  have HAll : Hid (P.data.toList.all digB = true) := hide (by rw [HJ.out, List.drop_of_length_le (by rw [len_size]; omega)]; rfl)
                  have HWh : Hid (dWhole s.data.toList = A.data.toList) := hide (by unfold dWhole; rw [HRest.out, HDot.out])
                  have HPa : Hid (dPart s.data.toList = P.data.toList) := hide (by unfold dPart; rw [HRest.out, HDot.out, HP.out])
                  have HFm : Hid (dForm s.data.toList = (decide (0 < A.size) && !(decide (1 < A.size) && (A.data.toList.getD 0 0 == 48)))) := hide (by
                    unfold dForm
                    rw [HWh.out, HPa.out, isNumL_good (s := A) (by rw [HA.out]; exact take_all _), isNumL_good HAll.out, len_size]
                    simp [hP0])
                  clear HJ hj hji hP0
                  by_cases hA0 : 0 < A.size
                  · have heA := isEmpty_of hA0
                    by_cases hA1 : 1 < A.size
                    · have hA1i : (1 : Int) < (A.size : Int) := by omega
                      by_cases h48 : A[0] = 48
                      · have h4 : ((A[0].toNat : Int) == 48) = true := by rw [h48]; rfl
                        have H48 : Hid ((A.data.toList.getD 0 0 == 48) = true) := hide (by rw [getD_get0 hA0, h48]; rfl)
                        clear h48
                        have HOf : Hid (dOk s.data.toList = false) := hide (by rw [HO.out, HFm.out, H48.out]; simp [hA1])
                        have HR := hide (EN.out.setX false ⟨#[]⟩ 0)
                        go_wp2_with fail
                        (try simp only [Exit.inBlock, Exit.then])
                        refine bodyPost_ret (decResult2 rfl _ _ w.heap.size false ⟨#[]⟩ 0 _ rfl rfl HR.out.x) rfl ?_
                        exact ⟨HR.out.bel, .inr ⟨HOf.out, rfl⟩⟩
                      · have h4 : ((A[0].toNat : Int) == 48) = false := by
                          simp only [beq_eq_false_iff_ne, ne_eq]; intro h; exact h48 (byte_of (by show _ = 48; omega))
                        have H48 : Hid ((A.data.toList.getD 0 0 == 48) = false) := hide (by rw [getD_get0 hA0]; exact beq_false_of_ne h48)
                        clear h48
                        have HFt : Hid (dForm s.data.toList = true) := hide (by rw [HFm.out, H48.out]; simp [hA0])
                        go_wp2_with fail
                        refine (plainD_any _ _).mono ?_
                        rintro e w5 ⟨rfl, rfl⟩
                        obtain ⟨D, hD⟩ : ∃ D, mkB ((A ++ P).data.toList.dropWhile (· == 48)) = D := ⟨_, rfl⟩
                        have HDD : Hid (Canon D.data.toList ∧ valL D.data.toList = dMag s.data.toList) := hide (by
                          have e : (A ++ P).data.toList = dWhole s.data.toList ++ dPart s.data.toList := by rw [HWh.out, HPa.out]; simp
                          have := strip_val _ (dForm_dig HFt.out)
                          rw [← e] at this
                          rw [← hD]
                          refine ⟨this.1, this.2.trans ?_⟩
                          rw [e]; rfl)
                        rw [hD]
                        clear hD
                        have HR0 := hide (EN.out.setR12 D P.size)
                        by_cases hd0 : 0 < D.size
                        · have heD := isEmpty_of hd0
                          have HI : Hid (dOk s.data.toList = true ∧ ExI (dVal s.data.toList) true D) := hide (by
                            have hl := len_size D
                            have hm : dMag s.data.toList ≠ 0 := fun h => by
                              rw [canon_zero HDD.out.1 (by rw [HDD.out.2, h])] at hl; simp at hl; omega
                            refine ⟨by rw [HO.out, HFt.out]; simp [hm], HDD.out.1, ?_, ?_⟩
                            · rw [HDD.out.2, HVal.out, Int.natAbs_neg, Int.natAbs_natCast]
                            · rw [HVal.out]; exact (decide_eq_true (by omega)).symm)
                          clear hd0
                          have HR := hide (HR0.out.setX true D P.size)
                          go_wp2_with fail
                          (try simp only [Exit.inBlock, Exit.then])
                          refine bodyPost_ret (decResult2 rfl _ _ w.heap.size true D P.size _ rfl rfl HR.out.x) rfl ?_
                          exact ⟨HR.out.bel, .inl ⟨HI.out.1, _, _, by rw [HPa.out, len_size]; rfl, HI.out.2⟩⟩
                        · obtain rfl := empty_of (s := D) (by omega)
                          have HOf : Hid (dOk s.data.toList = false) := hide (by
                            have hm : dMag s.data.toList = 0 := by rw [← HDD.out.2]; rfl
                            rw [HO.out, HFt.out]; simp [hm])
                          have HR := hide (HR0.out.setX false ⟨#[]⟩ 0)
                          go_wp2_with fail
                          (try simp only [Exit.inBlock, Exit.then])
                          refine bodyPost_ret (decResult2 rfl _ _ w.heap.size false ⟨#[]⟩ 0 _ rfl rfl HR.out.x) rfl ?_
                          exact ⟨HR.out.bel, .inr ⟨HOf.out, rfl⟩⟩
                    · have hA1i : ¬ (1 : Int) < (A.size : Int) := by omega
                      have HFt : Hid (dForm s.data.toList = true) := hide (by rw [HFm.out]; simp [hA0, hA1])
                      go_wp2_with fail
                      refine (plainD_any _ _).mono ?_
                      rintro e w5 ⟨rfl, rfl⟩
                      obtain ⟨D, hD⟩ : ∃ D, mkB ((A ++ P).data.toList.dropWhile (· == 48)) = D := ⟨_, rfl⟩
                      have HDD : Hid (Canon D.data.toList ∧ valL D.data.toList = dMag s.data.toList) := hide (by
                        have e : (A ++ P).data.toList = dWhole s.data.toList ++ dPart s.data.toList := by rw [HWh.out, HPa.out]; simp
                        have := strip_val _ (dForm_dig HFt.out)
                        rw [← e] at this
                        rw [← hD]
                        refine ⟨this.1, this.2.trans ?_⟩
                        rw [e]; rfl)
                      rw [hD]
                      clear hD
                      have HR0 := hide (EN.out.setR12 D P.size)
                      by_cases hd0 : 0 < D.size
                      · have heD := isEmpty_of hd0
                        have HI : Hid (dOk s.data.toList = true ∧ ExI (dVal s.data.toList) true D) := hide (by
                          have hl := len_size D
                          have hm : dMag s.data.toList ≠ 0 := fun h => by
                            rw [canon_zero HDD.out.1 (by rw [HDD.out.2, h])] at hl; simp at hl; omega
                          refine ⟨by rw [HO.out, HFt.out]; simp [hm], HDD.out.1, ?_, ?_⟩
                          · rw [HDD.out.2, HVal.out, Int.natAbs_neg, Int.natAbs_natCast]
                          · rw [HVal.out]; exact (decide_eq_true (by omega)).symm)
                        clear hd0
                        have HR := hide (HR0.out.setX true D P.size)
                        go_wp2_with fail
                        (try simp only [Exit.inBlock, Exit.then])
                        refine bodyPost_ret (decResult2 rfl _ _ w.heap.size true D P.size _ rfl rfl HR.out.x) rfl ?_
                        exact ⟨HR.out.bel, .inl ⟨HI.out.1, _, _, by rw [HPa.out, len_size]; rfl, HI.out.2⟩⟩
                      · obtain rfl := empty_of (s := D) (by omega)
                        have HOf : Hid (dOk s.data.toList = false) := hide (by
                          have hm : dMag s.data.toList = 0 := by rw [← HDD.out.2]; rfl
                          rw [HO.out, HFt.out]; simp [hm])
                        have HR := hide (HR0.out.setX false ⟨#[]⟩ 0)
                        go_wp2_with fail
                        (try simp only [Exit.inBlock, Exit.then])
                        refine bodyPost_ret (decResult2 rfl _ _ w.heap.size false ⟨#[]⟩ 0 _ rfl rfl HR.out.x) rfl ?_
                        exact ⟨HR.out.bel, .inr ⟨HOf.out, rfl⟩⟩
                  · have HFf : Hid (dForm s.data.toList = false) := hide (by rw [HFm.out]; simp [hA0])
                    obtain rfl := empty_of (s := A) (by omega)
                    have HOf : Hid (dOk s.data.toList = false) := hide (by rw [HO.out, HFf.out]; rfl)
                    have HR := hide (EN.out.setX false ⟨#[]⟩ 0)
                    go_wp2_with fail
                    (try simp only [Exit.inBlock, Exit.then])
                    refine bodyPost_ret (decResult2 rfl _ _ w.heap.size false ⟨#[]⟩ 0 _ rfl rfl HR.out.x) rfl ?_
                    exact ⟨HR.out.bel, .inr ⟨HOf.out, rfl⟩⟩
          · have hd2 : ((T0[k].toNat : Int) != 46) = true := by
              simp only [bne_iff_ne, ne_eq]; intro h; exact hdt (byte_of (by show _ = 46; omega))
            have HOx : Hid (dOk s.data.toList = false) := hide (by
              rw [HO.out]
              have : dForm s.data.toList = false := by
                unfold dForm dWhole; rw [HRest.out, isNumL_bad ((HDW.out.2 _ _ HTK.out.2).2 hdt)]; rfl
              rw [this]; rfl)
            clear hdt
            have HOf : Hid (dOk s.data.toList = false) := hide (by exact HOx.out)
            have HR := hide (EN.out.setX false ⟨#[]⟩ 0)
            go_wp2_with (go_at_call 103; refine (digitR_any _ _).mono ?_; rintro e w' ⟨rfl, rfl⟩)
            (try simp only [Exit.inBlock, Exit.then])
            refine bodyPost_ret (decResult2 rfl _ _ w.heap.size false ⟨#[]⟩ 0 _ rfl rfl HR.out.x) rfl ?_
            exact ⟨HR.out.bel, .inr ⟨HOf.out, rfl⟩⟩
        · have HK2 : Hid ((T0.data.toList.takeWhile digB) = T0.data.toList.take (k + 1) ++ ((T0.data.toList.drop (k + 1)).takeWhile digB) ∧ T0.data.toList.dropWhile digB = (T0.data.toList.drop (k + 1)).dropWhile digB) := hide (by
            refine ⟨?_, ?_⟩
            · rw [HK.out.1, HDB.out, List.takeWhile_cons, hdg]
              have hl := len_size T0
              rw [List.take_succ_eq_append_getElem (by omega)]
              simp; rfl
            · rw [HK.out.2, HDB.out, List.dropWhile_cons, hdg]; simp)
          go_wp2_with (go_at_call 103; refine (digitR_any _ _).mono ?_; rintro e w' ⟨rfl, rfl⟩)
          go_round
          case rel => exact ⟨k + 1, by omega, by go_num, HK2⟩
          case measure => simp [intOf]; omega
      · have hlti : ¬ (k : Int) < (T0.size : Int) := by omega
        obtain rfl : k = T0.size := by omega
        have hX : T0.extract 0 T0.size = T0 := by
          rw [← mkB_list (T0.extract 0 T0.size), ByteArray.data_extract, Array.toList_extract, List.extract_eq_take_drop]
          have hl := len_size T0
          rw [List.drop_zero, List.take_of_length_le (by omega), mkB_list]
        have HDot : Hid (dotAt T0.data.toList = (T0.data.toList, [], false)) := hide (HDW.out.1 (by rw [HK.out.2, List.drop_of_length_le (by rw [len_size]; omega)]; rfl))
        have HAll : Hid (T0.data.toList.all digB = true) := hide (by
          have h := HK.out.1
          have hl := len_size T0
          rw [List.drop_of_length_le (by omega), List.take_of_length_le (by omega)] at h
          simp only [List.takeWhile_nil, List.append_nil] at h
          rw [← h]; exact take_all _)
        have HWh : Hid (dWhole s.data.toList = T0.data.toList) := hide (by unfold dWhole; rw [HRest.out, HDot.out])
        have HPa : Hid (dPart s.data.toList = (⟨#[]⟩ : ByteArray).data.toList) := hide (by unfold dPart; rw [HRest.out, HDot.out])
        have HFm : Hid (dForm s.data.toList = (decide (0 < T0.size) && !(decide (1 < T0.size) && (T0.data.toList.getD 0 0 == 48)))) := hide (by
          have hdd : dDot s.data.toList = false := by unfold dDot; rw [HRest.out, HDot.out]
          unfold dForm
          rw [HWh.out, hdd, isNumL_good HAll.out, len_size]
          simp)
        clear HK hk hki
        by_cases hA0 : 0 < T0.size
        · have heA := isEmpty_of hA0
          by_cases hA1 : 1 < T0.size
          · have hA1i : (1 : Int) < (T0.size : Int) := by omega
            by_cases h48 : T0[0] = 48
            · have h4 : ((T0[0].toNat : Int) == 48) = true := by rw [h48]; rfl
              have H48 : Hid ((T0.data.toList.getD 0 0 == 48) = true) := hide (by rw [getD_get0 hA0, h48]; rfl)
              clear h48
              have HOf : Hid (dOk s.data.toList = false) := hide (by rw [HO.out, HFm.out, H48.out]; simp [hA1])
              have HR := hide (EN.out.setX false ⟨#[]⟩ 0)
              go_wp2_with fail
              (try simp only [Exit.inBlock, Exit.then])
              refine bodyPost_ret (decResult2 rfl _ _ w.heap.size false ⟨#[]⟩ 0 _ rfl rfl HR.out.x) rfl ?_
              exact ⟨HR.out.bel, .inr ⟨HOf.out, rfl⟩⟩
            · have h4 : ((T0[0].toNat : Int) == 48) = false := by
                simp only [beq_eq_false_iff_ne, ne_eq]; intro h; exact h48 (byte_of (by show _ = 48; omega))
              have H48 : Hid ((T0.data.toList.getD 0 0 == 48) = false) := hide (by rw [getD_get0 hA0]; exact beq_false_of_ne h48)
              clear h48
              have HFt : Hid (dForm s.data.toList = true) := hide (by rw [HFm.out, H48.out]; simp [hA0])
              go_wp2_with fail
              refine (plainD_any _ _).mono ?_
              rintro e w5 ⟨rfl, rfl⟩
              obtain ⟨D, hD⟩ : ∃ D, mkB ((T0 ++ (⟨#[]⟩ : ByteArray)).data.toList.dropWhile (· == 48)) = D := ⟨_, rfl⟩
              have HDD : Hid (Canon D.data.toList ∧ valL D.data.toList = dMag s.data.toList) := hide (by
                have e : (T0 ++ (⟨#[]⟩ : ByteArray)).data.toList = dWhole s.data.toList ++ dPart s.data.toList := by rw [HWh.out, HPa.out]; simp
                have := strip_val _ (dForm_dig HFt.out)
                rw [← e] at this
                rw [← hD]
                refine ⟨this.1, this.2.trans ?_⟩
                rw [e]; rfl)
              rw [hD]
              clear hD
              have HR0 := hide (EN.out.setR12 D (⟨#[]⟩ : ByteArray).size)
              by_cases hd0 : 0 < D.size
              · have heD := isEmpty_of hd0
                have HI : Hid (dOk s.data.toList = true ∧ ExI (dVal s.data.toList) true D) := hide (by
                  have hl := len_size D
                  have hm : dMag s.data.toList ≠ 0 := fun h => by
                    rw [canon_zero HDD.out.1 (by rw [HDD.out.2, h])] at hl; simp at hl; omega
                  refine ⟨by rw [HO.out, HFt.out]; simp [hm], HDD.out.1, ?_, ?_⟩
                  · rw [HDD.out.2, HVal.out, Int.natAbs_neg, Int.natAbs_natCast]
                  · rw [HVal.out]; exact (decide_eq_true (by omega)).symm)
                clear hd0
                have HR := hide (HR0.out.setX true D (⟨#[]⟩ : ByteArray).size)
                go_wp2_with fail
                (try simp only [Exit.inBlock, Exit.then])
                refine bodyPost_ret (decResult2 rfl _ _ w.heap.size true D (⟨#[]⟩ : ByteArray).size _ rfl rfl HR.out.x) rfl ?_
                exact ⟨HR.out.bel, .inl ⟨HI.out.1, _, _, by rw [HPa.out]; rfl, HI.out.2⟩⟩
              · obtain rfl := empty_of (s := D) (by omega)
                have HOf : Hid (dOk s.data.toList = false) := hide (by
                  have hm : dMag s.data.toList = 0 := by rw [← HDD.out.2]; rfl
                  rw [HO.out, HFt.out]; simp [hm])
                have HR := hide (HR0.out.setX false ⟨#[]⟩ 0)
                go_wp2_with fail
                (try simp only [Exit.inBlock, Exit.then])
                refine bodyPost_ret (decResult2 rfl _ _ w.heap.size false ⟨#[]⟩ 0 _ rfl rfl HR.out.x) rfl ?_
                exact ⟨HR.out.bel, .inr ⟨HOf.out, rfl⟩⟩
          · have hA1i : ¬ (1 : Int) < (T0.size : Int) := by omega
            have HFt : Hid (dForm s.data.toList = true) := hide (by rw [HFm.out]; simp [hA0, hA1])
            go_wp2_with fail
            refine (plainD_any _ _).mono ?_
            rintro e w5 ⟨rfl, rfl⟩
            obtain ⟨D, hD⟩ : ∃ D, mkB ((T0 ++ (⟨#[]⟩ : ByteArray)).data.toList.dropWhile (· == 48)) = D := ⟨_, rfl⟩
            have HDD : Hid (Canon D.data.toList ∧ valL D.data.toList = dMag s.data.toList) := hide (by
              have e : (T0 ++ (⟨#[]⟩ : ByteArray)).data.toList = dWhole s.data.toList ++ dPart s.data.toList := by rw [HWh.out, HPa.out]; simp
              have := strip_val _ (dForm_dig HFt.out)
              rw [← e] at this
              rw [← hD]
              refine ⟨this.1, this.2.trans ?_⟩
              rw [e]; rfl)
            rw [hD]
            clear hD
            have HR0 := hide (EN.out.setR12 D (⟨#[]⟩ : ByteArray).size)
            by_cases hd0 : 0 < D.size
            · have heD := isEmpty_of hd0
              have HI : Hid (dOk s.data.toList = true ∧ ExI (dVal s.data.toList) true D) := hide (by
                have hl := len_size D
                have hm : dMag s.data.toList ≠ 0 := fun h => by
                  rw [canon_zero HDD.out.1 (by rw [HDD.out.2, h])] at hl; simp at hl; omega
                refine ⟨by rw [HO.out, HFt.out]; simp [hm], HDD.out.1, ?_, ?_⟩
                · rw [HDD.out.2, HVal.out, Int.natAbs_neg, Int.natAbs_natCast]
                · rw [HVal.out]; exact (decide_eq_true (by omega)).symm)
              clear hd0
              have HR := hide (HR0.out.setX true D (⟨#[]⟩ : ByteArray).size)
              go_wp2_with fail
              (try simp only [Exit.inBlock, Exit.then])
              refine bodyPost_ret (decResult2 rfl _ _ w.heap.size true D (⟨#[]⟩ : ByteArray).size _ rfl rfl HR.out.x) rfl ?_
              exact ⟨HR.out.bel, .inl ⟨HI.out.1, _, _, by rw [HPa.out]; rfl, HI.out.2⟩⟩
            · obtain rfl := empty_of (s := D) (by omega)
              have HOf : Hid (dOk s.data.toList = false) := hide (by
                have hm : dMag s.data.toList = 0 := by rw [← HDD.out.2]; rfl
                rw [HO.out, HFt.out]; simp [hm])
              have HR := hide (HR0.out.setX false ⟨#[]⟩ 0)
              go_wp2_with fail
              (try simp only [Exit.inBlock, Exit.then])
              refine bodyPost_ret (decResult2 rfl _ _ w.heap.size false ⟨#[]⟩ 0 _ rfl rfl HR.out.x) rfl ?_
              exact ⟨HR.out.bel, .inr ⟨HOf.out, rfl⟩⟩
        · have HFf : Hid (dForm s.data.toList = false) := hide (by rw [HFm.out]; simp [hA0])
          obtain rfl := empty_of (s := T0) (by omega)
          have HOf : Hid (dOk s.data.toList = false) := hide (by rw [HO.out, HFf.out]; rfl)
          have HR := hide (EN.out.setX false ⟨#[]⟩ 0)
          go_wp2_with fail
          (try simp only [Exit.inBlock, Exit.then])
          refine bodyPost_ret (decResult2 rfl _ _ w.heap.size false ⟨#[]⟩ 0 _ rfl rfl HR.out.x) rfl ?_
          exact ⟨HR.out.bel, .inr ⟨HOf.out, rfl⟩⟩
  · have hr := dRest_pos (s := s) (fun h0 h => hsg ⟨h0, h⟩)
    obtain ⟨hr1, hr2⟩ := hr
    obtain ⟨T0, hT0⟩ : ∃ T0, s = T0 := ⟨_, rfl⟩
    have hsc : (¬ (0 : Int) < (s.size : Int)) ∨ ∃ h0 : 0 < s.size, (0 : Int) < (s.size : Int) ∧ ((s[0].toNat : Int) == 45) = false := by
      by_cases h0 : 0 < s.size
      · refine .inr ⟨h0, by omega, ?_⟩
        simp only [beq_eq_false_iff_ne, ne_eq]; intro h; exact hsg ⟨h0, byte_of (by show _ = 45; omega)⟩
      · exact .inl (by omega)
    have hTz : s.size ≤ 1000 := hs
    have HRest := hide hr1
    have HO : Hid (dOk s.data.toList = (dForm s.data.toList && !(false && decide (dMag s.data.toList = 0)))) := hide (by rw [← hr2]; rfl)
    have HVal : Hid (dVal s.data.toList = (dMag s.data.toList : Int)) := hide (by unfold dVal; rw [hr2]; rfl)
    clear hr1 hr2 hT0 hsg T0
    rcases hsc with hs0 | ⟨hs0, hs0i, hs4⟩
    · obtain rfl := empty_of (s := s) (by omega)
      have HOf : Hid (dOk (⟨#[]⟩ : ByteArray).data.toList = false) := hide rfl
      clear HRest HO HVal hs0 hTz
      have E3 := dec_two w 71 false false ⟨#[]⟩ ⟨#[]⟩ 0 0
      have EN : Hid (DEnv 71 false ⟨#[]⟩ 0 false ⟨#[]⟩ 0 w ((w.alloc (.cells #[.bool false, .string ⟨#[]⟩, .int .i64 0] 71)).alloc (.cells #[.bool false, .string ⟨#[]⟩, .int .i64 0] 71))) := hide ⟨E3.1, E3.2.1, E3.2.2⟩
      obtain ⟨W3, hW3⟩ : ∃ W3, (w.alloc (.cells #[.bool false, .string ⟨#[]⟩, .int .i64 0] 71)).alloc (.cells #[.bool false, .string ⟨#[]⟩, .int .i64 0] 71) = W3 := ⟨_, rfl⟩
      rw [hW3] at EN
      have HW3 := hide hW3
      clear E3 hW3
      go_enter Tryz.func41, Tryz.ntmps41
      go_wp2_with fail
      rw [HW3.out]
      obtain ⟨a0, a1, a2⟩ := EN.out.x.cells
      have f0 := EN.out.x.frozen 0
      have f1 := EN.out.x.frozen 1
      have f2 := EN.out.x.frozen 2
      go_loop [6] (fun v => v = .int .i64 0) (fun v => 0)
      case atStart => exact rfl
      case round =>
        obtain rfl := hrel
        have HR := hide (EN.out.setX false ⟨#[]⟩ 0)
        go_wp2_with fail
        (try simp only [Exit.inBlock, Exit.then])
        refine bodyPost_ret (decResult2 rfl _ _ w.heap.size false ⟨#[]⟩ 0 _ rfl rfl HR.out.x) rfl ?_
        exact ⟨HR.out.bel, .inr ⟨HOf.out, rfl⟩⟩
    · skip
      have hlT := len_size s
      have HDW := hide (dotAt_dw s.data.toList)
      clear hlT
      have E3 := dec_two w 71 false false ⟨#[]⟩ ⟨#[]⟩ 0 0
      have EN : Hid (DEnv 71 false ⟨#[]⟩ 0 false ⟨#[]⟩ 0 w ((w.alloc (.cells #[.bool false, .string ⟨#[]⟩, .int .i64 0] 71)).alloc (.cells #[.bool false, .string ⟨#[]⟩, .int .i64 0] 71))) := hide ⟨E3.1, E3.2.1, E3.2.2⟩
      obtain ⟨W3, hW3⟩ : ∃ W3, (w.alloc (.cells #[.bool false, .string ⟨#[]⟩, .int .i64 0] 71)).alloc (.cells #[.bool false, .string ⟨#[]⟩, .int .i64 0] 71) = W3 := ⟨_, rfl⟩
      rw [hW3] at EN
      have HW3 := hide hW3
      clear E3 hW3
      go_enter Tryz.func41, Tryz.ntmps41
      go_wp2_with fail
      rw [HW3.out]
      obtain ⟨a0, a1, a2⟩ := EN.out.x.cells
      obtain ⟨y0, y1, y2⟩ := EN.out.r.cells
      have f0 := EN.out.x.frozen 0
      have f1 := EN.out.x.frozen 1
      have f2 := EN.out.x.frozen 2
      have g0 := EN.out.r.frozen 0
      have g1 := EN.out.r.frozen 1
      have g2 := EN.out.r.frozen 2
      go_loop [6] (fun v => ∃ k : Nat, k ≤ s.size ∧ v = .int .i64 (k : Int) ∧ Hid ((s.data.toList.takeWhile digB) = s.data.toList.take k ++ ((s.data.toList.drop k).takeWhile digB) ∧ s.data.toList.dropWhile digB = (s.data.toList.drop k).dropWhile digB)) (fun v => s.size - (intOf v).toNat)
      case atStart => exact ⟨0, by omega, rfl, hide ⟨by simp, by simp⟩⟩
      case round =>
        obtain ⟨k, hk, rfl, HK⟩ := hrel
        have hki : (k : Int) ≤ (s.size : Int) := by omega
        by_cases hlt : k < s.size
        · have hlti : (k : Int) < (s.size : Int) := by omega
          have hwk : IntKind.i64.wrap ((k : Int) + 1) = (k : Int) + 1 := IntWalk.i64_in _ (by omega)
          have HDB := hide (drop_byte s k hlt)
          cases hdg : digB s[k]
          · skip
            have HTK : Hid (s.data.toList.takeWhile digB = s.data.toList.take k ∧ s.data.toList.dropWhile digB = s[k] :: s.data.toList.drop (k + 1)) := hide (by
              refine ⟨?_, ?_⟩
              · rw [HK.out.1, HDB.out, List.takeWhile_cons, hdg]; simp
              · rw [HK.out.2, HDB.out, List.dropWhile_cons, hdg]; simp)
            obtain ⟨A, hA⟩ : ∃ A, s.extract 0 k = A := ⟨_, rfl⟩
            have HA : Hid (A.data.toList = s.data.toList.takeWhile digB) := hide (by
              rw [← hA, HTK.out.1, ByteArray.data_extract, Array.toList_extract, List.extract_eq_take_drop]; rfl)
            have hAs : A.size ≤ 1000 := by rw [← hA, ByteArray.size_extract]; omega
            by_cases hdt : s[k] = 46
            · have hd2 : ((s[k].toNat : Int) != 46) = false := by rw [hdt]; rfl
              have HDot : Hid (dotAt s.data.toList = (A.data.toList, s.data.toList.drop (k + 1), true)) := hide (by rw [((HDW.out.2 _ _ HTK.out.2).1 hdt), HA.out])
              clear hdt
              by_cases hend : k + 1 = s.size
              · have hendi : (k : Int) + 1 = (s.size : Int) := by omega
                have HOx : Hid (dOk s.data.toList = false) := hide (by
                  rw [HO.out]
                  have hl := len_size s
                  have : dForm s.data.toList = false := by
                    unfold dForm dDot dPart; rw [HRest.out, HDot.out]
                    rw [List.drop_of_length_le (by omega)]; simp [isNumL]
                  rw [this]; rfl)
                clear hend
                skip
                have HOf : Hid (dOk s.data.toList = false) := hide (by exact HOx.out)
                have HR := hide (EN.out.setX false ⟨#[]⟩ 0)
                go_wp2_with (go_at_call 103; refine (digitR_any _ _).mono ?_; rintro e w' ⟨rfl, rfl⟩)
                (try simp only [Exit.inBlock, Exit.then])
                refine bodyPost_ret (decResult2 rfl _ _ w.heap.size false ⟨#[]⟩ 0 _ rfl rfl HR.out.x) rfl ?_
                exact ⟨HR.out.bel, .inr ⟨HOf.out, rfl⟩⟩
              · have hendi : ((k : Int) + 1 == (s.size : Int)) = false := by simp; omega
                have hk1 : (k : Int) + 1 ≤ (s.size : Int) := by omega
                have hkn : ((k : Int) + 1).toNat = k + 1 := by omega
                have hk0 : (0 : Int) ≤ (k : Int) + 1 := by omega
                obtain ⟨P, hP⟩ : ∃ P, s.extract (k + 1) s.size = P := ⟨_, rfl⟩
                have HP : Hid (P.data.toList = s.data.toList.drop (k + 1)) := hide (by rw [← hP, Lib.extract_to_end])
                have hPs : P.size ≤ 1000 := by rw [← hP, ByteArray.size_extract]; omega
                have hP0 : 0 < P.size := by rw [← hP, ByteArray.size_extract]; omega
                go_wp2_with (go_at_call 103; refine (digitR_any _ _).mono ?_; rintro e w' ⟨rfl, rfl⟩)
                (try rw [hP])
                (try rw [hA])
                clear hA hP hendi hk1 hkn hk0 hwk hend
                go_loop [60] (fun v => ∃ j : Nat, j ≤ P.size ∧ v = .int .i64 (j : Int) ∧ Hid (P.data.toList.all digB = (P.data.toList.drop j).all digB)) (fun v => P.size - (intOf v).toNat)
                case atStart => exact ⟨0, by omega, rfl, hide (by simp)⟩
                case round =>
                  obtain ⟨j, hj, rfl, HJ⟩ := hrel
                  have hji : (j : Int) ≤ (P.size : Int) := by omega
                  by_cases hjl : j < P.size
                  · have hjli : (j : Int) < (P.size : Int) := by omega
                    have hwj : IntKind.i64.wrap ((j : Int) + 1) = (j : Int) + 1 := IntWalk.i64_in _ (by omega)
                    have HJB := hide (drop_byte P j hjl)
                    cases hdj : digB P[j]
                    · skip
                      have HOx : Hid (dOk s.data.toList = false) := hide (by
                        rw [HO.out]
                        have : dForm s.data.toList = false := by
                          unfold dForm dDot dPart; rw [HRest.out, HDot.out]
                          have h2 : isNumL (s.data.toList.drop (k + 1)) = false := isNumL_bad (by rw [← HP.out, HJ.out, HJB.out, List.all_cons, hdj]; rfl)
                          simp [h2]
                        rw [this]; rfl)
                      have HOf : Hid (dOk s.data.toList = false) := hide (by exact HOx.out)
                      have HR := hide (EN.out.setX false ⟨#[]⟩ 0)
                      go_wp2_with (go_at_call 103; refine (digitR_any _ _).mono ?_; rintro e w' ⟨rfl, rfl⟩)
                      (try simp only [Exit.inBlock, Exit.then])
                      refine bodyPost_ret (decResult2 rfl _ _ w.heap.size false ⟨#[]⟩ 0 _ rfl rfl HR.out.x) rfl ?_
                      exact ⟨HR.out.bel, .inr ⟨HOf.out, rfl⟩⟩
                    · have HJ2 : Hid (P.data.toList.all digB = (P.data.toList.drop (j + 1)).all digB) := hide (by rw [HJ.out, HJB.out, List.all_cons, hdj]; rfl)
                      go_wp2_with (go_at_call 103; refine (digitR_any _ _).mono ?_; rintro e w' ⟨rfl, rfl⟩)
                      go_round
                      case rel => exact ⟨j + 1, by omega, by go_num, HJ2⟩
                      case measure => simp [intOf]; omega
                  · have hjli : ¬ (j : Int) < (P.size : Int) := by omega
                    have HAll : Hid (P.data.toList.all digB = true) := hide (by rw [HJ.out, List.drop_of_length_le (by rw [len_size]; omega)]; rfl)
                    have HWh : Hid (dWhole s.data.toList = A.data.toList) := hide (by unfold dWhole; rw [HRest.out, HDot.out])
                    have HPa : Hid (dPart s.data.toList = P.data.toList) := hide (by unfold dPart; rw [HRest.out, HDot.out, HP.out])
                    have HFm : Hid (dForm s.data.toList = (decide (0 < A.size) && !(decide (1 < A.size) && (A.data.toList.getD 0 0 == 48)))) := hide (by
                      unfold dForm
                      rw [HWh.out, HPa.out, isNumL_good (s := A) (by rw [HA.out]; exact take_all _), isNumL_good HAll.out, len_size]
                      simp [hP0])
                    clear HJ hj hji hP0
                    by_cases hA0 : 0 < A.size
                    · have heA := isEmpty_of hA0
                      by_cases hA1 : 1 < A.size
                      · have hA1i : (1 : Int) < (A.size : Int) := by omega
                        by_cases h48 : A[0] = 48
                        · have h4 : ((A[0].toNat : Int) == 48) = true := by rw [h48]; rfl
                          have H48 : Hid ((A.data.toList.getD 0 0 == 48) = true) := hide (by rw [getD_get0 hA0, h48]; rfl)
                          clear h48
                          have HOf : Hid (dOk s.data.toList = false) := hide (by rw [HO.out, HFm.out, H48.out]; simp [hA1])
                          have HR := hide (EN.out.setX false ⟨#[]⟩ 0)
                          go_wp2_with fail
                          (try simp only [Exit.inBlock, Exit.then])
                          refine bodyPost_ret (decResult2 rfl _ _ w.heap.size false ⟨#[]⟩ 0 _ rfl rfl HR.out.x) rfl ?_
                          exact ⟨HR.out.bel, .inr ⟨HOf.out, rfl⟩⟩
                        · have h4 : ((A[0].toNat : Int) == 48) = false := by
                            simp only [beq_eq_false_iff_ne, ne_eq]; intro h; exact h48 (byte_of (by show _ = 48; omega))
                          have H48 : Hid ((A.data.toList.getD 0 0 == 48) = false) := hide (by rw [getD_get0 hA0]; exact beq_false_of_ne h48)
                          clear h48
                          have HFt : Hid (dForm s.data.toList = true) := hide (by rw [HFm.out, H48.out]; simp [hA0])
                          go_wp2_with fail
                          refine (plainD_any _ _).mono ?_
                          rintro e w5 ⟨rfl, rfl⟩
                          obtain ⟨D, hD⟩ : ∃ D, mkB ((A ++ P).data.toList.dropWhile (· == 48)) = D := ⟨_, rfl⟩
                          have HDD : Hid (Canon D.data.toList ∧ valL D.data.toList = dMag s.data.toList) := hide (by
                            have e : (A ++ P).data.toList = dWhole s.data.toList ++ dPart s.data.toList := by rw [HWh.out, HPa.out]; simp
                            have := strip_val _ (dForm_dig HFt.out)
                            rw [← e] at this
                            rw [← hD]
                            refine ⟨this.1, this.2.trans ?_⟩
                            rw [e]; rfl)
                          rw [hD]
                          clear hD
                          have HR0 := hide (EN.out.setR12 D P.size)
                          by_cases hd0 : 0 < D.size
                          · have heD := isEmpty_of hd0
                            have HI : Hid (dOk s.data.toList = true ∧ ExI (dVal s.data.toList) false D) := hide (by
                              have hl := len_size D
                              have hm : dMag s.data.toList ≠ 0 := fun h => by
                                rw [canon_zero HDD.out.1 (by rw [HDD.out.2, h])] at hl; simp at hl; omega
                              refine ⟨by rw [HO.out, HFt.out]; simp [hm], HDD.out.1, ?_, ?_⟩
                              · rw [HDD.out.2, HVal.out, Int.natAbs_natCast]
                              · rw [HVal.out]; exact (decide_eq_false (by omega)).symm)
                            clear hd0
                            have HR := hide (HR0.out.setX false D P.size)
                            go_wp2_with fail
                            (try simp only [Exit.inBlock, Exit.then])
                            refine bodyPost_ret (decResult2 rfl _ _ w.heap.size false D P.size _ rfl rfl HR.out.x) rfl ?_
                            exact ⟨HR.out.bel, .inl ⟨HI.out.1, _, _, by rw [HPa.out, len_size]; rfl, HI.out.2⟩⟩
                          · obtain rfl := empty_of (s := D) (by omega)
                            have HI : Hid (dOk s.data.toList = true ∧ ExI (dVal s.data.toList) false ⟨#[]⟩) := hide (by
                              have hm : dMag s.data.toList = 0 := by rw [← HDD.out.2]; rfl
                              refine ⟨by rw [HO.out, HFt.out]; rfl, HDD.out.1, ?_, ?_⟩
                              · rw [HDD.out.2, HVal.out, Int.natAbs_natCast]
                              · rw [HVal.out, hm]; rfl)
                            have HR := hide (HR0.out.setX false ⟨#[]⟩ P.size)
                            go_wp2_with fail
                            (try simp only [Exit.inBlock, Exit.then])
                            refine bodyPost_ret (decResult2 rfl _ _ w.heap.size false ⟨#[]⟩ P.size _ rfl rfl HR.out.x) rfl ?_
                            exact ⟨HR.out.bel, .inl ⟨HI.out.1, _, _, by rw [HPa.out, len_size]; rfl, HI.out.2⟩⟩
                      · have hA1i : ¬ (1 : Int) < (A.size : Int) := by omega
                        have HFt : Hid (dForm s.data.toList = true) := hide (by rw [HFm.out]; simp [hA0, hA1])
                        go_wp2_with fail
                        refine (plainD_any _ _).mono ?_
                        rintro e w5 ⟨rfl, rfl⟩
                        obtain ⟨D, hD⟩ : ∃ D, mkB ((A ++ P).data.toList.dropWhile (· == 48)) = D := ⟨_, rfl⟩
                        have HDD : Hid (Canon D.data.toList ∧ valL D.data.toList = dMag s.data.toList) := hide (by
                          have e : (A ++ P).data.toList = dWhole s.data.toList ++ dPart s.data.toList := by rw [HWh.out, HPa.out]; simp
                          have := strip_val _ (dForm_dig HFt.out)
                          rw [← e] at this
                          rw [← hD]
                          refine ⟨this.1, this.2.trans ?_⟩
                          rw [e]; rfl)
                        rw [hD]
                        clear hD
                        have HR0 := hide (EN.out.setR12 D P.size)
                        by_cases hd0 : 0 < D.size
                        · have heD := isEmpty_of hd0
                          have HI : Hid (dOk s.data.toList = true ∧ ExI (dVal s.data.toList) false D) := hide (by
                            have hl := len_size D
                            have hm : dMag s.data.toList ≠ 0 := fun h => by
                              rw [canon_zero HDD.out.1 (by rw [HDD.out.2, h])] at hl; simp at hl; omega
                            refine ⟨by rw [HO.out, HFt.out]; simp [hm], HDD.out.1, ?_, ?_⟩
                            · rw [HDD.out.2, HVal.out, Int.natAbs_natCast]
                            · rw [HVal.out]; exact (decide_eq_false (by omega)).symm)
                          clear hd0
                          have HR := hide (HR0.out.setX false D P.size)
                          go_wp2_with fail
                          (try simp only [Exit.inBlock, Exit.then])
                          refine bodyPost_ret (decResult2 rfl _ _ w.heap.size false D P.size _ rfl rfl HR.out.x) rfl ?_
                          exact ⟨HR.out.bel, .inl ⟨HI.out.1, _, _, by rw [HPa.out, len_size]; rfl, HI.out.2⟩⟩
                        · obtain rfl := empty_of (s := D) (by omega)
                          have HI : Hid (dOk s.data.toList = true ∧ ExI (dVal s.data.toList) false ⟨#[]⟩) := hide (by
                            have hm : dMag s.data.toList = 0 := by rw [← HDD.out.2]; rfl
                            refine ⟨by rw [HO.out, HFt.out]; rfl, HDD.out.1, ?_, ?_⟩
                            · rw [HDD.out.2, HVal.out, Int.natAbs_natCast]
                            · rw [HVal.out, hm]; rfl)
                          have HR := hide (HR0.out.setX false ⟨#[]⟩ P.size)
                          go_wp2_with fail
                          (try simp only [Exit.inBlock, Exit.then])
                          refine bodyPost_ret (decResult2 rfl _ _ w.heap.size false ⟨#[]⟩ P.size _ rfl rfl HR.out.x) rfl ?_
                          exact ⟨HR.out.bel, .inl ⟨HI.out.1, _, _, by rw [HPa.out, len_size]; rfl, HI.out.2⟩⟩
                    · have HFf : Hid (dForm s.data.toList = false) := hide (by rw [HFm.out]; simp [hA0])
                      obtain rfl := empty_of (s := A) (by omega)
                      have HOf : Hid (dOk s.data.toList = false) := hide (by rw [HO.out, HFf.out]; rfl)
                      have HR := hide (EN.out.setX false ⟨#[]⟩ 0)
                      go_wp2_with fail
                      (try simp only [Exit.inBlock, Exit.then])
                      refine bodyPost_ret (decResult2 rfl _ _ w.heap.size false ⟨#[]⟩ 0 _ rfl rfl HR.out.x) rfl ?_
                      exact ⟨HR.out.bel, .inr ⟨HOf.out, rfl⟩⟩
            · have hd2 : ((s[k].toNat : Int) != 46) = true := by
                simp only [bne_iff_ne, ne_eq]; intro h; exact hdt (byte_of (by show _ = 46; omega))
              have HOx : Hid (dOk s.data.toList = false) := hide (by
                rw [HO.out]
                have : dForm s.data.toList = false := by
                  unfold dForm dWhole; rw [HRest.out, isNumL_bad ((HDW.out.2 _ _ HTK.out.2).2 hdt)]; rfl
                rw [this]; rfl)
              clear hdt
              have HOf : Hid (dOk s.data.toList = false) := hide (by exact HOx.out)
              have HR := hide (EN.out.setX false ⟨#[]⟩ 0)
              go_wp2_with (go_at_call 103; refine (digitR_any _ _).mono ?_; rintro e w' ⟨rfl, rfl⟩)
              (try simp only [Exit.inBlock, Exit.then])
              refine bodyPost_ret (decResult2 rfl _ _ w.heap.size false ⟨#[]⟩ 0 _ rfl rfl HR.out.x) rfl ?_
              exact ⟨HR.out.bel, .inr ⟨HOf.out, rfl⟩⟩
          · have HK2 : Hid ((s.data.toList.takeWhile digB) = s.data.toList.take (k + 1) ++ ((s.data.toList.drop (k + 1)).takeWhile digB) ∧ s.data.toList.dropWhile digB = (s.data.toList.drop (k + 1)).dropWhile digB) := hide (by
              refine ⟨?_, ?_⟩
              · rw [HK.out.1, HDB.out, List.takeWhile_cons, hdg]
                have hl := len_size s
                rw [List.take_succ_eq_append_getElem (by omega)]
                simp; rfl
              · rw [HK.out.2, HDB.out, List.dropWhile_cons, hdg]; simp)
            go_wp2_with (go_at_call 103; refine (digitR_any _ _).mono ?_; rintro e w' ⟨rfl, rfl⟩)
            go_round
            case rel => exact ⟨k + 1, by omega, by go_num, HK2⟩
            case measure => simp [intOf]; omega
        · have hlti : ¬ (k : Int) < (s.size : Int) := by omega
          obtain rfl : k = s.size := by omega
          have hX : s.extract 0 s.size = s := by
            rw [← mkB_list (s.extract 0 s.size), ByteArray.data_extract, Array.toList_extract, List.extract_eq_take_drop]
            have hl := len_size s
            rw [List.drop_zero, List.take_of_length_le (by omega), mkB_list]
          have HDot : Hid (dotAt s.data.toList = (s.data.toList, [], false)) := hide (HDW.out.1 (by rw [HK.out.2, List.drop_of_length_le (by rw [len_size]; omega)]; rfl))
          have HAll : Hid (s.data.toList.all digB = true) := hide (by
            have h := HK.out.1
            have hl := len_size s
            rw [List.drop_of_length_le (by omega), List.take_of_length_le (by omega)] at h
            simp only [List.takeWhile_nil, List.append_nil] at h
            rw [← h]; exact take_all _)
          have HWh : Hid (dWhole s.data.toList = s.data.toList) := hide (by unfold dWhole; rw [HRest.out, HDot.out])
          have HPa : Hid (dPart s.data.toList = (⟨#[]⟩ : ByteArray).data.toList) := hide (by unfold dPart; rw [HRest.out, HDot.out])
          have HFm : Hid (dForm s.data.toList = (decide (0 < s.size) && !(decide (1 < s.size) && (s.data.toList.getD 0 0 == 48)))) := hide (by
            have hdd : dDot s.data.toList = false := by unfold dDot; rw [HRest.out, HDot.out]
            unfold dForm
            rw [HWh.out, hdd, isNumL_good HAll.out, len_size]
            simp)
          clear HK hk hki
          by_cases hA0 : 0 < s.size
          · have heA := isEmpty_of hA0
            by_cases hA1 : 1 < s.size
            · have hA1i : (1 : Int) < (s.size : Int) := by omega
              by_cases h48 : s[0] = 48
              · have h4 : ((s[0].toNat : Int) == 48) = true := by rw [h48]; rfl
                have H48 : Hid ((s.data.toList.getD 0 0 == 48) = true) := hide (by rw [getD_get0 hA0, h48]; rfl)
                clear h48
                have HOf : Hid (dOk s.data.toList = false) := hide (by rw [HO.out, HFm.out, H48.out]; simp [hA1])
                have HR := hide (EN.out.setX false ⟨#[]⟩ 0)
                go_wp2_with fail
                (try simp only [Exit.inBlock, Exit.then])
                refine bodyPost_ret (decResult2 rfl _ _ w.heap.size false ⟨#[]⟩ 0 _ rfl rfl HR.out.x) rfl ?_
                exact ⟨HR.out.bel, .inr ⟨HOf.out, rfl⟩⟩
              · have h4 : ((s[0].toNat : Int) == 48) = false := by
                  simp only [beq_eq_false_iff_ne, ne_eq]; intro h; exact h48 (byte_of (by show _ = 48; omega))
                have H48 : Hid ((s.data.toList.getD 0 0 == 48) = false) := hide (by rw [getD_get0 hA0]; exact beq_false_of_ne h48)
                clear h48
                have HFt : Hid (dForm s.data.toList = true) := hide (by rw [HFm.out, H48.out]; simp [hA0])
                go_wp2_with fail
                refine (plainD_any _ _).mono ?_
                rintro e w5 ⟨rfl, rfl⟩
                obtain ⟨D, hD⟩ : ∃ D, mkB ((s ++ (⟨#[]⟩ : ByteArray)).data.toList.dropWhile (· == 48)) = D := ⟨_, rfl⟩
                have HDD : Hid (Canon D.data.toList ∧ valL D.data.toList = dMag s.data.toList) := hide (by
                  have e : (s ++ (⟨#[]⟩ : ByteArray)).data.toList = dWhole s.data.toList ++ dPart s.data.toList := by rw [HWh.out, HPa.out]; simp
                  have := strip_val _ (dForm_dig HFt.out)
                  rw [← e] at this
                  rw [← hD]
                  refine ⟨this.1, this.2.trans ?_⟩
                  rw [e]; rfl)
                rw [hD]
                clear hD
                have HR0 := hide (EN.out.setR12 D (⟨#[]⟩ : ByteArray).size)
                by_cases hd0 : 0 < D.size
                · have heD := isEmpty_of hd0
                  have HI : Hid (dOk s.data.toList = true ∧ ExI (dVal s.data.toList) false D) := hide (by
                    have hl := len_size D
                    have hm : dMag s.data.toList ≠ 0 := fun h => by
                      rw [canon_zero HDD.out.1 (by rw [HDD.out.2, h])] at hl; simp at hl; omega
                    refine ⟨by rw [HO.out, HFt.out]; simp [hm], HDD.out.1, ?_, ?_⟩
                    · rw [HDD.out.2, HVal.out, Int.natAbs_natCast]
                    · rw [HVal.out]; exact (decide_eq_false (by omega)).symm)
                  clear hd0
                  have HR := hide (HR0.out.setX false D (⟨#[]⟩ : ByteArray).size)
                  go_wp2_with fail
                  (try simp only [Exit.inBlock, Exit.then])
                  refine bodyPost_ret (decResult2 rfl _ _ w.heap.size false D (⟨#[]⟩ : ByteArray).size _ rfl rfl HR.out.x) rfl ?_
                  exact ⟨HR.out.bel, .inl ⟨HI.out.1, _, _, by rw [HPa.out]; rfl, HI.out.2⟩⟩
                · obtain rfl := empty_of (s := D) (by omega)
                  have HI : Hid (dOk s.data.toList = true ∧ ExI (dVal s.data.toList) false ⟨#[]⟩) := hide (by
                    have hm : dMag s.data.toList = 0 := by rw [← HDD.out.2]; rfl
                    refine ⟨by rw [HO.out, HFt.out]; rfl, HDD.out.1, ?_, ?_⟩
                    · rw [HDD.out.2, HVal.out, Int.natAbs_natCast]
                    · rw [HVal.out, hm]; rfl)
                  have HR := hide (HR0.out.setX false ⟨#[]⟩ (⟨#[]⟩ : ByteArray).size)
                  go_wp2_with fail
                  (try simp only [Exit.inBlock, Exit.then])
                  refine bodyPost_ret (decResult2 rfl _ _ w.heap.size false ⟨#[]⟩ (⟨#[]⟩ : ByteArray).size _ rfl rfl HR.out.x) rfl ?_
                  exact ⟨HR.out.bel, .inl ⟨HI.out.1, _, _, by rw [HPa.out]; rfl, HI.out.2⟩⟩
            · have hA1i : ¬ (1 : Int) < (s.size : Int) := by omega
              have HFt : Hid (dForm s.data.toList = true) := hide (by rw [HFm.out]; simp [hA0, hA1])
              go_wp2_with fail
              refine (plainD_any _ _).mono ?_
              rintro e w5 ⟨rfl, rfl⟩
              obtain ⟨D, hD⟩ : ∃ D, mkB ((s ++ (⟨#[]⟩ : ByteArray)).data.toList.dropWhile (· == 48)) = D := ⟨_, rfl⟩
              have HDD : Hid (Canon D.data.toList ∧ valL D.data.toList = dMag s.data.toList) := hide (by
                have e : (s ++ (⟨#[]⟩ : ByteArray)).data.toList = dWhole s.data.toList ++ dPart s.data.toList := by rw [HWh.out, HPa.out]; simp
                have := strip_val _ (dForm_dig HFt.out)
                rw [← e] at this
                rw [← hD]
                refine ⟨this.1, this.2.trans ?_⟩
                rw [e]; rfl)
              rw [hD]
              clear hD
              have HR0 := hide (EN.out.setR12 D (⟨#[]⟩ : ByteArray).size)
              by_cases hd0 : 0 < D.size
              · have heD := isEmpty_of hd0
                have HI : Hid (dOk s.data.toList = true ∧ ExI (dVal s.data.toList) false D) := hide (by
                  have hl := len_size D
                  have hm : dMag s.data.toList ≠ 0 := fun h => by
                    rw [canon_zero HDD.out.1 (by rw [HDD.out.2, h])] at hl; simp at hl; omega
                  refine ⟨by rw [HO.out, HFt.out]; simp [hm], HDD.out.1, ?_, ?_⟩
                  · rw [HDD.out.2, HVal.out, Int.natAbs_natCast]
                  · rw [HVal.out]; exact (decide_eq_false (by omega)).symm)
                clear hd0
                have HR := hide (HR0.out.setX false D (⟨#[]⟩ : ByteArray).size)
                go_wp2_with fail
                (try simp only [Exit.inBlock, Exit.then])
                refine bodyPost_ret (decResult2 rfl _ _ w.heap.size false D (⟨#[]⟩ : ByteArray).size _ rfl rfl HR.out.x) rfl ?_
                exact ⟨HR.out.bel, .inl ⟨HI.out.1, _, _, by rw [HPa.out]; rfl, HI.out.2⟩⟩
              · obtain rfl := empty_of (s := D) (by omega)
                have HI : Hid (dOk s.data.toList = true ∧ ExI (dVal s.data.toList) false ⟨#[]⟩) := hide (by
                  have hm : dMag s.data.toList = 0 := by rw [← HDD.out.2]; rfl
                  refine ⟨by rw [HO.out, HFt.out]; rfl, HDD.out.1, ?_, ?_⟩
                  · rw [HDD.out.2, HVal.out, Int.natAbs_natCast]
                  · rw [HVal.out, hm]; rfl)
                have HR := hide (HR0.out.setX false ⟨#[]⟩ (⟨#[]⟩ : ByteArray).size)
                go_wp2_with fail
                (try simp only [Exit.inBlock, Exit.then])
                refine bodyPost_ret (decResult2 rfl _ _ w.heap.size false ⟨#[]⟩ (⟨#[]⟩ : ByteArray).size _ rfl rfl HR.out.x) rfl ?_
                exact ⟨HR.out.bel, .inl ⟨HI.out.1, _, _, by rw [HPa.out]; rfl, HI.out.2⟩⟩
          · have HFf : Hid (dForm s.data.toList = false) := hide (by rw [HFm.out]; simp [hA0])
            exact absurd hs0 hA0
end Go.Proofs.YtoieicdnehnacaaGreatDoor
