/- The program's reading of a decimal: exactOf. -/
import Derived.Test.YtoieicdnehnacaaGreatDoorSeqE
import Derived.Laws.ResultCell
set_option linter.unusedVariables false
set_option linter.unusedSimpArgs false
namespace Go.Proofs.YtoieicdnehnacaaGreatDoor
open Go.RowKit Go.Pw
theorem isNum_any (s : ByteArray) (w : World) (hs : s.size ≤ 1000000) : Calls Tryz.prog 96 #[.string s] w fun e w' => e = .returned (.bool (isNumL s.data.toList)) ∧ w = w' := by
  have HD := hide (fun W => digitsOf_any s W hs)
  have HV : Hid (isNumL s.data.toList = (decide (0 < s.size) && decide ((s.data.toList.takeWhile digB).length = s.size))) := hide (by rw [isNumL_take, len_size])
  obtain ⟨k, hk⟩ : ∃ k, (s.data.toList.takeWhile digB).length = k := ⟨_, rfl⟩
  rw [hk] at HV HD
  clear hk
  by_cases h0 : 0 < s.size
  · have he := isEmpty_of h0
    have HV2 : Hid (Value.bool ((k : Int) == (s.size : Int)) = .bool (isNumL s.data.toList)) := hide (by
      rw [HV.out]; simp only [h0, decide_true, Bool.true_and]
      congr 1
      rw [Bool.eq_iff_iff]; simp; omega)
    clear HV
    go_enter Tryz.func96, Tryz.ntmps96
    go_wp2_with fail
    refine (HD.out _).mono ?_
    rintro e w2 ⟨rfl, rfl⟩
    go_wp2_with fail
    go_ret
    exact ⟨by rw [← HV2.out]; rfl, rfl⟩
  · obtain rfl := empty_of (s := s) (by omega)
    have HV2 : Hid (isNumL (⟨#[]⟩ : ByteArray).data.toList = false) := hide rfl
    clear HV
    go_enter Tryz.func96, Tryz.ntmps96
    go_wp2_with fail
    go_ret
    exact ⟨by rw [HV2.out]; rfl, rfl⟩
theorem ex3Result {fn : Func} {p a b : Tmp} (h : fn.results = #[.cell p 63, .tmp a, .tmp b]) (tmps : Array Value) (w : World) (g : Nat) (s : Bool) (d : ByteArray) (va vb : Value)
    (hp : tmps.getD p undef = .pointer (some ⟨g, 0, none⟩)) (ha : tmps.getD a undef = va) (hb : tmps.getD b undef = vb) (hg : ExAt w g 63 s d) : (results fn tmps).run Tryz.prog w = .ok (.tuple #[.agg #[.bool s, .string d], va, vb]) w := by
  have hp' : tmps[p]?.getD undef = .pointer (some ⟨g, 0, none⟩) := by simpa using hp
  have ha' : tmps[a]?.getD undef = va := by simpa using ha
  have hb' : tmps[b]?.getD undef = vb := by simpa using hb
  simp [results, h, hp', ha', hb', asAddr, run_loadVar_row w g 63 63 #[.bool s, .string d] (0, 0) _ hg Tryz.underlying63 rfl info_ex, Sem.run_bind, Result.andThen]
set_option maxHeartbeats 4000000 in
set_option maxRecDepth 100000 in
theorem exactOf_any (s : ByteArray) (pl : Nat) (w : World) (hs : s.size ≤ 1000) (hp : pl ≤ 1000) :
    Calls Tryz.prog 35 #[.string s, .int .i64 (pl : Int)] w fun e w' => Below w.heap.size w w' ∧
      ((dOk s.data.toList = true ∧ ∃ b d, e = .returned (.tuple #[.agg #[.bool b, .string d], .int .i64 ((dPart s.data.toList).length : Int), .bool true]) ∧ ExI (dVal s.data.toList * (10 : Int) ^ (pl - (dPart s.data.toList).length)) b d) ∨
       (dOk s.data.toList = false ∧ e = .returned (.tuple #[.agg #[.bool false, .string ⟨#[]⟩], .int .i64 0, .bool false]))) := by
  have hls := len_size s
  have hrl := dRest_len s.data.toList
  have hpl := dParts_len s.data.toList
  have HP : Hid (∀ W : World, Calls Tryz.prog 94 #[.string s, .string ⟨#[45]⟩] W fun e w' => e = .returned (.tuple #[.string (mkB (dRest s.data.toList)), .bool (dNeg s.data.toList)]) ∧ W = w') := hide (fun W => (Tryz.strings_CutPrefix s ⟨#[45]⟩ W).mono fun e w' h => ⟨h.1, h.2.symm⟩)
  obtain ⟨T, hT⟩ : ∃ T, mkB (dRest s.data.toList) = T := ⟨_, rfl⟩
  have hTs : T.size = (dRest s.data.toList).length := by rw [← hT, mkB_size]
  have hTd : T.data.toList = dRest s.data.toList := by rw [← hT]; rfl
  rw [hT] at HP
  have HC : Hid (∀ V : World, Calls Tryz.prog 95 #[.string T, .string ⟨#[46]⟩] V fun e w' => (∃ n, w' = V.drewN n) ∧ e = .returned (.tuple #[.string (mkB (dWhole s.data.toList)), .string (mkB (dPart s.data.toList)), .bool (dDot s.data.toList)])) := hide (fun V => by
    have := cutDot_any T V (by omega)
    rw [hTd] at this
    exact this)
  obtain ⟨A, hA⟩ : ∃ A, mkB (dWhole s.data.toList) = A := ⟨_, rfl⟩
  obtain ⟨P, hP⟩ : ∃ P, mkB (dPart s.data.toList) = P := ⟨_, rfl⟩
  have hAs : A.size = (dWhole s.data.toList).length := by rw [← hA, mkB_size]
  have hPs : P.size = (dPart s.data.toList).length := by rw [← hP, mkB_size]
  have hAd : A.data.toList = dWhole s.data.toList := by rw [← hA]; rfl
  have hPd : P.data.toList = dPart s.data.toList := by rw [← hP]; rfl
  rw [hA, hP] at HC
  have HN1 := hide (fun V => isNum_any A V (by omega))
  have HN2 := hide (fun V => isNum_any P V (by omega))
  rw [hAd] at HN1
  rw [hPd] at HN2
  have HA0 : Hid (∀ h : 0 < A.size, (dWhole s.data.toList).getD 0 0 = A[0]) := hide (fun h => by rw [← hAd]; exact getD_get0 h)
  obtain ⟨n1, hn1⟩ : ∃ n1, isNumL (dWhole s.data.toList) = n1 := ⟨_, rfl⟩
  obtain ⟨n2, hn2⟩ : ∃ n2, isNumL (dPart s.data.toList) = n2 := ⟨_, rfl⟩
  obtain ⟨dd, hdd⟩ : ∃ dd, dDot s.data.toList = dd := ⟨_, rfl⟩
  obtain ⟨ng, hng⟩ : ∃ ng, dNeg s.data.toList = ng := ⟨_, rfl⟩
  have HF : Hid (dForm s.data.toList = (n1 && !(decide (1 < A.size) && ((dWhole s.data.toList).getD 0 0 == 48)) && !(dd && !n2))) := hide (by rw [← hn1, ← hn2, ← hdd, hAs]; rfl)
  have HO : Hid (dOk s.data.toList = (dForm s.data.toList && !(ng && decide (dMag s.data.toList = 0)))) := hide (by rw [← hng]; rfl)
  have HVal : Hid (dVal s.data.toList = if ng then -(dMag s.data.toList : Int) else (dMag s.data.toList : Int)) := hide (by rw [← hng]; rfl)
  obtain ⟨c, hc⟩ : ∃ c, pl - P.size = c := ⟨_, rfl⟩
  have hmx : max ((pl : Int) - (P.size : Int)) 0 = (c : Int) := by omega
  have HZ := hide (fun V => repeatOne_any 48 c V (by omega))
  obtain ⟨Z, hZ⟩ : ∃ Z, mkB (List.replicate c 48) = Z := ⟨_, rfl⟩
  rw [hZ] at HZ
  have hZs : Z.size = c := by rw [← hZ, mkB_size, List.length_replicate]
  have hAPZ : (A ++ P ++ Z).data.toList = (dWhole s.data.toList ++ dPart s.data.toList) ++ List.replicate c 48 := by
    rw [← hA, ← hP, ← hZ, mkB_app', mkB_app']; rfl
  have HQ : Hid (dForm s.data.toList = true → ∀ a : ByteArray, a.data.toList = (A ++ P ++ Z).data.toList.dropWhile (· == 48) → Canon a.data.toList ∧ valL a.data.toList = dMag s.data.toList * 10 ^ c) := hide (fun hf a ha => by
    rw [ha, hAPZ]
    obtain ⟨h1, h2⟩ := strip_val ((dWhole s.data.toList ++ dPart s.data.toList) ++ List.replicate c 48) (dig_append (dForm_dig hf) (by intro x hx; rw [List.eq_of_mem_replicate hx]; decide))
    refine ⟨h1, ?_⟩
    rw [h2, valL_append, valL_zeros, List.length_replicate]; rfl)
  have HT := hide (fun V => trimL_any (A ++ P ++ Z) V)
  have HPs := hide (show (dPart s.data.toList).length = P.size from hPs.symm)
  have hAz : A.size ≤ 1000 := by omega
  have hPz : P.size ≤ 1000 := by omega
  have hZz : Z.size ≤ 1000 := by omega
  have Hcc := hide hc
  rw [HPs.out]
  rw [Hcc.out]
  rw [hn1] at HN1
  rw [hn2] at HN2
  rw [hdd] at HC
  rw [hng] at HP
  have hcz : c ≤ 1000 := by omega
  clear hls hrl hpl hT hTs hTd hA hP hAs hPs hAd hPd hn1 hn2 hdd hng hZ hZs hAPZ HPs Hcc hc
  have E0 : ExAt (w.alloc (.cells #[.bool false, .string ⟨#[]⟩] 63)) w.heap.size 63 false ⟨#[]⟩ := heap_alloc_new _ _
  have HB := hide ((Below.refl w.heap.size w).alloc (Nat.le_refl _) (.cells #[.bool false, .string ⟨#[]⟩] 63))
  obtain ⟨w1, hw1⟩ : ∃ w1, w.alloc (.cells #[.bool false, .string ⟨#[]⟩] 63) = w1 := ⟨_, rfl⟩
  rw [hw1] at E0 HB
  have HW1 := hide hw1
  clear hw1
  have HE0 := hide E0
  clear E0
  cases n1
  · skip
    go_enter Tryz.func35, Tryz.ntmps35
    go_wp2_with fail
    rw [HW1.out]
    refine (HP.out _).mono ?_
    rintro e w2 ⟨rfl, rfl⟩
    go_wp2_with fail
    refine (HC.out _).mono ?_
    rintro e w2 ⟨⟨nd, rfl⟩, rfl⟩
    have HE1 : Hid (ExAt (w1.drewN nd) w.heap.size 63 false ⟨#[]⟩) := hide HE0.out
    have HB1 : Hid (Below w.heap.size w (w1.drewN nd)) := hide (below_drewN HB.out nd)
    obtain ⟨w2, hw2⟩ : ∃ w2, w1.drewN nd = w2 := ⟨_, rfl⟩
    rw [hw2] at HE1 HB1
    rw [hw2]
    clear hw2 HW1 HE0 HB
    go_wp2_with fail
    refine (HN1.out _).mono ?_
    rintro e w3 ⟨rfl, rfl⟩
    have HOf : Hid (dOk s.data.toList = false) := hide (by rw [HO.out, HF.out]; simp [])
    obtain ⟨q4, q5⟩ := HE1.out.cells
    have q6 := HE1.out.frozen 0
    have q7 := HE1.out.frozen 1
    have HR := hide (HE1.out.set false ⟨#[]⟩)
    have HBZ := hide ((HB1.out.setCell (p := ⟨w.heap.size, 0, none⟩) (by simp) (.bool false)).setCell (p := ⟨w.heap.size, 1, none⟩) (by simp) (.string ⟨#[]⟩))
    go_wp2_with fail
    (try simp only [Exit.inBlock, Exit.then])
    refine bodyPost_ret (ex3Result rfl _ _ w.heap.size false ⟨#[]⟩ _ _ rfl rfl rfl HR.out) rfl ?_
    exact ⟨HBZ.out, .inr ⟨HOf.out, rfl⟩⟩
  · by_cases hl : 1 < A.size
    · have hli : (1 : Int) < (A.size : Int) := by omega
      have hl0 : 0 < A.size := by omega
      by_cases h48 : A[0] = 48
      · have h4 : ((A[0].toNat : Int) == 48) = true := by rw [h48]; rfl
        have H48 : Hid (((dWhole s.data.toList).getD 0 0 == 48) = true) := hide (by rw [HA0.out hl0, h48]; rfl)
        clear h48
        go_enter Tryz.func35, Tryz.ntmps35
        go_wp2_with fail
        rw [HW1.out]
        refine (HP.out _).mono ?_
        rintro e w2 ⟨rfl, rfl⟩
        go_wp2_with fail
        refine (HC.out _).mono ?_
        rintro e w2 ⟨⟨nd, rfl⟩, rfl⟩
        have HE1 : Hid (ExAt (w1.drewN nd) w.heap.size 63 false ⟨#[]⟩) := hide HE0.out
        have HB1 : Hid (Below w.heap.size w (w1.drewN nd)) := hide (below_drewN HB.out nd)
        obtain ⟨w2, hw2⟩ : ∃ w2, w1.drewN nd = w2 := ⟨_, rfl⟩
        rw [hw2] at HE1 HB1
        rw [hw2]
        clear hw2 HW1 HE0 HB
        go_wp2_with fail
        refine (HN1.out _).mono ?_
        rintro e w3 ⟨rfl, rfl⟩
        have HOf : Hid (dOk s.data.toList = false) := hide (by rw [HO.out, HF.out, H48.out]; simp [hl])
        obtain ⟨q4, q5⟩ := HE1.out.cells
        have q6 := HE1.out.frozen 0
        have q7 := HE1.out.frozen 1
        have HR := hide (HE1.out.set false ⟨#[]⟩)
        have HBZ := hide ((HB1.out.setCell (p := ⟨w.heap.size, 0, none⟩) (by simp) (.bool false)).setCell (p := ⟨w.heap.size, 1, none⟩) (by simp) (.string ⟨#[]⟩))
        go_wp2_with fail
        (try simp only [Exit.inBlock, Exit.then])
        refine bodyPost_ret (ex3Result rfl _ _ w.heap.size false ⟨#[]⟩ _ _ rfl rfl rfl HR.out) rfl ?_
        exact ⟨HBZ.out, .inr ⟨HOf.out, rfl⟩⟩
      · have h4 : ((A[0].toNat : Int) == 48) = false := by
          simp only [beq_eq_false_iff_ne, ne_eq]; intro h; exact h48 (byte_of (by show _ = 48; omega))
        have H48 : Hid (((dWhole s.data.toList).getD 0 0 == 48) = false) := hide (by rw [HA0.out hl0]; exact beq_false_of_ne h48)
        clear h48
        cases dd
        · skip
          go_enter Tryz.func35, Tryz.ntmps35
          go_wp2_with fail
          rw [HW1.out]
          refine (HP.out _).mono ?_
          rintro e w2 ⟨rfl, rfl⟩
          go_wp2_with fail
          refine (HC.out _).mono ?_
          rintro e w2 ⟨⟨nd, rfl⟩, rfl⟩
          have HE1 : Hid (ExAt (w1.drewN nd) w.heap.size 63 false ⟨#[]⟩) := hide HE0.out
          have HB1 : Hid (Below w.heap.size w (w1.drewN nd)) := hide (below_drewN HB.out nd)
          obtain ⟨w2, hw2⟩ : ∃ w2, w1.drewN nd = w2 := ⟨_, rfl⟩
          rw [hw2] at HE1 HB1
          rw [hw2]
          clear hw2 HW1 HE0 HB
          go_wp2_with fail
          refine (HN1.out _).mono ?_
          rintro e w3 ⟨rfl, rfl⟩
          have HFt : Hid (dForm s.data.toList = true) := hide (by rw [HF.out, H48.out]; simp [hl])
          go_wp2_with fail
          refine (HZ.out _).mono ?_
          rintro e w4 ⟨rfl, hb4⟩
          have HE2 := hide (HE1.out.below hb4 HE1.out.lt)
          have HB2 := hide (below_next HB1.out hb4 rfl rfl rfl rfl HB1.out.size)
          clear hb4
          go_wp2_with fail
          refine (HT.out _).mono ?_
          rintro e w5 ⟨a, haz, had, rfl, rfl⟩
          obtain ⟨hac, hav⟩ := HQ.out HFt.out a had
          have hal := len_size a
          cases ng
          · have HI : Hid (dOk s.data.toList = true ∧ ExI (dVal s.data.toList * (10 : Int) ^ c) false a) := hide (by
              refine ⟨by rw [HO.out, HFt.out]; rfl, hac, ?_, ?_⟩
              · rw [hav, HVal.out, if_neg (by decide), ← ten_cast, ← Int.natCast_mul, Int.natAbs_natCast]
              · rw [HVal.out, if_neg (by decide), ← ten_cast, ← Int.natCast_mul]; exact (decide_eq_false (by omega)).symm)
            clear hac hav had hal haz
            obtain ⟨q4, q5⟩ := HE2.out.cells
            have q6 := HE2.out.frozen 0
            have q7 := HE2.out.frozen 1
            have HR := hide (HE2.out.set false a)
            have HBZ := hide ((HB2.out.setCell (p := ⟨w.heap.size, 0, none⟩) (by simp) (.bool false)).setCell (p := ⟨w.heap.size, 1, none⟩) (by simp) (.string a))
            go_wp2_with fail
            (try simp only [Exit.inBlock, Exit.then])
            refine bodyPost_ret (ex3Result rfl _ _ w.heap.size false a _ _ rfl rfl rfl HR.out) rfl ?_
            exact ⟨HBZ.out, .inl ⟨HI.out.1, _, _, rfl, HI.out.2⟩⟩
          · by_cases h0 : 0 < a.size
            · have he := isEmpty_of h0
              have HI : Hid (dOk s.data.toList = true ∧ ExI (dVal s.data.toList * (10 : Int) ^ c) true a) := hide (by
                have hm : 0 < dMag s.data.toList * 10 ^ c := by
                  rw [← hav]; rcases Nat.eq_zero_or_pos (valL a.data.toList) with h | h
                  · rw [canon_zero hac h] at hal; simp at hal; omega
                  · exact h
                have hm0 : dMag s.data.toList ≠ 0 := fun h => by rw [h] at hm; simp at hm
                refine ⟨by rw [HO.out, HFt.out]; simp [hm0], hac, ?_, ?_⟩
                · rw [hav, HVal.out, if_pos rfl, Int.neg_mul, Int.natAbs_neg, ← ten_cast, ← Int.natCast_mul, Int.natAbs_natCast]
                · rw [HVal.out, if_pos rfl, Int.neg_mul, ← ten_cast, ← Int.natCast_mul]; exact (decide_eq_true (by omega)).symm)
              clear hac hav had hal haz h0
              obtain ⟨q4, q5⟩ := HE2.out.cells
              have q6 := HE2.out.frozen 0
              have q7 := HE2.out.frozen 1
              have HR := hide (HE2.out.set true a)
              have HBZ := hide ((HB2.out.setCell (p := ⟨w.heap.size, 0, none⟩) (by simp) (.bool true)).setCell (p := ⟨w.heap.size, 1, none⟩) (by simp) (.string a))
              go_wp2_with fail
              (try simp only [Exit.inBlock, Exit.then])
              refine bodyPost_ret (ex3Result rfl _ _ w.heap.size true a _ _ rfl rfl rfl HR.out) rfl ?_
              exact ⟨HBZ.out, .inl ⟨HI.out.1, _, _, rfl, HI.out.2⟩⟩
            · obtain rfl := empty_of (s := a) (by omega)
              have HOf : Hid (dOk s.data.toList = false) := hide (by
                have hm : dMag s.data.toList * 10 ^ c = 0 := hav.symm
                have hm0 : dMag s.data.toList = 0 := (Nat.mul_eq_zero.1 hm).resolve_right (Nat.pos_iff_ne_zero.1 (pow_pos10 c))
                rw [HO.out]; simp [hm0])
              clear hac hav had hal haz h0
              obtain ⟨q4, q5⟩ := HE2.out.cells
              have q6 := HE2.out.frozen 0
              have q7 := HE2.out.frozen 1
              have HR := hide (HE2.out.set false ⟨#[]⟩)
              have HBZ := hide ((HB2.out.setCell (p := ⟨w.heap.size, 0, none⟩) (by simp) (.bool false)).setCell (p := ⟨w.heap.size, 1, none⟩) (by simp) (.string ⟨#[]⟩))
              go_wp2_with fail
              (try simp only [Exit.inBlock, Exit.then])
              refine bodyPost_ret (ex3Result rfl _ _ w.heap.size false ⟨#[]⟩ _ _ rfl rfl rfl HR.out) rfl ?_
              exact ⟨HBZ.out, .inr ⟨HOf.out, rfl⟩⟩
        · cases n2
          · skip
            go_enter Tryz.func35, Tryz.ntmps35
            go_wp2_with fail
            rw [HW1.out]
            refine (HP.out _).mono ?_
            rintro e w2 ⟨rfl, rfl⟩
            go_wp2_with fail
            refine (HC.out _).mono ?_
            rintro e w2 ⟨⟨nd, rfl⟩, rfl⟩
            have HE1 : Hid (ExAt (w1.drewN nd) w.heap.size 63 false ⟨#[]⟩) := hide HE0.out
            have HB1 : Hid (Below w.heap.size w (w1.drewN nd)) := hide (below_drewN HB.out nd)
            obtain ⟨w2, hw2⟩ : ∃ w2, w1.drewN nd = w2 := ⟨_, rfl⟩
            rw [hw2] at HE1 HB1
            rw [hw2]
            clear hw2 HW1 HE0 HB
            go_wp2_with fail
            refine (HN1.out _).mono ?_
            rintro e w3 ⟨rfl, rfl⟩
            go_wp2_with fail
            refine (HN2.out _).mono ?_
            rintro e w3 ⟨rfl, rfl⟩
            have HOf : Hid (dOk s.data.toList = false) := hide (by rw [HO.out, HF.out, H48.out]; simp [hl])
            obtain ⟨q4, q5⟩ := HE1.out.cells
            have q6 := HE1.out.frozen 0
            have q7 := HE1.out.frozen 1
            have HR := hide (HE1.out.set false ⟨#[]⟩)
            have HBZ := hide ((HB1.out.setCell (p := ⟨w.heap.size, 0, none⟩) (by simp) (.bool false)).setCell (p := ⟨w.heap.size, 1, none⟩) (by simp) (.string ⟨#[]⟩))
            go_wp2_with fail
            (try simp only [Exit.inBlock, Exit.then])
            refine bodyPost_ret (ex3Result rfl _ _ w.heap.size false ⟨#[]⟩ _ _ rfl rfl rfl HR.out) rfl ?_
            exact ⟨HBZ.out, .inr ⟨HOf.out, rfl⟩⟩
          · skip
            go_enter Tryz.func35, Tryz.ntmps35
            go_wp2_with fail
            rw [HW1.out]
            refine (HP.out _).mono ?_
            rintro e w2 ⟨rfl, rfl⟩
            go_wp2_with fail
            refine (HC.out _).mono ?_
            rintro e w2 ⟨⟨nd, rfl⟩, rfl⟩
            have HE1 : Hid (ExAt (w1.drewN nd) w.heap.size 63 false ⟨#[]⟩) := hide HE0.out
            have HB1 : Hid (Below w.heap.size w (w1.drewN nd)) := hide (below_drewN HB.out nd)
            obtain ⟨w2, hw2⟩ : ∃ w2, w1.drewN nd = w2 := ⟨_, rfl⟩
            rw [hw2] at HE1 HB1
            rw [hw2]
            clear hw2 HW1 HE0 HB
            go_wp2_with fail
            refine (HN1.out _).mono ?_
            rintro e w3 ⟨rfl, rfl⟩
            go_wp2_with fail
            refine (HN2.out _).mono ?_
            rintro e w3 ⟨rfl, rfl⟩
            have HFt : Hid (dForm s.data.toList = true) := hide (by rw [HF.out, H48.out]; simp [hl])
            go_wp2_with fail
            refine (HZ.out _).mono ?_
            rintro e w4 ⟨rfl, hb4⟩
            have HE2 := hide (HE1.out.below hb4 HE1.out.lt)
            have HB2 := hide (below_next HB1.out hb4 rfl rfl rfl rfl HB1.out.size)
            clear hb4
            go_wp2_with fail
            refine (HT.out _).mono ?_
            rintro e w5 ⟨a, haz, had, rfl, rfl⟩
            obtain ⟨hac, hav⟩ := HQ.out HFt.out a had
            have hal := len_size a
            cases ng
            · have HI : Hid (dOk s.data.toList = true ∧ ExI (dVal s.data.toList * (10 : Int) ^ c) false a) := hide (by
                refine ⟨by rw [HO.out, HFt.out]; rfl, hac, ?_, ?_⟩
                · rw [hav, HVal.out, if_neg (by decide), ← ten_cast, ← Int.natCast_mul, Int.natAbs_natCast]
                · rw [HVal.out, if_neg (by decide), ← ten_cast, ← Int.natCast_mul]; exact (decide_eq_false (by omega)).symm)
              clear hac hav had hal haz
              obtain ⟨q4, q5⟩ := HE2.out.cells
              have q6 := HE2.out.frozen 0
              have q7 := HE2.out.frozen 1
              have HR := hide (HE2.out.set false a)
              have HBZ := hide ((HB2.out.setCell (p := ⟨w.heap.size, 0, none⟩) (by simp) (.bool false)).setCell (p := ⟨w.heap.size, 1, none⟩) (by simp) (.string a))
              go_wp2_with fail
              (try simp only [Exit.inBlock, Exit.then])
              refine bodyPost_ret (ex3Result rfl _ _ w.heap.size false a _ _ rfl rfl rfl HR.out) rfl ?_
              exact ⟨HBZ.out, .inl ⟨HI.out.1, _, _, rfl, HI.out.2⟩⟩
            · by_cases h0 : 0 < a.size
              · have he := isEmpty_of h0
                have HI : Hid (dOk s.data.toList = true ∧ ExI (dVal s.data.toList * (10 : Int) ^ c) true a) := hide (by
                  have hm : 0 < dMag s.data.toList * 10 ^ c := by
                    rw [← hav]; rcases Nat.eq_zero_or_pos (valL a.data.toList) with h | h
                    · rw [canon_zero hac h] at hal; simp at hal; omega
                    · exact h
                  have hm0 : dMag s.data.toList ≠ 0 := fun h => by rw [h] at hm; simp at hm
                  refine ⟨by rw [HO.out, HFt.out]; simp [hm0], hac, ?_, ?_⟩
                  · rw [hav, HVal.out, if_pos rfl, Int.neg_mul, Int.natAbs_neg, ← ten_cast, ← Int.natCast_mul, Int.natAbs_natCast]
                  · rw [HVal.out, if_pos rfl, Int.neg_mul, ← ten_cast, ← Int.natCast_mul]; exact (decide_eq_true (by omega)).symm)
                clear hac hav had hal haz h0
                obtain ⟨q4, q5⟩ := HE2.out.cells
                have q6 := HE2.out.frozen 0
                have q7 := HE2.out.frozen 1
                have HR := hide (HE2.out.set true a)
                have HBZ := hide ((HB2.out.setCell (p := ⟨w.heap.size, 0, none⟩) (by simp) (.bool true)).setCell (p := ⟨w.heap.size, 1, none⟩) (by simp) (.string a))
                go_wp2_with fail
                (try simp only [Exit.inBlock, Exit.then])
                refine bodyPost_ret (ex3Result rfl _ _ w.heap.size true a _ _ rfl rfl rfl HR.out) rfl ?_
                exact ⟨HBZ.out, .inl ⟨HI.out.1, _, _, rfl, HI.out.2⟩⟩
              · obtain rfl := empty_of (s := a) (by omega)
                have HOf : Hid (dOk s.data.toList = false) := hide (by
                  have hm : dMag s.data.toList * 10 ^ c = 0 := hav.symm
                  have hm0 : dMag s.data.toList = 0 := (Nat.mul_eq_zero.1 hm).resolve_right (Nat.pos_iff_ne_zero.1 (pow_pos10 c))
                  rw [HO.out]; simp [hm0])
                clear hac hav had hal haz h0
                obtain ⟨q4, q5⟩ := HE2.out.cells
                have q6 := HE2.out.frozen 0
                have q7 := HE2.out.frozen 1
                have HR := hide (HE2.out.set false ⟨#[]⟩)
                have HBZ := hide ((HB2.out.setCell (p := ⟨w.heap.size, 0, none⟩) (by simp) (.bool false)).setCell (p := ⟨w.heap.size, 1, none⟩) (by simp) (.string ⟨#[]⟩))
                go_wp2_with fail
                (try simp only [Exit.inBlock, Exit.then])
                refine bodyPost_ret (ex3Result rfl _ _ w.heap.size false ⟨#[]⟩ _ _ rfl rfl rfl HR.out) rfl ?_
                exact ⟨HBZ.out, .inr ⟨HOf.out, rfl⟩⟩
    · have hli : ¬ (1 : Int) < (A.size : Int) := by omega
      cases dd
      · skip
        go_enter Tryz.func35, Tryz.ntmps35
        go_wp2_with fail
        rw [HW1.out]
        refine (HP.out _).mono ?_
        rintro e w2 ⟨rfl, rfl⟩
        go_wp2_with fail
        refine (HC.out _).mono ?_
        rintro e w2 ⟨⟨nd, rfl⟩, rfl⟩
        have HE1 : Hid (ExAt (w1.drewN nd) w.heap.size 63 false ⟨#[]⟩) := hide HE0.out
        have HB1 : Hid (Below w.heap.size w (w1.drewN nd)) := hide (below_drewN HB.out nd)
        obtain ⟨w2, hw2⟩ : ∃ w2, w1.drewN nd = w2 := ⟨_, rfl⟩
        rw [hw2] at HE1 HB1
        rw [hw2]
        clear hw2 HW1 HE0 HB
        go_wp2_with fail
        refine (HN1.out _).mono ?_
        rintro e w3 ⟨rfl, rfl⟩
        have HFt : Hid (dForm s.data.toList = true) := hide (by rw [HF.out]; simp [hl])
        go_wp2_with fail
        refine (HZ.out _).mono ?_
        rintro e w4 ⟨rfl, hb4⟩
        have HE2 := hide (HE1.out.below hb4 HE1.out.lt)
        have HB2 := hide (below_next HB1.out hb4 rfl rfl rfl rfl HB1.out.size)
        clear hb4
        go_wp2_with fail
        refine (HT.out _).mono ?_
        rintro e w5 ⟨a, haz, had, rfl, rfl⟩
        obtain ⟨hac, hav⟩ := HQ.out HFt.out a had
        have hal := len_size a
        cases ng
        · have HI : Hid (dOk s.data.toList = true ∧ ExI (dVal s.data.toList * (10 : Int) ^ c) false a) := hide (by
            refine ⟨by rw [HO.out, HFt.out]; rfl, hac, ?_, ?_⟩
            · rw [hav, HVal.out, if_neg (by decide), ← ten_cast, ← Int.natCast_mul, Int.natAbs_natCast]
            · rw [HVal.out, if_neg (by decide), ← ten_cast, ← Int.natCast_mul]; exact (decide_eq_false (by omega)).symm)
          clear hac hav had hal haz
          obtain ⟨q4, q5⟩ := HE2.out.cells
          have q6 := HE2.out.frozen 0
          have q7 := HE2.out.frozen 1
          have HR := hide (HE2.out.set false a)
          have HBZ := hide ((HB2.out.setCell (p := ⟨w.heap.size, 0, none⟩) (by simp) (.bool false)).setCell (p := ⟨w.heap.size, 1, none⟩) (by simp) (.string a))
          go_wp2_with fail
          (try simp only [Exit.inBlock, Exit.then])
          refine bodyPost_ret (ex3Result rfl _ _ w.heap.size false a _ _ rfl rfl rfl HR.out) rfl ?_
          exact ⟨HBZ.out, .inl ⟨HI.out.1, _, _, rfl, HI.out.2⟩⟩
        · by_cases h0 : 0 < a.size
          · have he := isEmpty_of h0
            have HI : Hid (dOk s.data.toList = true ∧ ExI (dVal s.data.toList * (10 : Int) ^ c) true a) := hide (by
              have hm : 0 < dMag s.data.toList * 10 ^ c := by
                rw [← hav]; rcases Nat.eq_zero_or_pos (valL a.data.toList) with h | h
                · rw [canon_zero hac h] at hal; simp at hal; omega
                · exact h
              have hm0 : dMag s.data.toList ≠ 0 := fun h => by rw [h] at hm; simp at hm
              refine ⟨by rw [HO.out, HFt.out]; simp [hm0], hac, ?_, ?_⟩
              · rw [hav, HVal.out, if_pos rfl, Int.neg_mul, Int.natAbs_neg, ← ten_cast, ← Int.natCast_mul, Int.natAbs_natCast]
              · rw [HVal.out, if_pos rfl, Int.neg_mul, ← ten_cast, ← Int.natCast_mul]; exact (decide_eq_true (by omega)).symm)
            clear hac hav had hal haz h0
            obtain ⟨q4, q5⟩ := HE2.out.cells
            have q6 := HE2.out.frozen 0
            have q7 := HE2.out.frozen 1
            have HR := hide (HE2.out.set true a)
            have HBZ := hide ((HB2.out.setCell (p := ⟨w.heap.size, 0, none⟩) (by simp) (.bool true)).setCell (p := ⟨w.heap.size, 1, none⟩) (by simp) (.string a))
            go_wp2_with fail
            (try simp only [Exit.inBlock, Exit.then])
            refine bodyPost_ret (ex3Result rfl _ _ w.heap.size true a _ _ rfl rfl rfl HR.out) rfl ?_
            exact ⟨HBZ.out, .inl ⟨HI.out.1, _, _, rfl, HI.out.2⟩⟩
          · obtain rfl := empty_of (s := a) (by omega)
            have HOf : Hid (dOk s.data.toList = false) := hide (by
              have hm : dMag s.data.toList * 10 ^ c = 0 := hav.symm
              have hm0 : dMag s.data.toList = 0 := (Nat.mul_eq_zero.1 hm).resolve_right (Nat.pos_iff_ne_zero.1 (pow_pos10 c))
              rw [HO.out]; simp [hm0])
            clear hac hav had hal haz h0
            obtain ⟨q4, q5⟩ := HE2.out.cells
            have q6 := HE2.out.frozen 0
            have q7 := HE2.out.frozen 1
            have HR := hide (HE2.out.set false ⟨#[]⟩)
            have HBZ := hide ((HB2.out.setCell (p := ⟨w.heap.size, 0, none⟩) (by simp) (.bool false)).setCell (p := ⟨w.heap.size, 1, none⟩) (by simp) (.string ⟨#[]⟩))
            go_wp2_with fail
            (try simp only [Exit.inBlock, Exit.then])
            refine bodyPost_ret (ex3Result rfl _ _ w.heap.size false ⟨#[]⟩ _ _ rfl rfl rfl HR.out) rfl ?_
            exact ⟨HBZ.out, .inr ⟨HOf.out, rfl⟩⟩
      · cases n2
        · skip
          go_enter Tryz.func35, Tryz.ntmps35
          go_wp2_with fail
          rw [HW1.out]
          refine (HP.out _).mono ?_
          rintro e w2 ⟨rfl, rfl⟩
          go_wp2_with fail
          refine (HC.out _).mono ?_
          rintro e w2 ⟨⟨nd, rfl⟩, rfl⟩
          have HE1 : Hid (ExAt (w1.drewN nd) w.heap.size 63 false ⟨#[]⟩) := hide HE0.out
          have HB1 : Hid (Below w.heap.size w (w1.drewN nd)) := hide (below_drewN HB.out nd)
          obtain ⟨w2, hw2⟩ : ∃ w2, w1.drewN nd = w2 := ⟨_, rfl⟩
          rw [hw2] at HE1 HB1
          rw [hw2]
          clear hw2 HW1 HE0 HB
          go_wp2_with fail
          refine (HN1.out _).mono ?_
          rintro e w3 ⟨rfl, rfl⟩
          go_wp2_with fail
          refine (HN2.out _).mono ?_
          rintro e w3 ⟨rfl, rfl⟩
          have HOf : Hid (dOk s.data.toList = false) := hide (by rw [HO.out, HF.out]; simp [hl])
          obtain ⟨q4, q5⟩ := HE1.out.cells
          have q6 := HE1.out.frozen 0
          have q7 := HE1.out.frozen 1
          have HR := hide (HE1.out.set false ⟨#[]⟩)
          have HBZ := hide ((HB1.out.setCell (p := ⟨w.heap.size, 0, none⟩) (by simp) (.bool false)).setCell (p := ⟨w.heap.size, 1, none⟩) (by simp) (.string ⟨#[]⟩))
          go_wp2_with fail
          (try simp only [Exit.inBlock, Exit.then])
          refine bodyPost_ret (ex3Result rfl _ _ w.heap.size false ⟨#[]⟩ _ _ rfl rfl rfl HR.out) rfl ?_
          exact ⟨HBZ.out, .inr ⟨HOf.out, rfl⟩⟩
        · skip
          go_enter Tryz.func35, Tryz.ntmps35
          go_wp2_with fail
          rw [HW1.out]
          refine (HP.out _).mono ?_
          rintro e w2 ⟨rfl, rfl⟩
          go_wp2_with fail
          refine (HC.out _).mono ?_
          rintro e w2 ⟨⟨nd, rfl⟩, rfl⟩
          have HE1 : Hid (ExAt (w1.drewN nd) w.heap.size 63 false ⟨#[]⟩) := hide HE0.out
          have HB1 : Hid (Below w.heap.size w (w1.drewN nd)) := hide (below_drewN HB.out nd)
          obtain ⟨w2, hw2⟩ : ∃ w2, w1.drewN nd = w2 := ⟨_, rfl⟩
          rw [hw2] at HE1 HB1
          rw [hw2]
          clear hw2 HW1 HE0 HB
          go_wp2_with fail
          refine (HN1.out _).mono ?_
          rintro e w3 ⟨rfl, rfl⟩
          go_wp2_with fail
          refine (HN2.out _).mono ?_
          rintro e w3 ⟨rfl, rfl⟩
          have HFt : Hid (dForm s.data.toList = true) := hide (by rw [HF.out]; simp [hl])
          go_wp2_with fail
          refine (HZ.out _).mono ?_
          rintro e w4 ⟨rfl, hb4⟩
          have HE2 := hide (HE1.out.below hb4 HE1.out.lt)
          have HB2 := hide (below_next HB1.out hb4 rfl rfl rfl rfl HB1.out.size)
          clear hb4
          go_wp2_with fail
          refine (HT.out _).mono ?_
          rintro e w5 ⟨a, haz, had, rfl, rfl⟩
          obtain ⟨hac, hav⟩ := HQ.out HFt.out a had
          have hal := len_size a
          cases ng
          · have HI : Hid (dOk s.data.toList = true ∧ ExI (dVal s.data.toList * (10 : Int) ^ c) false a) := hide (by
              refine ⟨by rw [HO.out, HFt.out]; rfl, hac, ?_, ?_⟩
              · rw [hav, HVal.out, if_neg (by decide), ← ten_cast, ← Int.natCast_mul, Int.natAbs_natCast]
              · rw [HVal.out, if_neg (by decide), ← ten_cast, ← Int.natCast_mul]; exact (decide_eq_false (by omega)).symm)
            clear hac hav had hal haz
            obtain ⟨q4, q5⟩ := HE2.out.cells
            have q6 := HE2.out.frozen 0
            have q7 := HE2.out.frozen 1
            have HR := hide (HE2.out.set false a)
            have HBZ := hide ((HB2.out.setCell (p := ⟨w.heap.size, 0, none⟩) (by simp) (.bool false)).setCell (p := ⟨w.heap.size, 1, none⟩) (by simp) (.string a))
            go_wp2_with fail
            (try simp only [Exit.inBlock, Exit.then])
            refine bodyPost_ret (ex3Result rfl _ _ w.heap.size false a _ _ rfl rfl rfl HR.out) rfl ?_
            exact ⟨HBZ.out, .inl ⟨HI.out.1, _, _, rfl, HI.out.2⟩⟩
          · by_cases h0 : 0 < a.size
            · have he := isEmpty_of h0
              have HI : Hid (dOk s.data.toList = true ∧ ExI (dVal s.data.toList * (10 : Int) ^ c) true a) := hide (by
                have hm : 0 < dMag s.data.toList * 10 ^ c := by
                  rw [← hav]; rcases Nat.eq_zero_or_pos (valL a.data.toList) with h | h
                  · rw [canon_zero hac h] at hal; simp at hal; omega
                  · exact h
                have hm0 : dMag s.data.toList ≠ 0 := fun h => by rw [h] at hm; simp at hm
                refine ⟨by rw [HO.out, HFt.out]; simp [hm0], hac, ?_, ?_⟩
                · rw [hav, HVal.out, if_pos rfl, Int.neg_mul, Int.natAbs_neg, ← ten_cast, ← Int.natCast_mul, Int.natAbs_natCast]
                · rw [HVal.out, if_pos rfl, Int.neg_mul, ← ten_cast, ← Int.natCast_mul]; exact (decide_eq_true (by omega)).symm)
              clear hac hav had hal haz h0
              obtain ⟨q4, q5⟩ := HE2.out.cells
              have q6 := HE2.out.frozen 0
              have q7 := HE2.out.frozen 1
              have HR := hide (HE2.out.set true a)
              have HBZ := hide ((HB2.out.setCell (p := ⟨w.heap.size, 0, none⟩) (by simp) (.bool true)).setCell (p := ⟨w.heap.size, 1, none⟩) (by simp) (.string a))
              go_wp2_with fail
              (try simp only [Exit.inBlock, Exit.then])
              refine bodyPost_ret (ex3Result rfl _ _ w.heap.size true a _ _ rfl rfl rfl HR.out) rfl ?_
              exact ⟨HBZ.out, .inl ⟨HI.out.1, _, _, rfl, HI.out.2⟩⟩
            · obtain rfl := empty_of (s := a) (by omega)
              have HOf : Hid (dOk s.data.toList = false) := hide (by
                have hm : dMag s.data.toList * 10 ^ c = 0 := hav.symm
                have hm0 : dMag s.data.toList = 0 := (Nat.mul_eq_zero.1 hm).resolve_right (Nat.pos_iff_ne_zero.1 (pow_pos10 c))
                rw [HO.out]; simp [hm0])
              clear hac hav had hal haz h0
              obtain ⟨q4, q5⟩ := HE2.out.cells
              have q6 := HE2.out.frozen 0
              have q7 := HE2.out.frozen 1
              have HR := hide (HE2.out.set false ⟨#[]⟩)
              have HBZ := hide ((HB2.out.setCell (p := ⟨w.heap.size, 0, none⟩) (by simp) (.bool false)).setCell (p := ⟨w.heap.size, 1, none⟩) (by simp) (.string ⟨#[]⟩))
              go_wp2_with fail
              (try simp only [Exit.inBlock, Exit.then])
              refine bodyPost_ret (ex3Result rfl _ _ w.heap.size false ⟨#[]⟩ _ _ rfl rfl rfl HR.out) rfl ?_
              exact ⟨HBZ.out, .inr ⟨HOf.out, rfl⟩⟩
end Go.Proofs.YtoieicdnehnacaaGreatDoor
