import Derived.Test.YtafgncledbddiaaApply
set_option linter.unusedSimpArgs false
set_option linter.unusedVariables false
namespace Go.Proofs.Ytafgncledbddiaa
open Go.RowKit Go.Pw

theorem rd_two (w : World) (a b : Int) (t : TypeId) : Rd (w.alloc (.cells #[.int .i64 a, .int .i64 b] t)) 1 (.slice (some ⟨w.heap.size, 0, none⟩) 2 2) [a, b].length ([a, b].map (Value.int .i64)) := by
  refine ⟨rfl, _, 2, rfl, Nat.le_refl _, by unfold maxLen; omega, fun _ => ⟨w.heap.size, 0, rfl, by simp, fun j u hu => ?_⟩⟩
  rw [World.cell?_alloc_new]
  simpa using hu
theorem hunks_drewN {w : World} {v : Value} {hs : List Hk} (h : Hunks w v hs) (q : Nat) : Hunks (w.drewN q) v hs := h

set_option maxHeartbeats 4000000 in
set_option maxRecDepth 100000 in
theorem diffApplies_00 (va v : Value) (a : List ByteArray) (hs : List Hk) (w : World) (ha : Strs w va a) (h : Hunks w v hs) (hla : a.length ≤ 9000000000000000) (hlen : hs.length ≤ 4398046511104) (hv : ¬ hunkErr none true hs = 0) (hw : ¬ applyErr a hs = 0) :
    Calls Try.prog 7 #[va, v] w fun e w' => e = .returned (.bool true) ∧ Below w.heap.size w w' := by
  have HA := hide ha
  have HH := hide h
  obtain ⟨⟨_, A, ca, rfl, hca, hma, _⟩, _⟩ := ha
  have hh := h
  obtain ⟨vs, hvs, ⟨_, B, cb, rfl, hcb, hmb, hxb⟩, hok, hel⟩ := hh
  unfold maxLen at hma hmb
  have HVS := hide hvs
  have HXB := hide hxb
  have HEL := hide hel
  clear hvs hxb hel hok h
  obtain ⟨V, hV⟩ : ∃ V, hunkErr none true hs = V := ⟨_, rfl⟩
  obtain ⟨E1, hE1⟩ : ∃ E, listErr a = E := ⟨_, rfl⟩
  obtain ⟨E2, hE2⟩ : ∃ E, hunkErr (some a) true hs = E := ⟨_, rfl⟩
  have hW : applyErr a hs = firstNZ [E1, E2] := by unfold applyErr; rw [hE1, hE2]
  obtain ⟨W, hWW⟩ : ∃ W, firstNZ [E1, E2] = W := ⟨_, rfl⟩
  rw [hWW] at hW
  have HV := hide hV
  have HE1 := hide hE1
  have HE2 := hide hE2
  have HW := hide hW
  have HWW := hide hWW
  rw [hV] at hv
  rw [hW] at hw
  clear hV hE1 hE2 hW hWW
  have hpos : 0 < hs.length := by
    rcases Nat.eq_zero_or_pos hs.length with e | e
    · have e2 : hs = [] := List.eq_nil_of_length_eq_zero e
      subst e2
      exact absurd HV.out.symm (by simpa [hunkErr, hRun, hOut] using hv)
    · exact e
  have hneq : ((0 : Int) != (hs.length : Int)) = true := by simp; omega
  have hv' : (V != 0) = true := by simpa using hv
  have hv2 : (V == 0) = false := by simpa using hv
  have HVN := hide hv
  clear hv
  have hw' : (W != 0) = true := by simpa using hw
  have HWN := hide hw
  clear hw
  go_enter Try.func7, Try.ntmps7
  go_wp2_with fail
  refine (Apply_bad _ _ a hs _ HA.out HH.out hlen (by rw [HW.out]; exact HWN.out)).mono ?_
  rintro e w1 ⟨rfl, hb1⟩
  rw [HW.out]
  have bb := (Below.refl w1.heap.size w1).alloc (Nat.le_refl _) (.cells #[.slice A a.length ca] 22)
  have hb2 := hb1.trans (bb.mono hb1.size)
  go_wp2_with fail
  refine (listsError_any _ [a] _ (strsL_one w1 _ a _ (HA.out.below hb1))).mono ?_
  rintro e w2 ⟨rfl, rfl⟩
  rw [lists_one, HE1.out]
  go_wp2_with fail
  refine (hunkErrors_some _ hs true _ (HH.out.below hb2) _ a (HA.out.below hb2) hla hlen).mono ?_
  rintro e w3 ⟨rfl, hb3⟩
  rw [HE2.out]
  have hb3' := hb2.trans (hb3.mono hb2.size)
  have bq := (Below.refl w3.heap.size w3).alloc (Nat.le_refl _) (.cells #[.int .i64 E1, .int .i64 E2] 24)
  have hb4 := hb3'.trans (bq.mono hb3'.size)
  have b14 : Below w1.heap.size w1 (w3.alloc (.cells #[.int .i64 E1, .int .i64 E2] 24)) := bb.trans ((hb3.mono (by simp)).trans (bq.mono (by have := hb3.size; simp at this; omega)))
  clear bb bq hb3
  go_wp2_with fail
  refine (first_any _ [E1, E2] _ (rd_two w3 E1 E2 _)).mono ?_
  rintro e w4 ⟨rfl, rfl⟩
  rw [HWW.out]
  go_wp2_with fail
  refine (Turn_bad _ hs _ (HH.out.below hb4) (by rw [HV.out]; exact HVN.out)).mono ?_
  rintro e w5 ⟨rfl, hb5⟩
  rw [HV.out]
  have hb5' := hb4.trans (hb5.mono hb4.size)
  go_wp2_with fail
  refine (hunkErrors_none _ hs true _ (HH.out.below hb5') hlen).mono ?_
  rintro e w6 ⟨rfl, hb6⟩
  rw [HV.out]
  have hb6' := hb5'.trans (hb6.mono hb5'.size)
  go_wp2_with fail
  refine (differs_any _).mono ?_
  rintro e w7 ⟨rfl, hb7⟩
  have hb7' := hb6'.trans (hb7.mono hb6'.size)
  have b57 : Below w5.heap.size w5 w7 := hb6.trans (hb7.mono hb6.size)
  have b17 : Below w1.heap.size w1 w7 := b14.trans ((hb5.mono b14.size).trans (b57.mono (Nat.le_trans b14.size hb5.size)))
  clear hb1 hb2 hb3' hb4 hb5 hb5' hb6 hb6' hb7 b14
  go_wp2_with fail
  go_loop [66] (fun i => i = .int .i64 0) (fun _ => 0)
  case atStart => rfl
  case round =>
    obtain rfl := hrel
    go_wp2_with fail
    go_ret
    exact ⟨ret_bool (by simp), hb7'⟩

set_option maxHeartbeats 4000000 in
set_option maxRecDepth 100000 in
theorem diffApplies_01 (va v : Value) (a : List ByteArray) (hs : List Hk) (w : World) (ha : Strs w va a) (h : Hunks w v hs) (hla : a.length ≤ 9000000000000000) (hlen : hs.length ≤ 4398046511104) (hv : ¬ hunkErr none true hs = 0) (hw : applyErr a hs = 0) :
    Calls Try.prog 7 #[va, v] w fun e w' => e = .returned (.bool true) ∧ Below w.heap.size w w' := by
  have hl0 : listErr a = 0 := by
    rw [applyErr_eq] at hw
    by_cases e : listErr a = 0
    · exact e
    · rw [if_neg e] at hw; exact hw
  have HE20 : Hid (hunkErr (some a) true hs = 0) := by
    show _ = _
    rw [applyErr_eq, if_pos hl0] at hw; exact hw
  have HE10 := hide hl0
  have HLE := hide (listErr_len hl0)
  clear hl0
  have HA := hide ha
  have HH := hide h
  obtain ⟨⟨_, A, ca, rfl, hca, hma, _⟩, _⟩ := ha
  have hh := h
  obtain ⟨vs, hvs, ⟨_, B, cb, rfl, hcb, hmb, hxb⟩, hok, hel⟩ := hh
  unfold maxLen at hma hmb
  have HVS := hide hvs
  have HXB := hide hxb
  have HEL := hide hel
  clear hvs hxb hel hok h
  obtain ⟨V, hV⟩ : ∃ V, hunkErr none true hs = V := ⟨_, rfl⟩
  obtain ⟨E1, hE1⟩ : ∃ E, listErr a = E := ⟨_, rfl⟩
  obtain ⟨E2, hE2⟩ : ∃ E, hunkErr (some a) true hs = E := ⟨_, rfl⟩
  have hW : applyErr a hs = firstNZ [E1, E2] := by unfold applyErr; rw [hE1, hE2]
  obtain ⟨W, hWW⟩ : ∃ W, firstNZ [E1, E2] = W := ⟨_, rfl⟩
  rw [hWW] at hW
  have HV := hide hV
  have HE1 := hide hE1
  have HE2 := hide hE2
  have HW := hide hW
  have HWW := hide hWW
  rw [hV] at hv
  rw [hW] at hw
  clear hV hE1 hE2 hW hWW
  have hpos : 0 < hs.length := by
    rcases Nat.eq_zero_or_pos hs.length with e | e
    · have e2 : hs = [] := List.eq_nil_of_length_eq_zero e
      subst e2
      exact absurd HV.out.symm (by simpa [hunkErr, hRun, hOut] using hv)
    · exact e
  have hneq : ((0 : Int) != (hs.length : Int)) = true := by simp; omega
  have hv' : (V != 0) = true := by simpa using hv
  have hv2 : (V == 0) = false := by simpa using hv
  have HVN := hide hv
  clear hv
  subst hw
  go_enter Try.func7, Try.ntmps7
  go_wp2_with fail
  refine (Apply_good _ _ a hs _ HA.out HH.out hlen HW.out).mono ?_
  rintro e w1 ⟨RA, rn, rc, rfl, hsr, hb1⟩
  obtain rfl := hsr.len
  have HSR := hide hsr
  clear hsr
  have bb := (Below.refl w1.heap.size w1).alloc (Nat.le_refl _) (.cells #[.slice A a.length ca] 22)
  have hb2 := hb1.trans (bb.mono hb1.size)
  go_wp2_with fail
  refine (listsError_any _ [a] _ (strsL_one w1 _ a _ (HA.out.below hb1))).mono ?_
  rintro e w2 ⟨rfl, rfl⟩
  rw [lists_one, HE1.out]
  go_wp2_with fail
  refine (hunkErrors_some _ hs true _ (HH.out.below hb2) _ a (HA.out.below hb2) hla hlen).mono ?_
  rintro e w3 ⟨rfl, hb3⟩
  rw [HE2.out]
  have hb3' := hb2.trans (hb3.mono hb2.size)
  have bq := (Below.refl w3.heap.size w3).alloc (Nat.le_refl _) (.cells #[.int .i64 E1, .int .i64 E2] 24)
  have hb4 := hb3'.trans (bq.mono hb3'.size)
  have b14 : Below w1.heap.size w1 (w3.alloc (.cells #[.int .i64 E1, .int .i64 E2] 24)) := bb.trans ((hb3.mono (by simp)).trans (bq.mono (by have := hb3.size; simp at this; omega)))
  clear bb bq hb3
  go_wp2_with fail
  refine (first_any _ [E1, E2] _ (rd_two w3 E1 E2 _)).mono ?_
  rintro e w4 ⟨rfl, rfl⟩
  rw [HWW.out]
  go_wp2_with fail
  refine (Turn_bad _ hs _ (HH.out.below hb4) (by rw [HV.out]; exact HVN.out)).mono ?_
  rintro e w5 ⟨rfl, hb5⟩
  rw [HV.out]
  have hb5' := hb4.trans (hb5.mono hb4.size)
  go_wp2_with fail
  refine (hunkErrors_none _ hs true _ (HH.out.below hb5') hlen).mono ?_
  rintro e w6 ⟨rfl, hb6⟩
  rw [HV.out]
  have hb6' := hb5'.trans (hb6.mono hb5'.size)
  go_wp2_with fail
  refine (differs_any _).mono ?_
  rintro e w7 ⟨rfl, hb7⟩
  have hb7' := hb6'.trans (hb7.mono hb6'.size)
  have b57 : Below w5.heap.size w5 w7 := hb6.trans (hb7.mono hb6.size)
  have b17 : Below w1.heap.size w1 w7 := b14.trans ((hb5.mono b14.size).trans (b57.mono (Nat.le_trans b14.size hb5.size)))
  clear hb1 hb2 hb3' hb4 hb5 hb5' hb6 hb6' hb7 b14
  go_wp2_with fail
  go_loop [66] (fun i => i = .int .i64 0) (fun _ => 0)
  case atStart => rfl
  case round =>
    obtain rfl := hrel
    obtain ⟨hgd, hap⟩ := some_good (a := a) (to := true) (hs := hs) HE20.out
    have HGD := hide hgd
    clear hgd
    go_wp2_with fail
    refine (Applied_any _ _ a hs _ (HA.out.below hb7') (HH.out.below hb7') HGD.out hap hlen HLE.out).mono ?_
    rintro e w8 ⟨v8, rfl, hs8, hb8⟩
    obtain ⟨A8, n8, c8, e8⟩ := strs_form hs8
    subst e8
    have HS8 := hide hs8
    clear hs8
    have hb8' := hb7'.trans (hb8.mono hb7'.size)
    have b18 := b17.trans (hb8.mono b17.size)
    go_wp2_with fail
    refine (equal_yes _ _ _ _ _ (HSR.out.below b18) HS8.out rfl).mono ?_
    rintro e w9 ⟨rfl, q9, rfl⟩
    go_wp2_with fail
    go_ret
    exact ⟨ret_bool (by simp), below_drewN hb8' _⟩

set_option maxHeartbeats 4000000 in
set_option maxRecDepth 100000 in
theorem diffApplies_10 (va v : Value) (a : List ByteArray) (hs : List Hk) (w : World) (ha : Strs w va a) (h : Hunks w v hs) (hla : a.length ≤ 9000000000000000) (hlen : hs.length ≤ 4398046511104) (hv : hunkErr none true hs = 0) (hw : ¬ applyErr a hs = 0) :
    Calls Try.prog 7 #[va, v] w fun e w' => e = .returned (.bool true) ∧ Below w.heap.size w w' := by
  have HA := hide ha
  have HH := hide h
  obtain ⟨⟨_, A, ca, rfl, hca, hma, _⟩, _⟩ := ha
  have hh := h
  obtain ⟨vs, hvs, ⟨_, B, cb, rfl, hcb, hmb, hxb⟩, hok, hel⟩ := hh
  unfold maxLen at hma hmb
  have HVS := hide hvs
  have HXB := hide hxb
  have HEL := hide hel
  clear hvs hxb hel hok h
  obtain ⟨V, hV⟩ : ∃ V, hunkErr none true hs = V := ⟨_, rfl⟩
  obtain ⟨E1, hE1⟩ : ∃ E, listErr a = E := ⟨_, rfl⟩
  obtain ⟨E2, hE2⟩ : ∃ E, hunkErr (some a) true hs = E := ⟨_, rfl⟩
  have hW : applyErr a hs = firstNZ [E1, E2] := by unfold applyErr; rw [hE1, hE2]
  obtain ⟨W, hWW⟩ : ∃ W, firstNZ [E1, E2] = W := ⟨_, rfl⟩
  rw [hWW] at hW
  have HV := hide hV
  have HE1 := hide hE1
  have HE2 := hide hE2
  have HW := hide hW
  have HWW := hide hWW
  rw [hV] at hv
  rw [hW] at hw
  clear hV hE1 hE2 hW hWW
  subst hv
  have hw' : (W != 0) = true := by simpa using hw
  have HWN := hide hw
  clear hw
  go_enter Try.func7, Try.ntmps7
  go_wp2_with fail
  refine (Apply_bad _ _ a hs _ HA.out HH.out hlen (by rw [HW.out]; exact HWN.out)).mono ?_
  rintro e w1 ⟨rfl, hb1⟩
  rw [HW.out]
  have bb := (Below.refl w1.heap.size w1).alloc (Nat.le_refl _) (.cells #[.slice A a.length ca] 22)
  have hb2 := hb1.trans (bb.mono hb1.size)
  go_wp2_with fail
  refine (listsError_any _ [a] _ (strsL_one w1 _ a _ (HA.out.below hb1))).mono ?_
  rintro e w2 ⟨rfl, rfl⟩
  rw [lists_one, HE1.out]
  go_wp2_with fail
  refine (hunkErrors_some _ hs true _ (HH.out.below hb2) _ a (HA.out.below hb2) hla hlen).mono ?_
  rintro e w3 ⟨rfl, hb3⟩
  rw [HE2.out]
  have hb3' := hb2.trans (hb3.mono hb2.size)
  have bq := (Below.refl w3.heap.size w3).alloc (Nat.le_refl _) (.cells #[.int .i64 E1, .int .i64 E2] 24)
  have hb4 := hb3'.trans (bq.mono hb3'.size)
  have b14 : Below w1.heap.size w1 (w3.alloc (.cells #[.int .i64 E1, .int .i64 E2] 24)) := bb.trans ((hb3.mono (by simp)).trans (bq.mono (by have := hb3.size; simp at this; omega)))
  clear bb bq hb3
  go_wp2_with fail
  refine (first_any _ [E1, E2] _ (rd_two w3 E1 E2 _)).mono ?_
  rintro e w4 ⟨rfl, rfl⟩
  rw [HWW.out]
  go_wp2_with fail
  refine (Turn_good _ hs _ (HH.out.below hb4) HV.out).mono ?_
  rintro e w5 ⟨vb, rfl, hbk, hb5⟩
  have HBK := hide hbk
  obtain ⟨us, hus, ⟨_, C, cc, rfl, hcc, hmc, hxc⟩, hok5, hel5⟩ := hbk
  unfold maxLen at hmc
  have hml : (hs.map turnHk).length = hs.length := by simp
  rw [hml] at hcc ⊢
  have HUS := hide hus
  have HXC := hide hxc
  have HE5 := hide hel5
  have HML := hide hml
  clear hus hxc hel5 hok5 hml
  have hb5' := hb4.trans (hb5.mono hb4.size)
  go_wp2_with fail
  refine (hunkErrors_none _ hs true _ (HH.out.below hb5') hlen).mono ?_
  rintro e w6 ⟨rfl, hb6⟩
  rw [HV.out]
  have hb6' := hb5'.trans (hb6.mono hb5'.size)
  go_wp2_with fail
  refine (differs_any _).mono ?_
  rintro e w7 ⟨rfl, hb7⟩
  have hb7' := hb6'.trans (hb7.mono hb6'.size)
  have b57 : Below w5.heap.size w5 w7 := hb6.trans (hb7.mono hb6.size)
  have b17 : Below w1.heap.size w1 w7 := b14.trans ((hb5.mono b14.size).trans (b57.mono (Nat.le_trans b14.size hb5.size)))
  clear hb1 hb2 hb3' hb4 hb5 hb5' hb6 hb6' hb7 b14
  go_wp2_with fail
  go_loopw [66] (fun i wr => ∃ k : Nat, k ≤ hs.length ∧ i = .int .i64 (k : Int) ∧ Below w.heap.size w wr ∧ Below w1.heap.size w1 wr ∧ Below w5.heap.size w5 wr) (fun i _ => hs.length - (intOf i).toNat)
  case atStart => exact ⟨0, by omega, rfl, hb7', b17, b57⟩
  case round =>
    obtain ⟨k, hk, rfl, hbw, b1w, b5w⟩ := hrel
    clear hb7' b17 b57
    by_cases hlt : k < hs.length
    · have hltm : k < (hs.map turnHk).length := by rw [HML.out]; exact hlt
      obtain ⟨ba, oa, rfl, hba, hja⟩ := HXB.out (by omega)
      obtain ⟨bc, oc, rfl, hbc, hjc⟩ := HXC.out (by omega)
      have kv : k < vs.length := by rw [HVS.out]; exact hlt
      have ku : k < us.length := by rw [HUS.out]; exact hltm
      have cs := hkCells_at hs vs k hs[k] vs[k] (List.getElem?_eq_getElem hlt) (List.getElem?_eq_getElem kv) HVS.out
      have ds := hkCells_at (hs.map turnHk) us k (turnHk hs[k]) us[k] (by rw [List.getElem?_map, List.getElem?_eq_getElem hlt]; rfl) (List.getElem?_eq_getElem ku) HUS.out
      rw [Nat.mul_comm] at cs ds
      have a0 := (hbw.cell hba).trans (hja _ _ cs.1)
      have a1 := (hbw.cell hba).trans (hja _ _ cs.2.1)
      have a2 := (hbw.cell hba).trans (hja _ _ cs.2.2.1)
      have a3 := (hbw.cell hba).trans (hja _ _ cs.2.2.2)
      have d0 := (b5w.cell hbc).trans (hjc _ _ ds.1)
      have d1 := (b5w.cell hbc).trans (hjc _ _ ds.2.1)
      have d2 := (b5w.cell hbc).trans (hjc _ _ ds.2.2.1)
      have d3 := (b5w.cell hbc).trans (hjc _ _ ds.2.2.2)
      clear cs ds hja hjc
      simp only [← Nat.add_assoc] at a0 a1 a2 a3 d0 d1 d2 d3
      have s1 := HEL.out k hs[k] vs[k].1 vs[k].2 (List.getElem?_eq_getElem hlt) (List.getElem?_eq_getElem kv)
      have s2 := HE5.out k (turnHk hs[k]) us[k].1 us[k].2 (by rw [List.getElem?_map, List.getElem?_eq_getElem hlt]; rfl) (List.getElem?_eq_getElem ku)
      have lza : ba < wr.heap.size := by have := hbw.size; omega
      have lzc : bc < wr.heap.size := by have := b5w.size; omega
      obtain ⟨x1, n1, e1, f1⟩ := strs_form s1.1
      obtain ⟨x2, n2, e2, f2⟩ := strs_form s1.2
      obtain ⟨x3, n3, e3, f3⟩ := strs_form s2.1
      obtain ⟨x4, n4, e4, f4⟩ := strs_form s2.2
      rw [f1] at a2
      rw [f2] at a3
      rw [f3] at d2
      rw [f4] at d3
      rw [f1, f2] at s1
      rw [f3, f4] at s2
      have S1 := hide (⟨s1.1.below hbw, s1.2.below hbw⟩ : Strs wr (.slice x1 n1 e1) hs[k].old ∧ Strs wr (.slice x2 n2 e2) hs[k].new)
      have S2 := hide (⟨s2.1.below b5w, s2.2.below b5w⟩ : Strs wr (.slice x3 n3 e3) hs[k].new ∧ Strs wr (.slice x4 n4 e4) hs[k].old)
      clear s1 s2 f1 f2 f3 f4 kv ku
      obtain ⟨h, hh⟩ : ∃ h, hs[k] = h := ⟨_, rfl⟩
      rw [hh] at a0 a1 S1 S2 d0 d1
      have d0' : wr.cell? ⟨bc, oc + k * 4, none⟩ = some (.int .i64 h.to_) := d0
      have d1' : wr.cell? ⟨bc, oc + k * 4 + 1, none⟩ = some (.int .i64 h.frm) := d1
      clear hh d0 d1
      have z1 : (h.to_ != h.to_) = false := by simp
      have z2 : (h.frm != h.frm) = false := by simp
      have bb2 := below2 wr (.cells #[.int .i64 h.to_, .int .i64 h.frm, .slice x3 n3 e3, .slice x4 n4 e4] 57) (.cells #[.int .i64 h.frm, .int .i64 h.to_, .slice x1 n1 e1, .slice x2 n2 e2] 57)
      go_wp2_with fail
      refine (equal_yes _ _ h.new h.new _ (S2.out.1.below bb2) (S1.out.2.below bb2) rfl).mono ?_
      rintro e w8 ⟨rfl, q8, rfl⟩
      go_wp2_with fail
      refine (equal_yes _ _ h.old h.old _ ((S2.out.2.below bb2).drewN _) ((S1.out.1.below bb2).drewN _) rfl).mono ?_
      rintro e w9 ⟨rfl, q9, rfl⟩
      go_wp2_with fail
      go_roundw
      case rel => exact ⟨k + 1, by omega, by go_num, below_drewN (hbw.trans (bb2.mono hbw.size)) _, below_drewN (b1w.trans (bb2.mono b1w.size)) _, below_drewN (b5w.trans (bb2.mono b5w.size)) _⟩
      case measure => simp [intOf]; omega
    · go_wp2_with fail
      go_ret
      exact ⟨ret_bool (by simp), hbw⟩

set_option maxHeartbeats 4000000 in
set_option maxRecDepth 100000 in
theorem diffApplies_11 (va v : Value) (a : List ByteArray) (hs : List Hk) (w : World) (ha : Strs w va a) (h : Hunks w v hs) (hla : a.length ≤ 9000000000000000) (hlen : hs.length ≤ 4398046511104) (hv : hunkErr none true hs = 0) (hw : applyErr a hs = 0) :
    Calls Try.prog 7 #[va, v] w fun e w' => e = .returned (.bool true) ∧ Below w.heap.size w w' := by
  have hl0 : listErr a = 0 := by
    rw [applyErr_eq] at hw
    by_cases e : listErr a = 0
    · exact e
    · rw [if_neg e] at hw; exact hw
  have HE20 : Hid (hunkErr (some a) true hs = 0) := by
    show _ = _
    rw [applyErr_eq, if_pos hl0] at hw; exact hw
  have HE10 := hide hl0
  have HLE := hide (listErr_len hl0)
  clear hl0
  have HA := hide ha
  have HH := hide h
  obtain ⟨⟨_, A, ca, rfl, hca, hma, _⟩, _⟩ := ha
  have hh := h
  obtain ⟨vs, hvs, ⟨_, B, cb, rfl, hcb, hmb, hxb⟩, hok, hel⟩ := hh
  unfold maxLen at hma hmb
  have HVS := hide hvs
  have HXB := hide hxb
  have HEL := hide hel
  clear hvs hxb hel hok h
  obtain ⟨V, hV⟩ : ∃ V, hunkErr none true hs = V := ⟨_, rfl⟩
  obtain ⟨E1, hE1⟩ : ∃ E, listErr a = E := ⟨_, rfl⟩
  obtain ⟨E2, hE2⟩ : ∃ E, hunkErr (some a) true hs = E := ⟨_, rfl⟩
  have hW : applyErr a hs = firstNZ [E1, E2] := by unfold applyErr; rw [hE1, hE2]
  obtain ⟨W, hWW⟩ : ∃ W, firstNZ [E1, E2] = W := ⟨_, rfl⟩
  rw [hWW] at hW
  have HV := hide hV
  have HE1 := hide hE1
  have HE2 := hide hE2
  have HW := hide hW
  have HWW := hide hWW
  rw [hV] at hv
  rw [hW] at hw
  clear hV hE1 hE2 hW hWW
  subst hv
  subst hw
  go_enter Try.func7, Try.ntmps7
  go_wp2_with fail
  refine (Apply_good _ _ a hs _ HA.out HH.out hlen HW.out).mono ?_
  rintro e w1 ⟨RA, rn, rc, rfl, hsr, hb1⟩
  obtain rfl := hsr.len
  have HSR := hide hsr
  clear hsr
  have bb := (Below.refl w1.heap.size w1).alloc (Nat.le_refl _) (.cells #[.slice A a.length ca] 22)
  have hb2 := hb1.trans (bb.mono hb1.size)
  go_wp2_with fail
  refine (listsError_any _ [a] _ (strsL_one w1 _ a _ (HA.out.below hb1))).mono ?_
  rintro e w2 ⟨rfl, rfl⟩
  rw [lists_one, HE1.out]
  go_wp2_with fail
  refine (hunkErrors_some _ hs true _ (HH.out.below hb2) _ a (HA.out.below hb2) hla hlen).mono ?_
  rintro e w3 ⟨rfl, hb3⟩
  rw [HE2.out]
  have hb3' := hb2.trans (hb3.mono hb2.size)
  have bq := (Below.refl w3.heap.size w3).alloc (Nat.le_refl _) (.cells #[.int .i64 E1, .int .i64 E2] 24)
  have hb4 := hb3'.trans (bq.mono hb3'.size)
  have b14 : Below w1.heap.size w1 (w3.alloc (.cells #[.int .i64 E1, .int .i64 E2] 24)) := bb.trans ((hb3.mono (by simp)).trans (bq.mono (by have := hb3.size; simp at this; omega)))
  clear bb bq hb3
  go_wp2_with fail
  refine (first_any _ [E1, E2] _ (rd_two w3 E1 E2 _)).mono ?_
  rintro e w4 ⟨rfl, rfl⟩
  rw [HWW.out]
  go_wp2_with fail
  refine (Turn_good _ hs _ (HH.out.below hb4) HV.out).mono ?_
  rintro e w5 ⟨vb, rfl, hbk, hb5⟩
  have HBK := hide hbk
  obtain ⟨us, hus, ⟨_, C, cc, rfl, hcc, hmc, hxc⟩, hok5, hel5⟩ := hbk
  unfold maxLen at hmc
  have hml : (hs.map turnHk).length = hs.length := by simp
  rw [hml] at hcc ⊢
  have HUS := hide hus
  have HXC := hide hxc
  have HE5 := hide hel5
  have HML := hide hml
  clear hus hxc hel5 hok5 hml
  have hb5' := hb4.trans (hb5.mono hb4.size)
  go_wp2_with fail
  refine (hunkErrors_none _ hs true _ (HH.out.below hb5') hlen).mono ?_
  rintro e w6 ⟨rfl, hb6⟩
  rw [HV.out]
  have hb6' := hb5'.trans (hb6.mono hb5'.size)
  go_wp2_with fail
  refine (differs_any _).mono ?_
  rintro e w7 ⟨rfl, hb7⟩
  have hb7' := hb6'.trans (hb7.mono hb6'.size)
  have b57 : Below w5.heap.size w5 w7 := hb6.trans (hb7.mono hb6.size)
  have b17 : Below w1.heap.size w1 w7 := b14.trans ((hb5.mono b14.size).trans (b57.mono (Nat.le_trans b14.size hb5.size)))
  clear hb1 hb2 hb3' hb4 hb5 hb5' hb6 hb6' hb7 b14
  go_wp2_with fail
  go_loopw [66] (fun i wr => ∃ k : Nat, k ≤ hs.length ∧ i = .int .i64 (k : Int) ∧ Below w.heap.size w wr ∧ Below w1.heap.size w1 wr ∧ Below w5.heap.size w5 wr) (fun i _ => hs.length - (intOf i).toNat)
  case atStart => exact ⟨0, by omega, rfl, hb7', b17, b57⟩
  case round =>
    obtain ⟨k, hk, rfl, hbw, b1w, b5w⟩ := hrel
    clear hb7' b17 b57
    by_cases hlt : k < hs.length
    · have hltm : k < (hs.map turnHk).length := by rw [HML.out]; exact hlt
      obtain ⟨ba, oa, rfl, hba, hja⟩ := HXB.out (by omega)
      obtain ⟨bc, oc, rfl, hbc, hjc⟩ := HXC.out (by omega)
      have kv : k < vs.length := by rw [HVS.out]; exact hlt
      have ku : k < us.length := by rw [HUS.out]; exact hltm
      have cs := hkCells_at hs vs k hs[k] vs[k] (List.getElem?_eq_getElem hlt) (List.getElem?_eq_getElem kv) HVS.out
      have ds := hkCells_at (hs.map turnHk) us k (turnHk hs[k]) us[k] (by rw [List.getElem?_map, List.getElem?_eq_getElem hlt]; rfl) (List.getElem?_eq_getElem ku) HUS.out
      rw [Nat.mul_comm] at cs ds
      have a0 := (hbw.cell hba).trans (hja _ _ cs.1)
      have a1 := (hbw.cell hba).trans (hja _ _ cs.2.1)
      have a2 := (hbw.cell hba).trans (hja _ _ cs.2.2.1)
      have a3 := (hbw.cell hba).trans (hja _ _ cs.2.2.2)
      have d0 := (b5w.cell hbc).trans (hjc _ _ ds.1)
      have d1 := (b5w.cell hbc).trans (hjc _ _ ds.2.1)
      have d2 := (b5w.cell hbc).trans (hjc _ _ ds.2.2.1)
      have d3 := (b5w.cell hbc).trans (hjc _ _ ds.2.2.2)
      clear cs ds hja hjc
      simp only [← Nat.add_assoc] at a0 a1 a2 a3 d0 d1 d2 d3
      have s1 := HEL.out k hs[k] vs[k].1 vs[k].2 (List.getElem?_eq_getElem hlt) (List.getElem?_eq_getElem kv)
      have s2 := HE5.out k (turnHk hs[k]) us[k].1 us[k].2 (by rw [List.getElem?_map, List.getElem?_eq_getElem hlt]; rfl) (List.getElem?_eq_getElem ku)
      have lza : ba < wr.heap.size := by have := hbw.size; omega
      have lzc : bc < wr.heap.size := by have := b5w.size; omega
      obtain ⟨x1, n1, e1, f1⟩ := strs_form s1.1
      obtain ⟨x2, n2, e2, f2⟩ := strs_form s1.2
      obtain ⟨x3, n3, e3, f3⟩ := strs_form s2.1
      obtain ⟨x4, n4, e4, f4⟩ := strs_form s2.2
      rw [f1] at a2
      rw [f2] at a3
      rw [f3] at d2
      rw [f4] at d3
      rw [f1, f2] at s1
      rw [f3, f4] at s2
      have S1 := hide (⟨s1.1.below hbw, s1.2.below hbw⟩ : Strs wr (.slice x1 n1 e1) hs[k].old ∧ Strs wr (.slice x2 n2 e2) hs[k].new)
      have S2 := hide (⟨s2.1.below b5w, s2.2.below b5w⟩ : Strs wr (.slice x3 n3 e3) hs[k].new ∧ Strs wr (.slice x4 n4 e4) hs[k].old)
      clear s1 s2 f1 f2 f3 f4 kv ku
      obtain ⟨h, hh⟩ : ∃ h, hs[k] = h := ⟨_, rfl⟩
      rw [hh] at a0 a1 S1 S2 d0 d1
      have d0' : wr.cell? ⟨bc, oc + k * 4, none⟩ = some (.int .i64 h.to_) := d0
      have d1' : wr.cell? ⟨bc, oc + k * 4 + 1, none⟩ = some (.int .i64 h.frm) := d1
      clear hh d0 d1
      have z1 : (h.to_ != h.to_) = false := by simp
      have z2 : (h.frm != h.frm) = false := by simp
      have bb2 := below2 wr (.cells #[.int .i64 h.to_, .int .i64 h.frm, .slice x3 n3 e3, .slice x4 n4 e4] 57) (.cells #[.int .i64 h.frm, .int .i64 h.to_, .slice x1 n1 e1, .slice x2 n2 e2] 57)
      go_wp2_with fail
      refine (equal_yes _ _ h.new h.new _ (S2.out.1.below bb2) (S1.out.2.below bb2) rfl).mono ?_
      rintro e w8 ⟨rfl, q8, rfl⟩
      go_wp2_with fail
      refine (equal_yes _ _ h.old h.old _ ((S2.out.2.below bb2).drewN _) ((S1.out.1.below bb2).drewN _) rfl).mono ?_
      rintro e w9 ⟨rfl, q9, rfl⟩
      go_wp2_with fail
      go_roundw
      case rel => exact ⟨k + 1, by omega, by go_num, below_drewN (hbw.trans (bb2.mono hbw.size)) _, below_drewN (b1w.trans (bb2.mono b1w.size)) _, below_drewN (b5w.trans (bb2.mono b5w.size)) _⟩
      case measure => simp [intOf]; omega
    · obtain ⟨hgd, hap⟩ := some_good (a := a) (to := true) (hs := hs) HE20.out
      have HGD := hide hgd
      clear hgd
      go_wp2_with fail
      refine (Applied_any _ _ a hs _ (HA.out.below hbw) (HH.out.below hbw) HGD.out hap hlen HLE.out).mono ?_
      rintro e w8 ⟨v8, rfl, hs8, hb8⟩
      obtain ⟨A8, n8, c8, e8⟩ := strs_form hs8
      subst e8
      have HS8 := hide hs8
      clear hs8
      have hb8' := hbw.trans (hb8.mono hbw.size)
      have b18 := b1w.trans (hb8.mono b1w.size)
      go_wp2_with fail
      refine (equal_yes _ _ _ _ _ (HSR.out.below b18) HS8.out rfl).mono ?_
      rintro e w9 ⟨rfl, q9, rfl⟩
      have b58 := b5w.trans (hb8.mono b5w.size)
      obtain ⟨hk1, hk2, hk3⟩ := back_all HE10.out HE20.out
      have HK2 : Hid (applyErr (applied a hs 0) (hs.map turnHk) = 0) := by
        show _ = _
        rw [applyErr_eq, if_pos hk1, hk2]
      have HK3 := hide hk3
      clear hk1 hk2 hk3
      go_wp2_with fail
      refine (Apply_good _ _ (applied a hs 0) (hs.map turnHk) _ ((HSR.out.below b18).drewN q9) (hunks_drewN ((HML.out ▸ HBK.out.below b58 : Hunks w8 _ _)) q9) (by simp; exact hlen) HK2.out).mono ?_
      rintro e w10 ⟨R2, m2, k2, rfl, hs10, hb10⟩
      have HS10 := hide hs10
      clear hs10
      have hb11 := (below_drewN hb8' q9).trans (hb10.mono (below_drewN hb8' q9).size)
      go_wp2_with fail
      refine (equal_yes _ _ a _ _ (HA.out.below hb11) HS10.out HK3.out.symm).mono ?_
      rintro e w12 ⟨rfl, q12, rfl⟩
      go_wp2_with fail
      go_ret
      exact ⟨ret_bool (by simp), below_drewN hb11 _⟩

theorem diffApplies_any (va v : Value) (a : List ByteArray) (hs : List Hk) (w : World) (ha : Strs w va a) (h : Hunks w v hs) (hla : a.length ≤ 9000000000000000) (hlen : hs.length ≤ 4398046511104) :
    Calls Try.prog 7 #[va, v] w fun e w' => e = .returned (.bool true) ∧ Below w.heap.size w w' := by
  by_cases hv : hunkErr none true hs = 0
  · by_cases hw : applyErr a hs = 0
    · exact diffApplies_11 va v a hs w ha h hla hlen hv hw
    · exact diffApplies_10 va v a hs w ha h hla hlen hv hw
  · by_cases hw : applyErr a hs = 0
    · exact diffApplies_01 va v a hs w ha h hla hlen hv hw
    · exact diffApplies_00 va v a hs w ha h hla hlen hv hw
end Go.Proofs.Ytafgncledbddiaa
