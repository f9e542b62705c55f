import Derived.Test.YtfjbdbdjhkmifaaHunkErr
set_option linter.unusedSimpArgs false
set_option linter.unusedVariables false
namespace Go.Proofs.Ytfjbdbdjhkmifaa
open Go.RowKit Go.Pw

set_option maxHeartbeats 4000000 in
set_option maxRecDepth 100000 in
theorem hunkErrors_none (v : Value) (hs : List Hk) (to : Bool) (w : World) (h : Hunks w v hs) (hlen : hs.length ≤ 4398046511104) :
    Calls Try.prog 14 #[.slice none 0 0, .bool true, v, .bool to] w fun e w' => e = .returned (.int .i64 (hunkErr none to hs)) ∧ Below w.heap.size w w' := by
  obtain ⟨vs, hvs, ⟨_, A, ca, rfl, hca, hma, hxa⟩, hok, hel⟩ := h
  unfold maxLen at hma
  have HVS := hide hvs
  have HXA := hide hxa
  have HE := hide hel
  have HOK := hide hok
  clear hvs hxa hel hok
  by_cases hl1 : 1000 < hs.length
  · have HR : Hid (hunkErr none to hs = 2) := by show _ = _; unfold hunkErr; rw [if_pos ⟨rfl, hl1⟩]
    have hl' : decide ((1000 : Int) < (hs.length : Int)) = true := by simp; omega
    go_enter Try.func14, Try.ntmps14
    go_wp2_with fail
    go_ret
    exact ⟨by rw [HR.out]; rfl, Below.refl _ _⟩
  · have HR : Hid (hunkErr none to hs = hOut none (hRun none to (hs.drop 0) ⟨0, 0⟩)) := by show _ = _; unfold hunkErr; rw [if_neg (fun h => hl1 h.2), List.drop_zero]
    have hl' : decide ((1000 : Int) < (hs.length : Int)) = false := by simp; omega
    clear hl1
    go_enter Try.func14, Try.ntmps14
    go_wp2_with fail
    go_loopw [9, 10, 28] (fun ev mv i wr => ∃ (k : Nat) (s : WS), k ≤ hs.length ∧ i = .int .i64 (k : Int) ∧ ev = .int .i64 s.fin ∧ mv = .int .i64 s.del ∧ 0 ≤ s.fin ∧ -(1000 * (k : Int)) ≤ s.del ∧ s.del ≤ 1000 * (k : Int) ∧ Hid (hunkErr none to hs = hOut none (hRun none to (hs.drop k) s)) ∧ Below w.heap.size w wr) (fun _ _ i _ => hs.length - (intOf i).toNat)
    case atStart => exact ⟨0, ⟨0, 0⟩, by omega, rfl, rfl, rfl, by simp, by simp, by simp, HR, Below.refl _ _⟩
    case round =>
      obtain ⟨k, s, hk, rfl, rfl, rfl, hfin, hd1, hd2, hrun, hbw⟩ := hrel
      by_cases hlt : k < hs.length
      · obtain ⟨ba, oa, rfl, hba, hja⟩ := HXA.out (by omega)
        have kv : k < vs.length := by rw [HVS.out]; exact hlt
        have cs := hkCells_at hs vs k hs[k] vs[k] (List.getElem?_eq_getElem hlt) (List.getElem?_eq_getElem kv) HVS.out
        rw [Nat.mul_comm] at cs
        have a0 := (hbw.cell hba).trans (hja _ _ cs.1)
        have a1 := (hbw.cell hba).trans (hja _ _ cs.2.1)
        have a2 := (hbw.cell hba).trans (hja _ _ cs.2.2.1)
        have a3 := (hbw.cell hba).trans (hja _ _ cs.2.2.2)
        clear cs hja
        simp only [← Nat.add_assoc] at a0 a1 a2 a3
        have s1 := HE.out k hs[k] vs[k].1 vs[k].2 (List.getElem?_eq_getElem hlt) (List.getElem?_eq_getElem kv)
        have hokk := HOK.out _ (List.getElem_mem hlt)
        have lza : ba < wr.heap.size := by have := hbw.size; omega
        obtain ⟨A1, n1, c1, e1⟩ := strs_form s1.1
        obtain ⟨A2, n2, c2, e2⟩ := strs_form s1.2
        rw [e1] at a2
        rw [e2] at a3
        rw [e1, e2] at s1
        clear e1 e2 kv
        obtain ⟨t1, t2⟩ := s1
        obtain rfl := t1.len
        obtain rfl := t2.len
        have HGO := @hrun_go none to hs k s _ hrun hlt
        have HST : ∀ e, hStep none to hs[k] s = e → ¬ e = 0 → hunkErr none to hs = e := fun e h1 h2 => hrun_stop hrun hlt h1 h2
        obtain ⟨h, hh⟩ : ∃ h, hs[k] = h := ⟨_, rfl⟩
        rw [hh] at a0 a1 a2 a3 t1 t2 hokk HGO HST
        have HG := hide HGO
        have HS := hide HST
        clear hh HGO HST
        have T1 := hide t1
        have T2 := hide t2
        clear t1 t2
        have bb1 := (Below.refl wr.heap.size wr).alloc (Nat.le_refl _) (.cells #[.int .i64 h.frm, .int .i64 h.to_, .slice A1 h.old.length c1, .slice A2 h.new.length c2] 43)
        have hbp : Below w.heap.size w (wr.alloc (.cells #[.int .i64 h.frm, .int .i64 h.to_, .slice A1 h.old.length c1, .slice A2 h.new.length c2] 43)) := hbw.trans (bb1.mono hbw.size)
        have hpe : listsErr [h.old, h.new] = if listErr h.old = 0 then listErr h.new else listErr h.old := by
          unfold listsErr
          simp only [List.map_cons, List.map_nil, firstNZ]
          by_cases e : listErr h.old = 0
          · rw [if_pos e, if_pos e]; by_cases e2 : listErr h.new = 0 <;> simp [e2]
          · rw [if_neg e, if_neg e]
        obtain ⟨er, her⟩ : ∃ er, listErr h.old = er := ⟨_, rfl⟩
        obtain ⟨er2, her2⟩ : ∃ er, listErr h.new = er := ⟨_, rfl⟩
        rw [her, her2] at hpe
        have HPE := hide hpe
        have HE1 := hide her
        have HE2 := hide her2
        clear hpe her her2 bb1
        go_wp2_with fail
        refine (listError_any _ _ _ (T1.out.below hbp)).mono ?_
        rintro e w1 ⟨rfl, rfl⟩
        rw [HE1.out]
        go_wp2_with fail
        refine (listError_any _ _ _ (T2.out.below hbp)).mono ?_
        rintro e w2 ⟨rfl, rfl⟩
        rw [HE2.out]
        by_cases h0 : er = 0
        · subst h0
          by_cases h02 : er2 = 0
          · subst h02
            have hle0 : listsErr [h.old, h.new] = 0 := by rw [HPE.out]; simp
            have l1 := lists_len hle0 (l := h.old) (by simp)
            have l2 := lists_len hle0 (l := h.new) (by simp)
            have HL0 := hide hle0
            clear hle0
            obtain ⟨⟨x1, x2⟩, y1, y2⟩ := hokk
            by_cases hz : h.old.length + h.new.length = 0
            · have HV := hide (HS.out 23 (step_form (by unfold formErr; rw [HL0.out, if_neg (by simp), if_pos hz]) (by decide)) (by decide))
              have hz' : (((h.old.length : Int) + (h.new.length : Int)) == 0) = true := by simp; omega
              clear hz
              go_wp2_with fail
              go_ret
              exact ⟨by rw [HV.out]; rfl, hbp⟩
            · have hz' : (((h.old.length : Int) + (h.new.length : Int)) == 0) = false := by simp; omega
              by_cases ho : h.frm < s.fin
              · have HV := hide (HS.out 9 (step_form (by unfold formErr; rw [HL0.out, if_neg (by simp), if_neg hz, if_pos ho]) (by decide)) (by decide))
                clear hz
                go_wp2_with fail
                go_ret
                exact ⟨by rw [HV.out]; rfl, hbp⟩
              · have HF : Hid (formErr h s.fin = 0) := by show _ = _; unfold formErr; rw [HL0.out, if_neg (by simp), if_neg hz, if_neg ho]
                clear hz
                by_cases hr : 1000000 < h.frm
                · have HV := hide (HS.out 3 (step_rest HF.out (by simp [restErr, hr])) (by decide))
                  have hr' : decide (1000000 < h.frm) = true := by simpa using hr
                  go_wp2_with fail
                  go_ret
                  exact ⟨by rw [HV.out]; rfl, hbp⟩
                · have hr' : decide (1000000 < h.frm) = false := by simpa using hr
                  cases to
                  · have HM := HG.out (step_rest HF.out (by simp [restErr, hr]))
                    go_wp2_with fail
                    go_roundw
                    case rel => exact ⟨k + 1, s.next h, by omega, by go_num, rfl, rfl, by simp [WS.next]; omega, by simp [WS.next]; omega, by simp [WS.next]; omega, HM, hbp⟩
                    case measure => simp [intOf]; omega
                  · by_cases hp : h.to_ = h.frm + s.del
                    · have hp' : (h.to_ != h.frm + s.del) = false := by simpa using hp
                      have HP := hide hp
                      clear hp
                      have HM := HG.out (step_rest HF.out (by simp [restErr, hr, HP.out]))
                      go_wp2_with fail
                      go_roundw
                      case rel => exact ⟨k + 1, s.next h, by omega, by go_num, rfl, rfl, by simp [WS.next]; omega, by simp [WS.next]; omega, by simp [WS.next]; omega, HM, hbp⟩
                      case measure => simp [intOf]; omega
                    · have hp' : (h.to_ != h.frm + s.del) = true := by simpa using hp
                      have HV := hide (HS.out 19 (step_rest HF.out (by simp [restErr, hr, hp])) (by decide))
                      clear hp
                      go_wp2_with fail
                      go_ret
                      exact ⟨by rw [HV.out]; rfl, hbp⟩
          · have h02' : (er2 != 0) = true := by simpa using h02
            have HV := hide (HS.out er2 (step_form (by unfold formErr; rw [HPE.out, if_pos rfl, if_pos h02]) h02) h02)
            clear h02
            go_wp2_with fail
            go_ret
            exact ⟨by rw [HV.out]; rfl, hbp⟩
        · have h0' : (er != 0) = true := by simpa using h0
          have HV := hide (HS.out er (step_form (by unfold formErr; rw [HPE.out, if_neg h0, if_pos h0]) h0) h0)
          clear h0
          go_wp2_with fail
          go_ret
          exact ⟨by rw [HV.out]; rfl, hbp⟩
      · have HV := hide (hrun_end hrun hlt)
        go_wp2_with fail
        go_ret
        exact ⟨by rw [HV.out]; rfl, hbw⟩

set_option maxHeartbeats 4000000 in
set_option maxRecDepth 100000 in
theorem hunkErrors_some (v : Value) (hs : List Hk) (to : Bool) (w : World) (h : Hunks w v hs) (va : Value) (al : List ByteArray) (hal : Strs w va al) (hal1 : al.length ≤ 9000000000000000) (hlen : hs.length ≤ 4398046511104) :
    Calls Try.prog 14 #[va, .bool false, v, .bool to] w fun e w' => e = .returned (.int .i64 (hunkErr (some al) to hs)) ∧ Below w.heap.size w w' := by
  obtain ⟨vs, hvs, ⟨_, A, ca, rfl, hca, hma, hxa⟩, hok, hel⟩ := h
  unfold maxLen at hma
  have HVS := hide hvs
  have HXA := hide hxa
  have HE := hide hel
  have HOK := hide hok
  clear hvs hxa hel hok
  obtain ⟨⟨_, LA, lc, rfl, hlc, hlm, hlx⟩, hlz⟩ := hal
  unfold maxLen at hlm
  have HLX := hide hlx
  clear hlx hlz
  by_cases hl1 : False
  · exact hl1.elim
  · have HR : Hid (hunkErr (some al) to hs = hOut (some al) (hRun (some al) to (hs.drop 0) ⟨0, 0⟩)) := by show _ = _; unfold hunkErr; rw [if_neg (fun h => by cases h.1), List.drop_zero]
    clear hl1
    go_enter Try.func14, Try.ntmps14
    go_wp2_with fail
    go_loopw [9, 10, 28] (fun ev mv i wr => ∃ (k : Nat) (s : WS), k ≤ hs.length ∧ i = .int .i64 (k : Int) ∧ ev = .int .i64 s.fin ∧ mv = .int .i64 s.del ∧ 0 ≤ s.fin ∧ -(1000 * (k : Int)) ≤ s.del ∧ s.del ≤ 1000 * (k : Int) ∧ Hid (hunkErr (some al) to hs = hOut (some al) (hRun (some al) to (hs.drop k) s)) ∧ Below w.heap.size w wr) (fun _ _ i _ => hs.length - (intOf i).toNat)
    case atStart => exact ⟨0, ⟨0, 0⟩, by omega, rfl, rfl, rfl, by simp, by simp, by simp, HR, Below.refl _ _⟩
    case round =>
      obtain ⟨k, s, hk, rfl, rfl, rfl, hfin, hd1, hd2, hrun, hbw⟩ := hrel
      by_cases hlt : k < hs.length
      · obtain ⟨ba, oa, rfl, hba, hja⟩ := HXA.out (by omega)
        have kv : k < vs.length := by rw [HVS.out]; exact hlt
        have cs := hkCells_at hs vs k hs[k] vs[k] (List.getElem?_eq_getElem hlt) (List.getElem?_eq_getElem kv) HVS.out
        rw [Nat.mul_comm] at cs
        have a0 := (hbw.cell hba).trans (hja _ _ cs.1)
        have a1 := (hbw.cell hba).trans (hja _ _ cs.2.1)
        have a2 := (hbw.cell hba).trans (hja _ _ cs.2.2.1)
        have a3 := (hbw.cell hba).trans (hja _ _ cs.2.2.2)
        clear cs hja
        simp only [← Nat.add_assoc] at a0 a1 a2 a3
        have s1 := HE.out k hs[k] vs[k].1 vs[k].2 (List.getElem?_eq_getElem hlt) (List.getElem?_eq_getElem kv)
        have hokk := HOK.out _ (List.getElem_mem hlt)
        have lza : ba < wr.heap.size := by have := hbw.size; omega
        obtain ⟨A1, n1, c1, e1⟩ := strs_form s1.1
        obtain ⟨A2, n2, c2, e2⟩ := strs_form s1.2
        rw [e1] at a2
        rw [e2] at a3
        rw [e1, e2] at s1
        clear e1 e2 kv
        obtain ⟨t1, t2⟩ := s1
        obtain rfl := t1.len
        obtain rfl := t2.len
        have HGO := @hrun_go (some al) to hs k s _ hrun hlt
        have HST : ∀ e, hStep (some al) to hs[k] s = e → ¬ e = 0 → hunkErr (some al) to hs = e := fun e h1 h2 => hrun_stop hrun hlt h1 h2
        obtain ⟨h, hh⟩ : ∃ h, hs[k] = h := ⟨_, rfl⟩
        rw [hh] at a0 a1 a2 a3 t1 t2 hokk HGO HST
        have HG := hide HGO
        have HS := hide HST
        clear hh HGO HST
        have T1 := hide t1
        have T2 := hide t2
        clear t1 t2
        have bb1 := (Below.refl wr.heap.size wr).alloc (Nat.le_refl _) (.cells #[.int .i64 h.frm, .int .i64 h.to_, .slice A1 h.old.length c1, .slice A2 h.new.length c2] 43)
        have hbp : Below w.heap.size w (wr.alloc (.cells #[.int .i64 h.frm, .int .i64 h.to_, .slice A1 h.old.length c1, .slice A2 h.new.length c2] 43)) := hbw.trans (bb1.mono hbw.size)
        have hpe : listsErr [h.old, h.new] = if listErr h.old = 0 then listErr h.new else listErr h.old := by
          unfold listsErr
          simp only [List.map_cons, List.map_nil, firstNZ]
          by_cases e : listErr h.old = 0
          · rw [if_pos e, if_pos e]; by_cases e2 : listErr h.new = 0 <;> simp [e2]
          · rw [if_neg e, if_neg e]
        obtain ⟨er, her⟩ : ∃ er, listErr h.old = er := ⟨_, rfl⟩
        obtain ⟨er2, her2⟩ : ∃ er, listErr h.new = er := ⟨_, rfl⟩
        rw [her, her2] at hpe
        have HPE := hide hpe
        have HE1 := hide her
        have HE2 := hide her2
        clear hpe her her2 bb1
        go_wp2_with fail
        refine (listError_any _ _ _ (T1.out.below hbp)).mono ?_
        rintro e w1 ⟨rfl, rfl⟩
        rw [HE1.out]
        go_wp2_with fail
        refine (listError_any _ _ _ (T2.out.below hbp)).mono ?_
        rintro e w2 ⟨rfl, rfl⟩
        rw [HE2.out]
        by_cases h0 : er = 0
        · subst h0
          by_cases h02 : er2 = 0
          · subst h02
            have hle0 : listsErr [h.old, h.new] = 0 := by rw [HPE.out]; simp
            have l1 := lists_len hle0 (l := h.old) (by simp)
            have l2 := lists_len hle0 (l := h.new) (by simp)
            have HL0 := hide hle0
            clear hle0
            obtain ⟨⟨x1, x2⟩, y1, y2⟩ := hokk
            by_cases hz : h.old.length + h.new.length = 0
            · have HV := hide (HS.out 23 (step_form (by unfold formErr; rw [HL0.out, if_neg (by simp), if_pos hz]) (by decide)) (by decide))
              have hz' : (((h.old.length : Int) + (h.new.length : Int)) == 0) = true := by simp; omega
              clear hz
              go_wp2_with fail
              go_ret
              exact ⟨by rw [HV.out]; rfl, hbp⟩
            · have hz' : (((h.old.length : Int) + (h.new.length : Int)) == 0) = false := by simp; omega
              by_cases ho : h.frm < s.fin
              · have HV := hide (HS.out 9 (step_form (by unfold formErr; rw [HL0.out, if_neg (by simp), if_neg hz, if_pos ho]) (by decide)) (by decide))
                clear hz
                go_wp2_with fail
                go_ret
                exact ⟨by rw [HV.out]; rfl, hbp⟩
              · have HF : Hid (formErr h s.fin = 0) := by show _ = _; unfold formErr; rw [HL0.out, if_neg (by simp), if_neg hz, if_neg ho]
                clear hz
                by_cases hr : (al.length : Int) < h.frm
                · have HV := hide (HS.out 3 (step_rest HF.out (by simp [restErr, hr])) (by decide))
                  have hr' : decide ((al.length : Int) < h.frm) = true := by simpa using hr
                  go_wp2_with fail
                  go_ret
                  exact ⟨by rw [HV.out]; rfl, hbp⟩
                · have hr' : decide ((al.length : Int) < h.frm) = false := by simpa using hr
                  by_cases hr2 : (al.length : Int) < h.frm + h.old.length
                  · have HV := hide (HS.out 3 (step_rest HF.out (by simp [restErr, hr2])) (by decide))
                    have hr2' : decide ((al.length : Int) < h.frm + h.old.length) = true := by simpa using hr2
                    go_wp2_with fail
                    go_ret
                    exact ⟨by rw [HV.out]; rfl, hbp⟩
                  · have hr2' : decide ((al.length : Int) < h.frm + h.old.length) = false := by simpa using hr2
                    obtain ⟨m, hm⟩ : ∃ m : Nat, h.frm = (m : Int) := ⟨h.frm.toNat, by omega⟩
                    have HMM := hide hm
                    rw [hm] at hbp
                    have hmt : h.frm.toNat = m := by omega
                    have HMT := hide hmt
                    clear hmt
                    have hml : m + h.old.length ≤ al.length := by omega
                    have HRN : Hid (¬ ((al.length : Int) < h.frm ∨ (al.length : Int) < h.frm + h.old.length)) := fun h' => by rcases h' with h' | h' <;> omega
                    clear hr hr2
                    go_wp2_with fail
                    go_loop [89] (fun j => ∃ q : Nat, q ≤ h.old.length ∧ j = .int .i64 (q : Int) ∧ Hid ((al.drop m).take q = h.old.take q)) (fun j => h.old.length - (intOf j).toNat)
                    case atStart => exact ⟨0, by omega, rfl, by show _ = _; simp⟩
                    case round =>
                      obtain ⟨q, hq, rfl, htk⟩ := hrel
                      by_cases hq1 : q < h.old.length
                      · obtain ⟨lb, lo, rfl, hlb, hlj⟩ := HLX.out (by omega)
                        obtain ⟨⟨_, A', cap', ev, _, _, hox⟩, _⟩ := T1.out.below hbp
                        injection ev with ev1 ev2 ev3
                        subst ev1 ev3
                        obtain ⟨ob, oo, rfl, hob, hoj⟩ := hox (by omega)
                        have cO := hoj q _ (by rw [List.getElem?_map, List.getElem?_eq_getElem hq1]; rfl)
                        have cA := (hbp.cell (p := ⟨lb, lo + (m + q), none⟩) hlb).trans (hlj (m + q) _ (by rw [List.getElem?_map, List.getElem?_eq_getElem (by omega)]; rfl))
                        have hmq : m + q < al.length := by omega
                        have lzb : lb < wr.heap.size := by have := hbw.size; omega
                        clear hoj hlj
                        by_cases heq : al[m + q] = h.old[q]
                        · have heq' : (al[m + q].toList == h.old[q].toList) = true := by rw [heq]; simp
                          have HT2 : Hid ((al.drop m).take (q + 1) = h.old.take (q + 1)) := take_ext htk.out (by simp; omega) hq1 (by simpa using heq)
                          clear heq
                          go_wp2_with fail
                          go_round
                          case rel => exact ⟨q + 1, by omega, by go_num, HT2⟩
                          case measure => simp [intOf]; omega
                        · have heq' : (al[m + q].toList == h.old[q].toList) = false := by
                            cases hc : (al[m + q].toList == h.old[q].toList)
                            · rfl
                            · exact absurd (bytes_eq hc) heq
                          have hne : (al.drop m).take h.old.length ≠ h.old := by
                            intro e
                            have e2 := congrArg (fun l => l[q]?) e
                            simp only [List.getElem?_take, if_pos hq1, List.getElem?_drop, List.getElem?_eq_getElem hmq, List.getElem?_eq_getElem hq1] at e2
                            exact heq (Option.some.inj e2)
                          have HV := hide (HS.out 19 (step_rest HF.out (by simp only [restErr]; rw [if_neg HRN.out, HMT.out, if_pos hne])) (by decide))
                          clear heq hne
                          go_wp2_with fail
                          go_ret
                          exact ⟨by rw [HV.out]; rfl, hbp⟩
                      · have htf : (al.drop m).take h.old.length = h.old := by
                          have := htk.out
                          rw [show q = h.old.length by omega, List.take_length] at this
                          exact this
                        have HTF := hide htf
                        clear htf
                        cases to
                        · have HM := HG.out (step_rest HF.out (by simp only [restErr]; rw [if_neg HRN.out, HMT.out, if_neg (fun h' => h' HTF.out)]; simp))
                          go_wp2_with fail
                          go_roundw
                          case rel => exact ⟨k + 1, s.next h, by omega, by go_num, congrArg (Value.int .i64) (by simp only [WS.next]; omega), rfl, by simp [WS.next]; omega, by simp [WS.next]; omega, by simp [WS.next]; omega, HM, hbp⟩
                          case measure => simp [intOf]; omega
                        · by_cases hp : h.to_ = (m : Int) + s.del
                          · have hp' : (h.to_ != (m : Int) + s.del) = false := by simpa using hp
                            have HP := hide hp
                            clear hp
                            have HM := HG.out (step_rest HF.out (by simp only [restErr]; rw [if_neg HRN.out, HMT.out, if_neg (fun h' => h' HTF.out), HMM.out, HP.out]; simp))
                            go_wp2_with fail
                            go_roundw
                            case rel => exact ⟨k + 1, s.next h, by omega, by go_num, congrArg (Value.int .i64) (by simp only [WS.next]; omega), rfl, by simp [WS.next]; omega, by simp [WS.next]; omega, by simp [WS.next]; omega, HM, hbp⟩
                            case measure => simp [intOf]; omega
                          · have hp' : (h.to_ != (m : Int) + s.del) = true := by simpa using hp
                            have HV := hide (HS.out 19 (step_rest HF.out (by simp only [restErr]; rw [if_neg HRN.out, HMT.out, if_neg (fun h' => h' HTF.out), HMM.out, if_pos ⟨trivial, hp⟩])) (by decide))
                            clear hp
                            go_wp2_with fail
                            go_ret
                            exact ⟨by rw [HV.out]; rfl, hbp⟩
          · have h02' : (er2 != 0) = true := by simpa using h02
            have HV := hide (HS.out er2 (step_form (by unfold formErr; rw [HPE.out, if_pos rfl, if_pos h02]) h02) h02)
            clear h02
            go_wp2_with fail
            go_ret
            exact ⟨by rw [HV.out]; rfl, hbp⟩
        · have h0' : (er != 0) = true := by simpa using h0
          have HV := hide (HS.out er (step_form (by unfold formErr; rw [HPE.out, if_neg h0, if_pos h0]) h0) h0)
          clear h0
          go_wp2_with fail
          go_ret
          exact ⟨by rw [HV.out]; rfl, hbp⟩
      · have HV := hide (hrun_end hrun hlt)
        by_cases hb : 1000 < (al.length : Int) + s.del
        · have hb' : decide (1000 < (al.length : Int) + s.del) = true := by simpa using hb
          have HW : Hid (hunkErr (some al) to hs = 2) := by show _ = _; rw [HV.out]; simp [hOut, hb]
          go_wp2_with fail
          go_ret
          exact ⟨by rw [HW.out]; rfl, hbw⟩
        · have hb' : decide (1000 < (al.length : Int) + s.del) = false := by simpa using hb
          have HW : Hid (hunkErr (some al) to hs = 0) := by show _ = _; rw [HV.out]; simp only [hOut, if_neg hb]
          go_wp2_with fail
          go_ret
          exact ⟨by rw [HW.out]; rfl, hbw⟩
end Go.Proofs.Ytfjbdbdjhkmifaa
