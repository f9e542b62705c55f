import Derived.Test.YtafgncledbddiaaHunkErrs
import Derived.Deep.RegionHeld3
set_option linter.unusedSimpArgs false
set_option linter.unusedVariables false
namespace Go.Proofs.Ytafgncledbddiaa
open Go.RowKit Go.Pw

theorem equal_yes (v1 v2 : Value) (l1 l2 : List ByteArray) (w : World) (h1 : Strs w v1 l1) (h2 : Strs w v2 l2) (he : l1 = l2) :
    Calls Try.prog 31 #[v1, v2] w fun e w' => e = .returned (.bool true) ∧ ∃ q, w' = w.drewN q :=
  (equal_any v1 v2 l1 l2 w h1 h2).mono fun e w' ⟨h3, h4⟩ => ⟨by rw [h3]; simp [he], h4⟩
theorem equal_no (v1 v2 : Value) (l1 l2 : List ByteArray) (w : World) (h1 : Strs w v1 l1) (h2 : Strs w v2 l2) (he : ¬ l1 = l2) :
    Calls Try.prog 31 #[v1, v2] w fun e w' => e = .returned (.bool false) ∧ ∃ q, w' = w.drewN q :=
  (equal_any v1 v2 l1 l2 w h1 h2).mono fun e w' ⟨h3, h4⟩ => ⟨by rw [h3]; simp [he], h4⟩

theorem WalkAt.drewN {w : World} {wb : Nat} {f t d : Int} {vo vn : Value} {any : Bool} (h : WalkAt w wb f t vo vn any d) (q : Nat) : WalkAt (w.drewN q) wb f t vo vn any d := h
theorem placed_eq (w : World) (wb : Nat) (f t d : Int) (vo vn : Value) (any : Bool) (x y : Int) (vo' vn' : Value) (b : Bool) (hw : WalkAt w wb f t vo vn any d)
    (hd1 : -1000000000000000000 ≤ d) (hd2 : d ≤ 1000000000000000000) (hx1 : 0 ≤ x) (hx2 : x ≤ 1000000000000000000) (hb : decide (y = x + d) = b) :
    Calls Try.prog 108 #[.pointer (some ⟨wb, 0, none⟩), .agg #[.int .i64 x, .int .i64 y, vo', vn']] w fun e w' => e = .returned (.bool b) ∧ Below w.heap.size w w' := by
  subst hb
  exact placed_any w wb f t d vo vn any x y vo' vn' hw hd1 hd2 hx1 hx2

set_option maxHeartbeats 4000000 in
set_option maxRecDepth 100000 in
theorem of_any (va v : Value) (al : List ByteArray) (hs : List Hk) (w : World) (hal : Strs w va al) (hal1 : al.length ≤ 1000) (h : Hunks w v hs) (hlen : hs.length ≤ 4398046511104) :
    Calls Try.prog 69 #[va, v] w fun e w' => e = .returned (.int .i64 (hunkErr (some al) true hs)) ∧ Below w.heap.size w w' := by
  obtain ⟨vs, hvs, ⟨_, A, ca, rfl, hca, hma, hxa⟩, hok, hel⟩ := h
  unfold maxLen at hma
  have HVS := hide hvs
  have HXA := hide hxa
  have HE := hide hel
  have HOK := hide hok
  clear hvs hxa hel hok
  have HAL := hide hal
  obtain ⟨⟨_, LA, lc, rfl, hlc, hlm, hlx⟩, hlz⟩ := hal
  unfold maxLen at hlm
  clear hlx hlz
  by_cases hl1 : False
  · exact hl1.elim
  · have HR : Hid (hunkErr (some al) true hs = hOut (some al) (hRun (some al) true (hs.drop 0) ⟨0, 0⟩)) := by show _ = _; unfold hunkErr; rw [if_neg (fun h => by cases h.1), List.drop_zero]
    clear hl1
    go_enter Try.func69, Try.ntmps69
    go_wp2_with fail
    go_loopw [13] (fun i wr => ∃ (k : Nat) (s : WS) (f t : Int) (B : Option Addr) (n c : Nat) (vn : Value) (any : Bool), k ≤ hs.length ∧ i = .int .i64 (k : Int) ∧ WalkAt wr w.heap.size f t (.slice B n c) vn any s.del ∧ Hid (EndIs s.fin f n any) ∧ f ≤ 9223372036854775807 ∧ n ≤ 9223372036854775807 ∧ 0 ≤ s.fin ∧ -(1000 * (k : Int)) ≤ s.del ∧ s.del ≤ 1000 * (k : Int) ∧ Hid (hunkErr (some al) true hs = hOut (some al) (hRun (some al) true (hs.drop k) s)) ∧ Below w.heap.size w wr) (fun i _ => hs.length - (intOf i).toNat)
    case atStart => exact ⟨0, ⟨0, 0⟩, 0, 0, none, 0, 0, .slice none 0 0, false, by omega, rfl, heap_alloc_new w _, rfl, by omega, by omega, by simp, by simp, by simp, HR, (Below.refl _ _).alloc (Nat.le_refl _) _⟩
    case round =>
      obtain ⟨k, s, f, t, B, n, c, vn, any, hk, rfl, hwk, hen, hf, hn, hfin, hd1, hd2, hrun, hbw⟩ := hrel
      by_cases hlt : k < hs.length
      · obtain ⟨ba, oa, rfl, hba, hja⟩ := HXA.out (by omega)
        have kv : k < vs.length := by rw [HVS.out]; exact hlt
        have cs := hkCells_at hs vs k hs[k] vs[k] (List.getElem?_eq_getElem hlt) (List.getElem?_eq_getElem kv) HVS.out
        rw [Nat.mul_comm] at cs
        have a0 := (hbw.cell hba).trans (hja _ _ cs.1)
        have a1 := (hbw.cell hba).trans (hja _ _ cs.2.1)
        have a2 := (hbw.cell hba).trans (hja _ _ cs.2.2.1)
        have a3 := (hbw.cell hba).trans (hja _ _ cs.2.2.2)
        clear cs hja
        simp only [← Nat.add_assoc] at a0 a1 a2 a3
        have s1 := HE.out k hs[k] vs[k].1 vs[k].2 (List.getElem?_eq_getElem hlt) (List.getElem?_eq_getElem kv)
        have hokk := HOK.out _ (List.getElem_mem hlt)
        have lza : ba < wr.heap.size := by have := hbw.size; omega
        obtain ⟨A1, n1, c1, e1⟩ := strs_form s1.1
        obtain ⟨A2, n2, c2, e2⟩ := strs_form s1.2
        rw [e1] at a2
        rw [e2] at a3
        rw [e1, e2] at s1
        clear e1 e2 kv
        obtain ⟨t1, t2⟩ := s1
        obtain rfl := t1.len
        obtain rfl := t2.len
        have HGO := @hrun_go (some al) true hs k s _ hrun hlt
        have HST : ∀ e, hStep (some al) true hs[k] s = e → ¬ e = 0 → hunkErr (some al) true hs = e := fun e h1 h2 => hrun_stop hrun hlt h1 h2
        obtain ⟨h, hh⟩ : ∃ h, hs[k] = h := ⟨_, rfl⟩
        rw [hh] at a0 a1 a2 a3 t1 t2 hokk HGO HST
        have HG := hide HGO
        have HS := hide HST
        clear hh HGO HST
        have T1 := hide t1
        have T2 := hide t2
        clear t1 t2
        have bb1 := (Below.refl wr.heap.size wr).alloc (Nat.le_refl _) (.cells #[.int .i64 h.frm, .int .i64 h.to_, .slice A1 h.old.length c1, .slice A2 h.new.length c2] 57)
        have hbp : Below w.heap.size w (wr.alloc (.cells #[.int .i64 h.frm, .int .i64 h.to_, .slice A1 h.old.length c1, .slice A2 h.new.length c2] 57)) := hbw.trans (bb1.mono hbw.size)
        go_wp2_with fail
        refine (form_any _ w.heap.size f t s.del s.fin B n c vn any h A1 A2 c1 c2 (hwk.below bb1) hen.out hf hn hokk.1 (T1.out.below hbp) (T2.out.below hbp)).mono ?_
        rintro e w1 ⟨rfl, hb1⟩
        have hb1w : Below wr.heap.size wr w1 := bb1.trans (hb1.mono (by simp))
        have hbw1 := hbw.trans (hb1w.mono hbw.size)
        have hwk1 := hwk.below hb1w
        have hcp : w1.heap[wr.heap.size]? = some (.cells #[.int .i64 h.frm, .int .i64 h.to_, .slice A1 h.old.length c1, .slice A2 h.new.length c2] 57 (0, 0)) := (hb1.block wr.heap.size (by simp)).trans (heap_alloc_new _ _)
        have p0 : w1.cell? ⟨wr.heap.size, 0, none⟩ = some (.int .i64 h.frm) := by rw [Lib.cell_of_heap hcp]; rfl
        have p1 : w1.cell? ⟨wr.heap.size, 1, none⟩ = some (.int .i64 h.to_) := by rw [Lib.cell_of_heap hcp]; rfl
        have p2 : w1.cell? ⟨wr.heap.size, 2, none⟩ = some (.slice A1 h.old.length c1) := by rw [Lib.cell_of_heap hcp]; rfl
        have p3 : w1.cell? ⟨wr.heap.size, 3, none⟩ = some (.slice A2 h.new.length c2) := by rw [Lib.cell_of_heap hcp]; rfl
        have HCP := hide hcp
        clear hcp a0 a1 a2 a3 hb1 bb1 hwk
        obtain ⟨er, her⟩ : ∃ er, formErr h s.fin = er := ⟨_, rfl⟩
        rw [her]
        have HER := hide her
        clear her
        by_cases h0 : er = 0
        · subst h0
          obtain ⟨hle0, hfo⟩ := form_zero HER.out
          have l1 := lists_len hle0 (l := h.old) (by simp)
          have l2 := lists_len hle0 (l := h.new) (by simp)
          clear hle0
          obtain ⟨⟨x1, x2⟩, _⟩ := hokk
          by_cases hr : (al.length : Int) < h.frm
          · have HV := hide (HS.out 3 (step_rest HER.out (by simp [restErr, hr])) (by decide))
            have hr' : decide ((al.length : Int) < h.frm) = true := by simpa using hr
            go_wp2_with fail
            go_ret
            exact ⟨by rw [HV.out]; rfl, hbw1⟩
          · have hr' : decide ((al.length : Int) < h.frm) = false := by simpa using hr
            by_cases hr2 : (al.length : Int) < h.frm + h.old.length
            · have HV := hide (HS.out 3 (step_rest HER.out (by simp [restErr, hr2])) (by decide))
              have hr2' : decide ((al.length : Int) < h.frm + h.old.length) = true := by simpa using hr2
              go_wp2_with fail
              go_ret
              exact ⟨by rw [HV.out]; rfl, hbw1⟩
            · have hr2' : decide ((al.length : Int) < h.frm + h.old.length) = false := by simpa using hr2
              have hhi : ((h.frm.toNat + h.old.length : Nat) : Int) = h.frm + h.old.length := by omega
              have hlo : ((h.frm.toNat : Nat) : Int) = h.frm := by omega
              obtain ⟨vk, hvk, hsk⟩ := cut_both HAL.out (lo := h.frm.toNat) (hi := h.frm.toNat + h.old.length) (by omega) (by omega)
              rw [hhi, hlo] at hvk
              rw [Nat.add_sub_cancel_left] at hsk
              have HSK := hide hsk
              clear hhi hlo hsk
              have hadd : IntKind.i64.wrap (h.frm + (h.old.length : Int)) = h.frm + (h.old.length : Int) := IntWalk.i64_in _ (by omega)
              have HRN : Hid (¬ ((al.length : Int) < h.frm ∨ (al.length : Int) < h.frm + h.old.length)) := fun h' => by rcases h' with h' | h' <;> omega
              by_cases heq : (al.drop h.frm.toNat).take h.old.length = h.old
              · have HEQ := hide heq
                clear heq
                have hzz : wr.heap.size < w1.heap.size := by
                  rcases Nat.lt_or_ge wr.heap.size w1.heap.size with h' | h'
                  · exact h'
                  · have := HCP.out; simp [Array.getElem?_eq_none h'] at this
                by_cases hp : h.to_ = h.frm + s.del
                · have hpd : decide (h.to_ = h.frm + s.del) = true := by simpa using hp
                  have HM := HG.out (step_rest HER.out (by simp only [restErr]; rw [if_neg HRN.out, if_neg (fun h' => h' HEQ.out), if_neg (fun h' => h'.2 hp)]))
                  clear hp
                  go_wp2_with fail
                  go_region_held3 (fun w' => w'.cell? ⟨wr.heap.size, 0, none⟩ = some (.int .i64 h.frm) ∧ w'.cell? ⟨wr.heap.size, 1, none⟩ = some (.int .i64 h.to_) ∧ w'.cell? ⟨wr.heap.size, 2, none⟩ = some (.slice A1 h.old.length c1) ∧ w'.cell? ⟨wr.heap.size, 3, none⟩ = some (.slice A2 h.new.length c2)) (go_keep) (first | (go_at_call 31; refine (equal_yes vk _ _ h.old _ (HSK.out.below hbw1).drew (T1.out.below hbw1).drew HEQ.out).mono ?_; rintro e w' ⟨rfl, q, rfl⟩) | (go_at_call 108; refine (placed_eq _ w.heap.size f t s.del _ vn any h.frm h.to_ _ _ true (hwk1.drewN _) (by omega) (by omega) (by omega) (by omega) hpd).mono ?_; rintro e w2 ⟨rfl, hb2⟩; have q0 : w2.cell? ⟨wr.heap.size, 0, none⟩ = some (.int .i64 h.frm) := (hb2.cell (p := ⟨wr.heap.size, 0, none⟩) hzz).trans p0; have q1 : w2.cell? ⟨wr.heap.size, 1, none⟩ = some (.int .i64 h.to_) := (hb2.cell (p := ⟨wr.heap.size, 1, none⟩) hzz).trans p1; have q2 : w2.cell? ⟨wr.heap.size, 2, none⟩ = some (.slice A1 h.old.length c1) := (hb2.cell (p := ⟨wr.heap.size, 2, none⟩) hzz).trans p2; have q3 : w2.cell? ⟨wr.heap.size, 3, none⟩ = some (.slice A2 h.new.length c2) := (hb2.cell (p := ⟨wr.heap.size, 3, none⟩) hzz).trans p3))
                  have hbw2 : Below w.heap.size w w2 := hbw1.trans ((show Below w1.heap.size w1 w2 from ⟨hb2.os, hb2.tape, hb2.output, hb2.size, hb2.block⟩).mono hbw1.size)
                  have hwk2 : WalkAt w2 w.heap.size f t (.slice B n c) vn any s.del := hwk1.below ⟨hb2.os, hb2.tape, hb2.output, hb2.size, hb2.block⟩
                  go_wp2_with fail
                  refine (pass_any _ w.heap.size f t s.del _ vn any h.frm h.to_ A1 A2 _ _ c1 c2 hwk2 (by omega) (by omega) l1 l2).mono ?_
                  rintro e w3 ⟨rfl, hw3, hb3⟩
                  have hbw3 := hbw2.trans hb3
                  go_wp2_with fail
                  go_roundw
                  case rel => exact ⟨k + 1, s.next h, h.frm, h.to_, A1, h.old.length, c1, _, true, by omega, by go_num, hw3, by show EndIs _ _ _ _; simp [EndIs, WS.next]; omega, x2, by omega, by simp [WS.next]; omega, by simp [WS.next]; omega, by simp [WS.next]; omega, HM, hbw3⟩
                  case measure => simp [intOf]; omega
                · have hpd : decide (h.to_ = h.frm + s.del) = false := by simpa using hp
                  have HV := hide (HS.out 19 (step_rest HER.out (by simp only [restErr]; rw [if_neg HRN.out, if_neg (fun h' => h' HEQ.out), if_pos ⟨trivial, hp⟩])) (by decide))
                  clear hp
                  go_wp2_with fail
                  go_region_held3 (fun w' => w'.cell? ⟨wr.heap.size, 0, none⟩ = some (.int .i64 h.frm) ∧ w'.cell? ⟨wr.heap.size, 1, none⟩ = some (.int .i64 h.to_) ∧ w'.cell? ⟨wr.heap.size, 2, none⟩ = some (.slice A1 h.old.length c1) ∧ w'.cell? ⟨wr.heap.size, 3, none⟩ = some (.slice A2 h.new.length c2)) (go_keep) (first | (go_at_call 31; refine (equal_yes vk _ _ h.old _ (HSK.out.below hbw1).drew (T1.out.below hbw1).drew HEQ.out).mono ?_; rintro e w' ⟨rfl, q, rfl⟩) | (go_at_call 108; refine (placed_eq _ w.heap.size f t s.del _ vn any h.frm h.to_ _ _ false (hwk1.drewN _) (by omega) (by omega) (by omega) (by omega) hpd).mono ?_; rintro e w2 ⟨rfl, hb2⟩; have q0 : w2.cell? ⟨wr.heap.size, 0, none⟩ = some (.int .i64 h.frm) := (hb2.cell (p := ⟨wr.heap.size, 0, none⟩) hzz).trans p0; have q1 : w2.cell? ⟨wr.heap.size, 1, none⟩ = some (.int .i64 h.to_) := (hb2.cell (p := ⟨wr.heap.size, 1, none⟩) hzz).trans p1; have q2 : w2.cell? ⟨wr.heap.size, 2, none⟩ = some (.slice A1 h.old.length c1) := (hb2.cell (p := ⟨wr.heap.size, 2, none⟩) hzz).trans p2; have q3 : w2.cell? ⟨wr.heap.size, 3, none⟩ = some (.slice A2 h.new.length c2) := (hb2.cell (p := ⟨wr.heap.size, 3, none⟩) hzz).trans p3))
                  have hbw2 : Below w.heap.size w w2 := hbw1.trans ((show Below w1.heap.size w1 w2 from ⟨hb2.os, hb2.tape, hb2.output, hb2.size, hb2.block⟩).mono hbw1.size)
                  go_wp2_with fail
                  go_ret
                  exact ⟨by rw [HV.out]; rfl, hbw2⟩
              · have HV := hide (HS.out 19 (step_rest HER.out (by simp only [restErr]; rw [if_neg HRN.out, if_pos heq])) (by decide))
                have HNE := hide heq
                clear heq
                go_wp2_with fail
                go_quiet ((go_at_call 31; exact Calls.quiet_of (equal_no vk _ _ h.old _ ((HSK.out.below hbw1).drewN _) ((T1.out.below hbw1).drewN _) HNE.out)))
                go_wp2_with fail
                go_ret
                exact ⟨by rw [HV.out]; rfl, below_drewN hbw1 _⟩
        · have HV := hide (HS.out _ (step_form HER.out h0) h0)
          have h0' : (er != 0) = true := by simpa using h0
          clear h0
          go_wp2_with fail
          go_ret
          exact ⟨by rw [HV.out]; rfl, hbw1⟩
      · have HV := hide (hrun_end hrun hlt)
        have d5 : wr.cell? ⟨w.heap.size, 5, none⟩ = some (.int .i64 s.del) := by rw [Lib.cell_of_heap hwk]; rfl
        by_cases hb : 1000 < (al.length : Int) + s.del
        · have hb' : decide (1000 < (al.length : Int) + s.del) = true := by simpa using hb
          have HW : Hid (hunkErr (some al) true hs = 2) := by show _ = _; rw [HV.out]; simp [hOut, hb]
          go_wp2_with fail
          go_ret
          exact ⟨by rw [HW.out]; rfl, hbw⟩
        · have hb' : decide (1000 < (al.length : Int) + s.del) = false := by simpa using hb
          have HW : Hid (hunkErr (some al) true hs = 0) := by show _ = _; rw [HV.out]; simp only [hOut, if_neg hb]
          go_wp2_with fail
          go_ret
          exact ⟨by rw [HW.out]; rfl, hbw⟩
end Go.Proofs.Ytafgncledbddiaa
