/- A time is read along a format: the reference's read: the directives that tell one thing. -/
import Derived.Test.YtifpmigghplmoaaGreatDoorZDrG
import Derived.Deep.RegionLaw
/- DReadWF -/
set_option linter.unusedVariables false
set_option linter.unusedSimpArgs false
namespace Go.Proofs.YtifpmigghplmoaaGreatDoor
open Go.RowKit Go.Pw
set_option maxHeartbeats 8000000 in
set_option maxRecDepth 100000 in
theorem read_sn (b : Nat) (T : ByteArray) (at_ : Nat) (L : List It) (w : World) (h : FSt 54 64 b L w) (hat : at_ ≤ T.size) (hT : T.size ≤ 1000000) (hl : L.length ≤ 900000) (h45 : T.data.toList.getD at_ 0 = 45) :
    Calls Tryz.prog 22 #[.pointer (some ⟨b, 0, none⟩), .string T, .int .i64 (at_ : Int), .int .u8 115] w (ReadPost b T.data.toList [.dir 115] at_ L w) := by
  have HLS := hide (len_size T)
  have hl6 : L.length ≤ 1000000 := by omega
  obtain ⟨pv, hr, ho⟩ := h
  have HDG := hide (fun c W => digitD_any c W)
  have hc : rd1 T.data.toList 115 at_ = rdTime T.data.toList at_ := by simp [rd1]
  have hsg : signOf T.data.toList at_ = 1 := by unfold signOf; rw [if_pos h45]
  have g0 : (0 : Int) ≤ (at_ : Int) := by omega
  have HPS0 : Hid (PSt 54 64 b (fvOf L) L pv pv w w) := hide ⟨hr, ho, Below.refl _ _⟩
  have HNO : Hid (isDg (T.data.toList.getD (at_ + 1) 0) = false → rdL T.data.toList [.dir 115] at_ [] = .inl (at_ + 1)) := hide (fun hh => by
    rw [rdL_one]; show rd1 _ _ _ = _; rw [hc]
    have := rdTime_no (T := T.data.toList) (at_ := at_) (by rw [hsg]; exact hh)
    rw [hsg] at this; exact this)
  have HYES : Hid (∀ (j : Nat) (v : Int), 0 < j → j ≤ 12 → digsN T.data.toList (at_ + 1) j 0 = .inr v → (j = 12 ∨ isDg (T.data.toList.getD (at_ + 1 + j) 0) = false) → rdL T.data.toList [.dir 115] at_ [] = .inr (at_ + 1 + j, [⟨115, -v, piece T.data.toList at_ (at_ + 1 + j)⟩])) := hide (fun j v h1 h2 h3 h4 => by
    rw [rdL_one]; show rd1 _ _ _ = _; rw [hc]
    have := rdTime_yes (T := T.data.toList) (at_ := at_) (j := j) (v := v) h1 h2 (by rw [hsg]; exact h3) (by rw [hsg]; exact h4)
    rw [hsg, if_pos h45] at this; exact this)
  have hlt : at_ < T.size := by
    rcases Nat.lt_or_ge at_ T.size with h | h
    · exact h
    · rw [getD_off h] at h45; exact absurd h45 (by decide)
  have d1 : ((T[at_].toNat : Int) == 45) = true := by rw [← getD_at hlt, h45]; rfl
  have t1 : (at_ : Int) < (T.size : Int) := by omega
  obtain ⟨f, hf⟩ : ∃ f, at_ + 1 = f := ⟨_, rfl⟩
  rw [hf] at HNO
  simp only [hf] at HYES
  have hfT : f ≤ T.size := by omega
  have haf : at_ ≤ f := by omega
  have u0 : IntKind.i64.wrap ((at_ : Int) + 1) = (f : Int) := by rw [show (at_ : Int) + 1 = (f : Int) by omega]; exact IntWalk.i64_in _ (by omega)
  clear hc hsg h45 hr ho
  go_enter Tryz.func22, Tryz.ntmps22
  go_wp2_with fail
  go_loopw [2, 10] (fun i n wr => ∃ (j : Nat) (acc : Int), j ≤ 12 ∧ i = .int .i64 ((f + j : Nat) : Int) ∧ n = .int .i64 acc ∧ Hid (digsN T.data.toList f j 0 = .inr acc) ∧ f + j ≤ T.size ∧ Hid (w = wr)) (fun i _ _ => f + 12 - (intOf i).toNat)
  case atStart => exact ⟨0, 0, by omega, by simp, rfl, hide rfl, by omega, hide rfl⟩
  case round =>
    obtain ⟨j, acc, hj, rfl, rfl, HN, hfj, HW⟩ := hrel
    obtain rfl := HW.out
    have hv := digsN_val j f 0 acc HN.out
    have hvl := valL_lt _ hv.1
    have ha0 : 0 ≤ acc := by rw [hv.2.2.1]; omega
    have ha1 : acc ≤ 1000000000000 := by
      have h1 : (valL (piece T.data.toList f (f + j)) : Int) < (10 : Int) ^ 12 := by
        have : valL (piece T.data.toList f (f + j)) < 10 ^ 12 := Nat.lt_of_lt_of_le hvl (Nat.pow_le_pow_right (by decide) (by rw [hv.2.1]; omega))
        exact_mod_cast this
      have h3 : (10 : Int) ^ 12 = 1000000000000 := by decide
      rw [hv.2.2.1]; omega
    clear hv hvl
    obtain ⟨p, hp⟩ : ∃ p, f + j = p := ⟨_, rfl⟩
    have HP := hide hp
    have u2 : IntKind.i64.wrap ((f : Int) + 12) = (f : Int) + 12 := IntWalk.i64_in _ (by omega)
    have HY := hide (HYES.out j acc)
    have HNX := hide (fun hd => digsN_snoc (T := T.data.toList) j f 0 acc HN.out hd)
    rw [hp] at HY HNX hfj ⊢
    clear hp
    have p0 : (0 : Int) ≤ (p : Int) := by omega
    have hap : at_ ≤ p := by have := HP.out; omega
    by_cases q1 : p < T.size
    · have q1' : (p : Int) < (T.size : Int) := by omega
      by_cases q2 : j < 12
      · have q2' : (p : Int) < (f : Int) + 12 := by have := HP.out; omega
        have hgd := getD_at q1
        rw [hgd] at HY HNX
        have HDC := hide (HDG.out T[p])
        cases hdg : isDg T[p]
        · rw [hdg] at HDC HY
          have HNG := hide hdg
          have HSTOP := hide (fun (h0 : 0 < j) => HY.out h0 hj (by first | exact HN.out | trivial) (.inr rfl))
          have HZ : Hid (j = 0 → rdL T.data.toList [.dir 115] at_ [] = .inl f) := hide (fun e => HNO.out (by rw [show f = p by (have := HP.out; omega), hgd]; exact HNG.out))
          clear hgd hdg HY
          go_wp2_with fail
          refine (HDC.out _).mono ?_
          rintro e w' ⟨rfl, rfl⟩
          by_cases h0 : j = 0
          · have HR : Hid (rdL T.data.toList [.dir 115] at_ [] = .inl p) := hide (by rw [HZ.out h0, show f = p by (have := HP.out; omega)])
            have hpf : ((p : Int) == (f : Int)) = true := by have := HP.out; simp; omega
            clear h0 HZ
            go_wp2_with fail
            go_ret2
            exact ⟨Below.refl _ _, .inl ⟨p, HR.out, rfl⟩⟩
          · have hpf : ((p : Int) == (f : Int)) = false := by have := HP.out; simp; omega
            have hap' : (at_ : Int) ≤ (p : Int) := by omega
            have hpT : (p : Int) ≤ (T.size : Int) := by omega
            obtain ⟨PP, hPP⟩ : ∃ PP, piece T.data.toList at_ p = PP := ⟨_, rfl⟩
            have HR : Hid (rdL T.data.toList [.dir 115] at_ [] = .inr (p, [⟨115, -acc, PP⟩])) := hide (by rw [HSTOP.out (by omega), hPP])
            have HFV : Hid ({fvOf L with t := -acc, timed := true} = fvOf (L ++ [⟨115, -acc, PP⟩])) := hide (by rw [fv_next]; simp [fvOf, mapL])
            have HX : Hid (T.extract at_ p = mkB PP) := hide (by rw [extract_piece hfj, hPP])
            have HPS : Hid (PSt 54 64 b {fvOf L with t := -acc, timed := true} L pv pv w ((w.setCell ⟨b, 6, none⟩ (.int .i64 (-acc))).setCell ⟨b, 7, none⟩ (.bool true))) := hide ⟨HPS0.out.row.setT (-acc), own_only (own_only HPS0.out.own (only_set w b 6 _)) (only_set _ b 7 _), (HPS0.out.bel.setCell (p := ⟨b, 6, none⟩) (Nat.le_refl _) _).setCell (p := ⟨b, 7, none⟩) (Nat.le_refl _) _⟩
            obtain ⟨⟨c0, c1, c2⟩, ⟨c3, c4, c5⟩, c6, c7, c8⟩ := HPS0.out.row.cells
            have hblt := HPS0.out.row.lt
            have f6 := HPS0.out.row.frozen 6
            have f7 := HPS0.out.row.frozen 7
            clear h0 HZ HSTOP hPP
            go_wp2_with fail
            go_region_law (refine step_part (w0 := w) (tF := 54) (b := b) (F := {fvOf L with t := -acc, timed := true}) (L := L) (pr := pv) (po := pv) (by rfl) (.tmp 198) (.tmp 205) (by rfl) (by rfl) ⟨115, (-acc), PP⟩ ?_ ?_ (by assumption) ?_; (focus ((repeat (first | assumption | exact HPS.out | refine PSt.alloc ?_ _ | refine PSt.drew ?_)); done)); (focus (refine ⟨_, rfl, ?_, ?_⟩; (focus (show _ = some (Value.int .u8 115); go_simp; done)); (focus (show _ = some (Value.string (mkB PP)); rw [← HX.out]; go_simp; done)))); intro g cap w2 hps; have f8 := hps.facts.2; have c8 := hps.facts.1)
            all_goals
              go_wp2_with fail
              obtain ⟨hfs, hbl⟩ := hps.fin HFV.out
              go_ret2
              exact ⟨hbl, .inr ⟨_, _, HR.out, rfl, hfs⟩⟩
        · have hn2 := HNX.out hdg
          have HN2 := hide hn2
          have u3 := u8_sub48 hdg
          have g8 := (isDg_iff _).1 hdg
          have g1 : 48 ≤ (T[p].toNat : Int) := by omega
          have g2 : (T[p].toNat : Int) ≤ 57 := by omega
          rw [hdg] at HDC
          clear hgd hdg HY hn2 HNX g8
          go_wp2_with fail
          refine (HDC.out _).mono ?_
          rintro e w' ⟨rfl, rfl⟩
          go_wp2_with fail
          go_roundw
          case rel => exact ⟨j + 1, _, by omega, by have hpo := HP.out; first | go_num | (simp; omega), by first | rfl | trivial, HN2, by have hpo := HP.out; omega, by first | exact hide rfl | exact hide trivial⟩
          case measure => have hpo := HP.out; simp [intOf]; omega
      · have q2' : ¬ (p : Int) < (f : Int) + 12 := by have := HP.out; omega
        have HSTOP := hide (fun (h0 : 0 < j) => HY.out h0 hj (by first | exact HN.out | trivial) (.inl (by omega)))
        have HZ : Hid (j = 0 → rdL T.data.toList [.dir 115] at_ [] = .inl f) := hide (fun e => by omega)
        clear HY
        by_cases h0 : j = 0
        · have HR : Hid (rdL T.data.toList [.dir 115] at_ [] = .inl p) := hide (by rw [HZ.out h0, show f = p by (have := HP.out; omega)])
          have hpf : ((p : Int) == (f : Int)) = true := by have := HP.out; simp; omega
          clear h0 HZ
          go_wp2_with fail
          go_ret2
          exact ⟨Below.refl _ _, .inl ⟨p, HR.out, rfl⟩⟩
        · have hpf : ((p : Int) == (f : Int)) = false := by have := HP.out; simp; omega
          have hap' : (at_ : Int) ≤ (p : Int) := by omega
          have hpT : (p : Int) ≤ (T.size : Int) := by omega
          obtain ⟨PP, hPP⟩ : ∃ PP, piece T.data.toList at_ p = PP := ⟨_, rfl⟩
          have HR : Hid (rdL T.data.toList [.dir 115] at_ [] = .inr (p, [⟨115, -acc, PP⟩])) := hide (by rw [HSTOP.out (by omega), hPP])
          have HFV : Hid ({fvOf L with t := -acc, timed := true} = fvOf (L ++ [⟨115, -acc, PP⟩])) := hide (by rw [fv_next]; simp [fvOf, mapL])
          have HX : Hid (T.extract at_ p = mkB PP) := hide (by rw [extract_piece hfj, hPP])
          have HPS : Hid (PSt 54 64 b {fvOf L with t := -acc, timed := true} L pv pv w ((w.setCell ⟨b, 6, none⟩ (.int .i64 (-acc))).setCell ⟨b, 7, none⟩ (.bool true))) := hide ⟨HPS0.out.row.setT (-acc), own_only (own_only HPS0.out.own (only_set w b 6 _)) (only_set _ b 7 _), (HPS0.out.bel.setCell (p := ⟨b, 6, none⟩) (Nat.le_refl _) _).setCell (p := ⟨b, 7, none⟩) (Nat.le_refl _) _⟩
          obtain ⟨⟨c0, c1, c2⟩, ⟨c3, c4, c5⟩, c6, c7, c8⟩ := HPS0.out.row.cells
          have hblt := HPS0.out.row.lt
          have f6 := HPS0.out.row.frozen 6
          have f7 := HPS0.out.row.frozen 7
          clear h0 HZ HSTOP hPP
          go_wp2_with fail
          go_region_law (refine step_part (w0 := w) (tF := 54) (b := b) (F := {fvOf L with t := -acc, timed := true}) (L := L) (pr := pv) (po := pv) (by rfl) (.tmp 198) (.tmp 205) (by rfl) (by rfl) ⟨115, (-acc), PP⟩ ?_ ?_ (by assumption) ?_; (focus ((repeat (first | assumption | exact HPS.out | refine PSt.alloc ?_ _ | refine PSt.drew ?_)); done)); (focus (refine ⟨_, rfl, ?_, ?_⟩; (focus (show _ = some (Value.int .u8 115); go_simp; done)); (focus (show _ = some (Value.string (mkB PP)); rw [← HX.out]; go_simp; done)))); intro g cap w2 hps; have f8 := hps.facts.2; have c8 := hps.facts.1)
          all_goals
            go_wp2_with fail
            obtain ⟨hfs, hbl⟩ := hps.fin HFV.out
            go_ret2
            exact ⟨hbl, .inr ⟨_, _, HR.out, rfl, hfs⟩⟩
    · have q1' : ¬ (p : Int) < (T.size : Int) := by omega
      have hgd : T.data.toList.getD p 0 = 0 := getD_off (by omega)
      have HSTOP := hide (fun (h0 : 0 < j) => HY.out h0 hj (by first | exact HN.out | trivial) (.inr (by rw [hgd]; rfl)))
      have HZ : Hid (j = 0 → rdL T.data.toList [.dir 115] at_ [] = .inl f) := hide (fun e => HNO.out (by rw [show f = p by (have := HP.out; omega), hgd]; rfl))
      clear HY hgd
      by_cases h0 : j = 0
      · have HR : Hid (rdL T.data.toList [.dir 115] at_ [] = .inl p) := hide (by rw [HZ.out h0, show f = p by (have := HP.out; omega)])
        have hpf : ((p : Int) == (f : Int)) = true := by have := HP.out; simp; omega
        clear h0 HZ
        go_wp2_with fail
        go_ret2
        exact ⟨Below.refl _ _, .inl ⟨p, HR.out, rfl⟩⟩
      · have hpf : ((p : Int) == (f : Int)) = false := by have := HP.out; simp; omega
        have hap' : (at_ : Int) ≤ (p : Int) := by omega
        have hpT : (p : Int) ≤ (T.size : Int) := by omega
        obtain ⟨PP, hPP⟩ : ∃ PP, piece T.data.toList at_ p = PP := ⟨_, rfl⟩
        have HR : Hid (rdL T.data.toList [.dir 115] at_ [] = .inr (p, [⟨115, -acc, PP⟩])) := hide (by rw [HSTOP.out (by omega), hPP])
        have HFV : Hid ({fvOf L with t := -acc, timed := true} = fvOf (L ++ [⟨115, -acc, PP⟩])) := hide (by rw [fv_next]; simp [fvOf, mapL])
        have HX : Hid (T.extract at_ p = mkB PP) := hide (by rw [extract_piece hfj, hPP])
        have HPS : Hid (PSt 54 64 b {fvOf L with t := -acc, timed := true} L pv pv w ((w.setCell ⟨b, 6, none⟩ (.int .i64 (-acc))).setCell ⟨b, 7, none⟩ (.bool true))) := hide ⟨HPS0.out.row.setT (-acc), own_only (own_only HPS0.out.own (only_set w b 6 _)) (only_set _ b 7 _), (HPS0.out.bel.setCell (p := ⟨b, 6, none⟩) (Nat.le_refl _) _).setCell (p := ⟨b, 7, none⟩) (Nat.le_refl _) _⟩
        obtain ⟨⟨c0, c1, c2⟩, ⟨c3, c4, c5⟩, c6, c7, c8⟩ := HPS0.out.row.cells
        have hblt := HPS0.out.row.lt
        have f6 := HPS0.out.row.frozen 6
        have f7 := HPS0.out.row.frozen 7
        clear h0 HZ HSTOP hPP
        go_wp2_with fail
        go_region_law (refine step_part (w0 := w) (tF := 54) (b := b) (F := {fvOf L with t := -acc, timed := true}) (L := L) (pr := pv) (po := pv) (by rfl) (.tmp 198) (.tmp 205) (by rfl) (by rfl) ⟨115, (-acc), PP⟩ ?_ ?_ (by assumption) ?_; (focus ((repeat (first | assumption | exact HPS.out | refine PSt.alloc ?_ _ | refine PSt.drew ?_)); done)); (focus (refine ⟨_, rfl, ?_, ?_⟩; (focus (show _ = some (Value.int .u8 115); go_simp; done)); (focus (show _ = some (Value.string (mkB PP)); rw [← HX.out]; go_simp; done)))); intro g cap w2 hps; have f8 := hps.facts.2; have c8 := hps.facts.1)
        all_goals
          go_wp2_with fail
          obtain ⟨hfs, hbl⟩ := hps.fin HFV.out
          go_ret2
          exact ⟨hbl, .inr ⟨_, _, HR.out, rfl, hfs⟩⟩
set_option maxHeartbeats 4000000 in
set_option maxRecDepth 100000 in
theorem read_se (b : Nat) (T : ByteArray) (at_ : Nat) (L : List It) (w : World) (h : FSt 54 64 b L w) (hat : at_ ≤ T.size) (hT : T.size ≤ 1000000) (hl : L.length ≤ 900000) (hend : T.size ≤ at_) :
    Calls Tryz.prog 22 #[.pointer (some ⟨b, 0, none⟩), .string T, .int .i64 (at_ : Int), .int .u8 115] w (ReadPost b T.data.toList [.dir 115] at_ L w) := by
  have hc : rd1 T.data.toList 115 at_ = rdTime T.data.toList at_ := by simp [rd1]
  have hg0 : T.data.toList.getD at_ 0 = 0 := getD_off hend
  have hsg : signOf T.data.toList at_ = 0 := by unfold signOf; rw [hg0]; rfl
  have HR : Hid (rdL T.data.toList [.dir 115] at_ [] = .inl at_) := hide (by
    rw [rdL_one]; show rd1 _ _ _ = _; rw [hc]
    have := rdTime_no (T := T.data.toList) (at_ := at_) (by rw [hsg, Nat.add_zero, hg0]; rfl)
    rw [hsg] at this; exact this)
  have t1 : ¬ (at_ : Int) < (T.size : Int) := by omega
  have u2 : IntKind.i64.wrap ((at_ : Int) + 12) = (at_ : Int) + 12 := IntWalk.i64_in _ (by omega)
  clear hc hg0 hsg h
  go_enter Tryz.func22, Tryz.ntmps22
  go_wp2_with fail
  refine wp_loop_rounds 1 ?_
  rw [rounds_succ]
  go_wp2_with fail
  go_ret2
  exact ⟨Below.refl _ _, .inl ⟨at_, HR.out, rfl⟩⟩
end Go.Proofs.YtifpmigghplmoaaGreatDoor

/- DReadWG -/
set_option linter.unusedVariables false
set_option linter.unusedSimpArgs false
namespace Go.Proofs.YtifpmigghplmoaaGreatDoor
open Go.RowKit Go.Pw
set_option maxHeartbeats 8000000 in
set_option maxRecDepth 100000 in
theorem read_sp (b : Nat) (T : ByteArray) (at_ : Nat) (L : List It) (w : World) (h : FSt 54 64 b L w) (hat : at_ ≤ T.size) (hT : T.size ≤ 1000000) (hl : L.length ≤ 900000) (h45 : ¬ T.data.toList.getD at_ 0 = 45) (hlt : at_ < T.size) :
    Calls Tryz.prog 22 #[.pointer (some ⟨b, 0, none⟩), .string T, .int .i64 (at_ : Int), .int .u8 115] w (ReadPost b T.data.toList [.dir 115] at_ L w) := by
  have HLS := hide (len_size T)
  have hl6 : L.length ≤ 1000000 := by omega
  obtain ⟨pv, hr, ho⟩ := h
  have HDG := hide (fun c W => digitD_any c W)
  have hc : rd1 T.data.toList 115 at_ = rdTime T.data.toList at_ := by simp [rd1]
  have hsg : signOf T.data.toList at_ = 0 := by unfold signOf; rw [if_neg h45]
  have g0 : (0 : Int) ≤ (at_ : Int) := by omega
  have HPS0 : Hid (PSt 54 64 b (fvOf L) L pv pv w w) := hide ⟨hr, ho, Below.refl _ _⟩
  have HNO : Hid (isDg (T.data.toList.getD (at_) 0) = false → rdL T.data.toList [.dir 115] at_ [] = .inl (at_)) := hide (fun hh => by
    rw [rdL_one]; show rd1 _ _ _ = _; rw [hc]
    have := rdTime_no (T := T.data.toList) (at_ := at_) (by rw [hsg]; exact hh)
    rw [hsg] at this; exact this)
  have HYES : Hid (∀ (j : Nat) (v : Int), 0 < j → j ≤ 12 → digsN T.data.toList (at_) j 0 = .inr v → (j = 12 ∨ isDg (T.data.toList.getD (at_ + j) 0) = false) → rdL T.data.toList [.dir 115] at_ [] = .inr (at_ + j, [⟨115, v, piece T.data.toList at_ (at_ + j)⟩])) := hide (fun j v h1 h2 h3 h4 => by
    rw [rdL_one]; show rd1 _ _ _ = _; rw [hc]
    have := rdTime_yes (T := T.data.toList) (at_ := at_) (j := j) (v := v) h1 h2 (by rw [hsg]; exact h3) (by rw [hsg]; exact h4)
    rw [hsg, if_neg h45] at this; exact this)
  have d1 : ((T[at_].toNat : Int) == 45) = false := by
    rw [getD_at hlt] at h45
    have : T[at_].toNat ≠ 45 := fun e => h45 (UInt8.toNat_inj.1 e)
    simp; omega
  have t1 : (at_ : Int) < (T.size : Int) := by omega
  obtain ⟨f, hf⟩ : ∃ f, at_ = f := ⟨_, rfl⟩
  rw [hf] at HNO
  simp only [hf] at HYES
  have hfT : f ≤ T.size := by omega
  have haf : at_ ≤ f := by omega
  subst hf
  clear hc hsg h45 hr ho
  go_enter Tryz.func22, Tryz.ntmps22
  go_wp2_with fail
  go_loopw [2, 10] (fun i n wr => ∃ (j : Nat) (acc : Int), j ≤ 12 ∧ i = .int .i64 ((at_ + j : Nat) : Int) ∧ n = .int .i64 acc ∧ Hid (digsN T.data.toList at_ j 0 = .inr acc) ∧ at_ + j ≤ T.size ∧ Hid (w = wr)) (fun i _ _ => at_ + 12 - (intOf i).toNat)
  case atStart => exact ⟨0, 0, by omega, by simp, rfl, hide rfl, by omega, hide rfl⟩
  case round =>
    obtain ⟨j, acc, hj, rfl, rfl, HN, hfj, HW⟩ := hrel
    obtain rfl := HW.out
    have hv := digsN_val j at_ 0 acc HN.out
    have hvl := valL_lt _ hv.1
    have ha0 : 0 ≤ acc := by rw [hv.2.2.1]; omega
    have ha1 : acc ≤ 1000000000000 := by
      have h1 : (valL (piece T.data.toList at_ (at_ + j)) : Int) < (10 : Int) ^ 12 := by
        have : valL (piece T.data.toList at_ (at_ + j)) < 10 ^ 12 := Nat.lt_of_lt_of_le hvl (Nat.pow_le_pow_right (by decide) (by rw [hv.2.1]; omega))
        exact_mod_cast this
      have h3 : (10 : Int) ^ 12 = 1000000000000 := by decide
      rw [hv.2.2.1]; omega
    clear hv hvl
    obtain ⟨p, hp⟩ : ∃ p, at_ + j = p := ⟨_, rfl⟩
    have HP := hide hp
    have u2 : IntKind.i64.wrap ((at_ : Int) + 12) = (at_ : Int) + 12 := IntWalk.i64_in _ (by omega)
    have HY := hide (HYES.out j acc)
    have HNX := hide (fun hd => digsN_snoc (T := T.data.toList) j at_ 0 acc HN.out hd)
    rw [hp] at HY HNX hfj ⊢
    clear hp
    have p0 : (0 : Int) ≤ (p : Int) := by omega
    have hap : at_ ≤ p := by have := HP.out; omega
    by_cases q1 : p < T.size
    · have q1' : (p : Int) < (T.size : Int) := by omega
      by_cases q2 : j < 12
      · have q2' : (p : Int) < (at_ : Int) + 12 := by have := HP.out; omega
        have hgd := getD_at q1
        rw [hgd] at HY HNX
        have HDC := hide (HDG.out T[p])
        cases hdg : isDg T[p]
        · rw [hdg] at HDC HY
          have HNG := hide hdg
          have HSTOP := hide (fun (h0 : 0 < j) => HY.out h0 hj (by first | exact HN.out | trivial) (.inr rfl))
          have HZ : Hid (j = 0 → rdL T.data.toList [.dir 115] at_ [] = .inl at_) := hide (fun e => HNO.out (by rw [show at_ = p by (have := HP.out; omega), hgd]; exact HNG.out))
          clear hgd hdg HY
          go_wp2_with fail
          refine (HDC.out _).mono ?_
          rintro e w' ⟨rfl, rfl⟩
          by_cases h0 : j = 0
          · have HR : Hid (rdL T.data.toList [.dir 115] at_ [] = .inl p) := hide (by rw [HZ.out h0, show at_ = p by (have := HP.out; omega)])
            have hpf : ((p : Int) == (at_ : Int)) = true := by have := HP.out; simp; omega
            clear h0 HZ
            go_wp2_with fail
            go_ret2
            exact ⟨Below.refl _ _, .inl ⟨p, HR.out, rfl⟩⟩
          · have hpf : ((p : Int) == (at_ : Int)) = false := by have := HP.out; simp; omega
            have hap' : (at_ : Int) ≤ (p : Int) := by omega
            have hpT : (p : Int) ≤ (T.size : Int) := by omega
            obtain ⟨PP, hPP⟩ : ∃ PP, piece T.data.toList at_ p = PP := ⟨_, rfl⟩
            have HR : Hid (rdL T.data.toList [.dir 115] at_ [] = .inr (p, [⟨115, acc, PP⟩])) := hide (by rw [HSTOP.out (by omega), hPP])
            have HFV : Hid ({fvOf L with t := acc, timed := true} = fvOf (L ++ [⟨115, acc, PP⟩])) := hide (by rw [fv_next]; simp [fvOf, mapL])
            have HX : Hid (T.extract at_ p = mkB PP) := hide (by rw [extract_piece hfj, hPP])
            have HPS : Hid (PSt 54 64 b {fvOf L with t := acc, timed := true} L pv pv w ((w.setCell ⟨b, 6, none⟩ (.int .i64 (acc))).setCell ⟨b, 7, none⟩ (.bool true))) := hide ⟨HPS0.out.row.setT (acc), own_only (own_only HPS0.out.own (only_set w b 6 _)) (only_set _ b 7 _), (HPS0.out.bel.setCell (p := ⟨b, 6, none⟩) (Nat.le_refl _) _).setCell (p := ⟨b, 7, none⟩) (Nat.le_refl _) _⟩
            obtain ⟨⟨c0, c1, c2⟩, ⟨c3, c4, c5⟩, c6, c7, c8⟩ := HPS0.out.row.cells
            have hblt := HPS0.out.row.lt
            have f6 := HPS0.out.row.frozen 6
            have f7 := HPS0.out.row.frozen 7
            clear h0 HZ HSTOP hPP
            go_wp2_with fail
            go_region_law (refine step_part (w0 := w) (tF := 54) (b := b) (F := {fvOf L with t := acc, timed := true}) (L := L) (pr := pv) (po := pv) (by rfl) (.tmp 198) (.tmp 205) (by rfl) (by rfl) ⟨115, (acc), PP⟩ ?_ ?_ (by assumption) ?_; (focus ((repeat (first | assumption | exact HPS.out | refine PSt.alloc ?_ _ | refine PSt.drew ?_)); done)); (focus (refine ⟨_, rfl, ?_, ?_⟩; (focus (show _ = some (Value.int .u8 115); go_simp; done)); (focus (show _ = some (Value.string (mkB PP)); rw [← HX.out]; go_simp; done)))); intro g cap w2 hps; have f8 := hps.facts.2; have c8 := hps.facts.1)
            all_goals
              go_wp2_with fail
              obtain ⟨hfs, hbl⟩ := hps.fin HFV.out
              go_ret2
              exact ⟨hbl, .inr ⟨_, _, HR.out, rfl, hfs⟩⟩
        · have hn2 := HNX.out hdg
          have HN2 := hide hn2
          have u3 := u8_sub48 hdg
          have g8 := (isDg_iff _).1 hdg
          have g1 : 48 ≤ (T[p].toNat : Int) := by omega
          have g2 : (T[p].toNat : Int) ≤ 57 := by omega
          rw [hdg] at HDC
          clear hgd hdg HY hn2 HNX g8
          go_wp2_with fail
          refine (HDC.out _).mono ?_
          rintro e w' ⟨rfl, rfl⟩
          go_wp2_with fail
          go_roundw
          case rel => exact ⟨j + 1, _, by omega, by have hpo := HP.out; first | go_num | (simp; omega), by first | rfl | trivial, HN2, by have hpo := HP.out; omega, by first | exact hide rfl | exact hide trivial⟩
          case measure => have hpo := HP.out; simp [intOf]; omega
      · have q2' : ¬ (p : Int) < (at_ : Int) + 12 := by have := HP.out; omega
        have HSTOP := hide (fun (h0 : 0 < j) => HY.out h0 hj (by first | exact HN.out | trivial) (.inl (by omega)))
        have HZ : Hid (j = 0 → rdL T.data.toList [.dir 115] at_ [] = .inl at_) := hide (fun e => by omega)
        clear HY
        by_cases h0 : j = 0
        · have HR : Hid (rdL T.data.toList [.dir 115] at_ [] = .inl p) := hide (by rw [HZ.out h0, show at_ = p by (have := HP.out; omega)])
          have hpf : ((p : Int) == (at_ : Int)) = true := by have := HP.out; simp; omega
          clear h0 HZ
          go_wp2_with fail
          go_ret2
          exact ⟨Below.refl _ _, .inl ⟨p, HR.out, rfl⟩⟩
        · have hpf : ((p : Int) == (at_ : Int)) = false := by have := HP.out; simp; omega
          have hap' : (at_ : Int) ≤ (p : Int) := by omega
          have hpT : (p : Int) ≤ (T.size : Int) := by omega
          obtain ⟨PP, hPP⟩ : ∃ PP, piece T.data.toList at_ p = PP := ⟨_, rfl⟩
          have HR : Hid (rdL T.data.toList [.dir 115] at_ [] = .inr (p, [⟨115, acc, PP⟩])) := hide (by rw [HSTOP.out (by omega), hPP])
          have HFV : Hid ({fvOf L with t := acc, timed := true} = fvOf (L ++ [⟨115, acc, PP⟩])) := hide (by rw [fv_next]; simp [fvOf, mapL])
          have HX : Hid (T.extract at_ p = mkB PP) := hide (by rw [extract_piece hfj, hPP])
          have HPS : Hid (PSt 54 64 b {fvOf L with t := acc, timed := true} L pv pv w ((w.setCell ⟨b, 6, none⟩ (.int .i64 (acc))).setCell ⟨b, 7, none⟩ (.bool true))) := hide ⟨HPS0.out.row.setT (acc), own_only (own_only HPS0.out.own (only_set w b 6 _)) (only_set _ b 7 _), (HPS0.out.bel.setCell (p := ⟨b, 6, none⟩) (Nat.le_refl _) _).setCell (p := ⟨b, 7, none⟩) (Nat.le_refl _) _⟩
          obtain ⟨⟨c0, c1, c2⟩, ⟨c3, c4, c5⟩, c6, c7, c8⟩ := HPS0.out.row.cells
          have hblt := HPS0.out.row.lt
          have f6 := HPS0.out.row.frozen 6
          have f7 := HPS0.out.row.frozen 7
          clear h0 HZ HSTOP hPP
          go_wp2_with fail
          go_region_law (refine step_part (w0 := w) (tF := 54) (b := b) (F := {fvOf L with t := acc, timed := true}) (L := L) (pr := pv) (po := pv) (by rfl) (.tmp 198) (.tmp 205) (by rfl) (by rfl) ⟨115, (acc), PP⟩ ?_ ?_ (by assumption) ?_; (focus ((repeat (first | assumption | exact HPS.out | refine PSt.alloc ?_ _ | refine PSt.drew ?_)); done)); (focus (refine ⟨_, rfl, ?_, ?_⟩; (focus (show _ = some (Value.int .u8 115); go_simp; done)); (focus (show _ = some (Value.string (mkB PP)); rw [← HX.out]; go_simp; done)))); intro g cap w2 hps; have f8 := hps.facts.2; have c8 := hps.facts.1)
          all_goals
            go_wp2_with fail
            obtain ⟨hfs, hbl⟩ := hps.fin HFV.out
            go_ret2
            exact ⟨hbl, .inr ⟨_, _, HR.out, rfl, hfs⟩⟩
    · have q1' : ¬ (p : Int) < (T.size : Int) := by omega
      have hgd : T.data.toList.getD p 0 = 0 := getD_off (by omega)
      have HSTOP := hide (fun (h0 : 0 < j) => HY.out h0 hj (by first | exact HN.out | trivial) (.inr (by rw [hgd]; rfl)))
      have HZ : Hid (j = 0 → rdL T.data.toList [.dir 115] at_ [] = .inl at_) := hide (fun e => HNO.out (by rw [show at_ = p by (have := HP.out; omega), hgd]; rfl))
      clear HY hgd
      by_cases h0 : j = 0
      · have HR : Hid (rdL T.data.toList [.dir 115] at_ [] = .inl p) := hide (by rw [HZ.out h0, show at_ = p by (have := HP.out; omega)])
        have hpf : ((p : Int) == (at_ : Int)) = true := by have := HP.out; simp; omega
        clear h0 HZ
        go_wp2_with fail
        go_ret2
        exact ⟨Below.refl _ _, .inl ⟨p, HR.out, rfl⟩⟩
      · have hpf : ((p : Int) == (at_ : Int)) = false := by have := HP.out; simp; omega
        have hap' : (at_ : Int) ≤ (p : Int) := by omega
        have hpT : (p : Int) ≤ (T.size : Int) := by omega
        obtain ⟨PP, hPP⟩ : ∃ PP, piece T.data.toList at_ p = PP := ⟨_, rfl⟩
        have HR : Hid (rdL T.data.toList [.dir 115] at_ [] = .inr (p, [⟨115, acc, PP⟩])) := hide (by rw [HSTOP.out (by omega), hPP])
        have HFV : Hid ({fvOf L with t := acc, timed := true} = fvOf (L ++ [⟨115, acc, PP⟩])) := hide (by rw [fv_next]; simp [fvOf, mapL])
        have HX : Hid (T.extract at_ p = mkB PP) := hide (by rw [extract_piece hfj, hPP])
        have HPS : Hid (PSt 54 64 b {fvOf L with t := acc, timed := true} L pv pv w ((w.setCell ⟨b, 6, none⟩ (.int .i64 (acc))).setCell ⟨b, 7, none⟩ (.bool true))) := hide ⟨HPS0.out.row.setT (acc), own_only (own_only HPS0.out.own (only_set w b 6 _)) (only_set _ b 7 _), (HPS0.out.bel.setCell (p := ⟨b, 6, none⟩) (Nat.le_refl _) _).setCell (p := ⟨b, 7, none⟩) (Nat.le_refl _) _⟩
        obtain ⟨⟨c0, c1, c2⟩, ⟨c3, c4, c5⟩, c6, c7, c8⟩ := HPS0.out.row.cells
        have hblt := HPS0.out.row.lt
        have f6 := HPS0.out.row.frozen 6
        have f7 := HPS0.out.row.frozen 7
        clear h0 HZ HSTOP hPP
        go_wp2_with fail
        go_region_law (refine step_part (w0 := w) (tF := 54) (b := b) (F := {fvOf L with t := acc, timed := true}) (L := L) (pr := pv) (po := pv) (by rfl) (.tmp 198) (.tmp 205) (by rfl) (by rfl) ⟨115, (acc), PP⟩ ?_ ?_ (by assumption) ?_; (focus ((repeat (first | assumption | exact HPS.out | refine PSt.alloc ?_ _ | refine PSt.drew ?_)); done)); (focus (refine ⟨_, rfl, ?_, ?_⟩; (focus (show _ = some (Value.int .u8 115); go_simp; done)); (focus (show _ = some (Value.string (mkB PP)); rw [← HX.out]; go_simp; done)))); intro g cap w2 hps; have f8 := hps.facts.2; have c8 := hps.facts.1)
        all_goals
          go_wp2_with fail
          obtain ⟨hfs, hbl⟩ := hps.fin HFV.out
          go_ret2
          exact ⟨hbl, .inr ⟨_, _, HR.out, rfl, hfs⟩⟩
end Go.Proofs.YtifpmigghplmoaaGreatDoor
