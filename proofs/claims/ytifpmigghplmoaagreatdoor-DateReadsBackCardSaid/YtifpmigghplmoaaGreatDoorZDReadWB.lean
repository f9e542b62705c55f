/- A time is read along a format: the reference's read: the directives that tell one thing. -/
import Derived.Test.YtifpmigghplmoaaGreatDoorZDrG
import Derived.Deep.RegionLaw
set_option linter.unusedVariables false
set_option linter.unusedSimpArgs false
namespace Go.Proofs.YtifpmigghplmoaaGreatDoor
open Go.RowKit Go.Pw
set_option maxHeartbeats 4000000 in
set_option maxRecDepth 100000 in
theorem read_d (b : Nat) (T : ByteArray) (at_ : Nat) (L : List It) (w : World) (h : FSt 54 64 b L w) (hat : at_ ≤ T.size) (hT : T.size ≤ 1000000) (hl : L.length ≤ 900000) :
    Calls Tryz.prog 22 #[.pointer (some ⟨b, 0, none⟩), .string T, .int .i64 (at_ : Int), .int .u8 100] w (ReadPost b T.data.toList [.dir 100] at_ L w) := by
  have HLS := hide (len_size T)
  have hl6 : L.length ≤ 1000000 := by omega
  obtain ⟨pv, hr, ho⟩ := h
  have HLT := hide hr.lt
  have HDA := hide (fun W => digitsAt_any T at_ 2 W hT (by omega) (by omega))
  have hc : rd1 T.data.toList 100 at_ = rdNum T.data.toList 100 at_ at_ 2 := by simp [rd1]
  cases hd : digsN T.data.toList at_ 2 0 with
  | inl q =>
    have HR : Hid (rdL T.data.toList [.dir 100] at_ [] = .inl q) := hide (by rw [rdL_one]; show rd1 _ _ _ = _; rw [hc]; unfold rdNum; rw [hd])
    simp only [dgV_l hd] at HDA
    have hq0 : (0 : Int) ≤ (q : Int) := by omega
    clear hc hd hr ho
    go_enter Tryz.func22, Tryz.ntmps22
    go_wp2_with fail
    refine (HDA.out _).mono ?_
    rintro e w' ⟨rfl, rfl⟩
    go_wp2_with fail
    go_ret2
    exact ⟨Below.refl _ _, .inl ⟨q, HR.out, rfl⟩⟩
  | inr v =>
    have hle : at_ + 2 ≤ T.size := by have h4 := (digsN_val 2 at_ 0 v hd).2.2.2; have h5 := HLS.out; omega
    obtain ⟨PP, hPP⟩ : ∃ PP, piece T.data.toList at_ (at_ + 2) = PP := ⟨_, rfl⟩
    have HR : Hid (rdL T.data.toList [.dir 100] at_ [] = .inr (at_ + 2, [⟨100, v, PP⟩])) := hide (by rw [rdL_one]; show rd1 _ _ _ = _; rw [hc]; unfold rdNum; rw [hd, hPP])
    have HFV : Hid ({fvOf L with d := v} = fvOf (L ++ [⟨100, v, PP⟩])) := hide (by rw [fv_next]; simp [fvOf, mapL])
    have HX : Hid (T.extract at_ (at_ + 2) = mkB PP) := hide (by rw [extract_piece hle, hPP])
    simp only [dgV_r hd] at HDA
    obtain ⟨p2, hp2⟩ : ∃ p2, at_ + 2 = p2 := ⟨_, rfl⟩
    have u1 : IntKind.i64.wrap ((at_ : Int) + 2) = (p2 : Int) := by rw [show (at_ : Int) + 2 = (p2 : Int) by omega]; exact IntWalk.i64_in _ (by omega)
    rw [hp2] at HR HX hle
    have g0 : at_ ≤ p2 := by omega
    clear hc hd hPP hp2
    have hr2 : FRow 54 b {fvOf L with d := v} pv (w.setCell ⟨b, 2, none⟩ (.int .i64 v)) := hr.set2 v
    have HPS : Hid (PSt 54 64 b {fvOf L with d := v} L pv pv w (w.setCell ⟨b, 2, none⟩ (.int .i64 v))) := hide ⟨hr2, own_only ho (only_set w b 2 _), (Below.refl _ _).setCell (p := ⟨b, 2, none⟩) (Nat.le_refl _) _⟩
    have fj := hr.frozen 2
    obtain ⟨⟨c0, c1, c2⟩, ⟨c3, c4, c5⟩, c6, c7, c8⟩ := hr.cells
    have hblt := hr.lt
    have g1 : (0 : Int) ≤ (at_ : Int) := by omega
    have g2 : (at_ : Int) ≤ (p2 : Int) := by omega
    have g3 : (p2 : Int) ≤ (T.size : Int) := by omega
    have g4 : (0 : Int) ≤ (p2 : Int) := by omega
    clear hr ho hr2
    go_enter Tryz.func22, Tryz.ntmps22
    go_wp2_with fail
    refine (HDA.out _).mono ?_
    rintro e w' ⟨rfl, rfl⟩
    go_wp2_with fail
    go_region_law (refine step_part (w0 := w) (tF := 54) (b := b) (F := {fvOf L with d := v}) (L := L) (pr := pv) (po := pv) (by rfl) (.tmp 304) (.tmp 313) (by rfl) (by rfl) ⟨100, v, PP⟩ ?_ ?_ (by assumption) ?_; (focus ((repeat (first | assumption | exact HPS.out | refine PSt.alloc ?_ _ | refine PSt.drew ?_)); done)); (focus (refine ⟨_, rfl, ?_, ?_⟩; (focus (show _ = some (Value.int .u8 100); go_simp; done)); (focus (show _ = some (Value.string (mkB PP)); rw [← HX.out]; go_simp; done)))); intro g cap w2 hps; have f8 := hps.facts.2; have c8 := hps.facts.1)
    all_goals
      go_wp2_with fail
      obtain ⟨hfs, hbl⟩ := hps.fin HFV.out
      go_ret2
      exact ⟨hbl, .inr ⟨_, _, HR.out, rfl, hfs⟩⟩
set_option maxHeartbeats 4000000 in
set_option maxRecDepth 100000 in
theorem read_H (b : Nat) (T : ByteArray) (at_ : Nat) (L : List It) (w : World) (h : FSt 54 64 b L w) (hat : at_ ≤ T.size) (hT : T.size ≤ 1000000) (hl : L.length ≤ 900000) :
    Calls Tryz.prog 22 #[.pointer (some ⟨b, 0, none⟩), .string T, .int .i64 (at_ : Int), .int .u8 72] w (ReadPost b T.data.toList [.dir 72] at_ L w) := by
  have HLS := hide (len_size T)
  have hl6 : L.length ≤ 1000000 := by omega
  obtain ⟨pv, hr, ho⟩ := h
  have HLT := hide hr.lt
  have HDA := hide (fun W => digitsAt_any T at_ 2 W hT (by omega) (by omega))
  have hc : rd1 T.data.toList 72 at_ = rdNum T.data.toList 72 at_ at_ 2 := by simp [rd1]
  cases hd : digsN T.data.toList at_ 2 0 with
  | inl q =>
    have HR : Hid (rdL T.data.toList [.dir 72] at_ [] = .inl q) := hide (by rw [rdL_one]; show rd1 _ _ _ = _; rw [hc]; unfold rdNum; rw [hd])
    simp only [dgV_l hd] at HDA
    have hq0 : (0 : Int) ≤ (q : Int) := by omega
    clear hc hd hr ho
    go_enter Tryz.func22, Tryz.ntmps22
    go_wp2_with fail
    refine (HDA.out _).mono ?_
    rintro e w' ⟨rfl, rfl⟩
    go_wp2_with fail
    go_ret2
    exact ⟨Below.refl _ _, .inl ⟨q, HR.out, rfl⟩⟩
  | inr v =>
    have hle : at_ + 2 ≤ T.size := by have h4 := (digsN_val 2 at_ 0 v hd).2.2.2; have h5 := HLS.out; omega
    obtain ⟨PP, hPP⟩ : ∃ PP, piece T.data.toList at_ (at_ + 2) = PP := ⟨_, rfl⟩
    have HR : Hid (rdL T.data.toList [.dir 72] at_ [] = .inr (at_ + 2, [⟨72, v, PP⟩])) := hide (by rw [rdL_one]; show rd1 _ _ _ = _; rw [hc]; unfold rdNum; rw [hd, hPP])
    have HFV : Hid ({fvOf L with h := v} = fvOf (L ++ [⟨72, v, PP⟩])) := hide (by rw [fv_next]; simp [fvOf, mapL])
    have HX : Hid (T.extract at_ (at_ + 2) = mkB PP) := hide (by rw [extract_piece hle, hPP])
    simp only [dgV_r hd] at HDA
    obtain ⟨p2, hp2⟩ : ∃ p2, at_ + 2 = p2 := ⟨_, rfl⟩
    have u1 : IntKind.i64.wrap ((at_ : Int) + 2) = (p2 : Int) := by rw [show (at_ : Int) + 2 = (p2 : Int) by omega]; exact IntWalk.i64_in _ (by omega)
    rw [hp2] at HR HX hle
    have g0 : at_ ≤ p2 := by omega
    clear hc hd hPP hp2
    have hr2 : FRow 54 b {fvOf L with h := v} pv (w.setCell ⟨b, 3, none⟩ (.int .i64 v)) := hr.set3 v
    have HPS : Hid (PSt 54 64 b {fvOf L with h := v} L pv pv w (w.setCell ⟨b, 3, none⟩ (.int .i64 v))) := hide ⟨hr2, own_only ho (only_set w b 3 _), (Below.refl _ _).setCell (p := ⟨b, 3, none⟩) (Nat.le_refl _) _⟩
    have fj := hr.frozen 3
    obtain ⟨⟨c0, c1, c2⟩, ⟨c3, c4, c5⟩, c6, c7, c8⟩ := hr.cells
    have hblt := hr.lt
    have g1 : (0 : Int) ≤ (at_ : Int) := by omega
    have g2 : (at_ : Int) ≤ (p2 : Int) := by omega
    have g3 : (p2 : Int) ≤ (T.size : Int) := by omega
    have g4 : (0 : Int) ≤ (p2 : Int) := by omega
    clear hr ho hr2
    go_enter Tryz.func22, Tryz.ntmps22
    go_wp2_with fail
    refine (HDA.out _).mono ?_
    rintro e w' ⟨rfl, rfl⟩
    go_wp2_with fail
    go_region_law (refine step_part (w0 := w) (tF := 54) (b := b) (F := {fvOf L with h := v}) (L := L) (pr := pv) (po := pv) (by rfl) (.tmp 304) (.tmp 313) (by rfl) (by rfl) ⟨72, v, PP⟩ ?_ ?_ (by assumption) ?_; (focus ((repeat (first | assumption | exact HPS.out | refine PSt.alloc ?_ _ | refine PSt.drew ?_)); done)); (focus (refine ⟨_, rfl, ?_, ?_⟩; (focus (show _ = some (Value.int .u8 72); go_simp; done)); (focus (show _ = some (Value.string (mkB PP)); rw [← HX.out]; go_simp; done)))); intro g cap w2 hps; have f8 := hps.facts.2; have c8 := hps.facts.1)
    all_goals
      go_wp2_with fail
      obtain ⟨hfs, hbl⟩ := hps.fin HFV.out
      go_ret2
      exact ⟨hbl, .inr ⟨_, _, HR.out, rfl, hfs⟩⟩
set_option maxHeartbeats 4000000 in
set_option maxRecDepth 100000 in
theorem read_M (b : Nat) (T : ByteArray) (at_ : Nat) (L : List It) (w : World) (h : FSt 54 64 b L w) (hat : at_ ≤ T.size) (hT : T.size ≤ 1000000) (hl : L.length ≤ 900000) :
    Calls Tryz.prog 22 #[.pointer (some ⟨b, 0, none⟩), .string T, .int .i64 (at_ : Int), .int .u8 77] w (ReadPost b T.data.toList [.dir 77] at_ L w) := by
  have HLS := hide (len_size T)
  have hl6 : L.length ≤ 1000000 := by omega
  obtain ⟨pv, hr, ho⟩ := h
  have HLT := hide hr.lt
  have HDA := hide (fun W => digitsAt_any T at_ 2 W hT (by omega) (by omega))
  have hc : rd1 T.data.toList 77 at_ = rdNum T.data.toList 77 at_ at_ 2 := by simp [rd1]
  cases hd : digsN T.data.toList at_ 2 0 with
  | inl q =>
    have HR : Hid (rdL T.data.toList [.dir 77] at_ [] = .inl q) := hide (by rw [rdL_one]; show rd1 _ _ _ = _; rw [hc]; unfold rdNum; rw [hd])
    simp only [dgV_l hd] at HDA
    have hq0 : (0 : Int) ≤ (q : Int) := by omega
    clear hc hd hr ho
    go_enter Tryz.func22, Tryz.ntmps22
    go_wp2_with fail
    refine (HDA.out _).mono ?_
    rintro e w' ⟨rfl, rfl⟩
    go_wp2_with fail
    go_ret2
    exact ⟨Below.refl _ _, .inl ⟨q, HR.out, rfl⟩⟩
  | inr v =>
    have hle : at_ + 2 ≤ T.size := by have h4 := (digsN_val 2 at_ 0 v hd).2.2.2; have h5 := HLS.out; omega
    obtain ⟨PP, hPP⟩ : ∃ PP, piece T.data.toList at_ (at_ + 2) = PP := ⟨_, rfl⟩
    have HR : Hid (rdL T.data.toList [.dir 77] at_ [] = .inr (at_ + 2, [⟨77, v, PP⟩])) := hide (by rw [rdL_one]; show rd1 _ _ _ = _; rw [hc]; unfold rdNum; rw [hd, hPP])
    have HFV : Hid ({fvOf L with mi := v} = fvOf (L ++ [⟨77, v, PP⟩])) := hide (by rw [fv_next]; simp [fvOf, mapL])
    have HX : Hid (T.extract at_ (at_ + 2) = mkB PP) := hide (by rw [extract_piece hle, hPP])
    simp only [dgV_r hd] at HDA
    obtain ⟨p2, hp2⟩ : ∃ p2, at_ + 2 = p2 := ⟨_, rfl⟩
    have u1 : IntKind.i64.wrap ((at_ : Int) + 2) = (p2 : Int) := by rw [show (at_ : Int) + 2 = (p2 : Int) by omega]; exact IntWalk.i64_in _ (by omega)
    rw [hp2] at HR HX hle
    have g0 : at_ ≤ p2 := by omega
    clear hc hd hPP hp2
    have hr2 : FRow 54 b {fvOf L with mi := v} pv (w.setCell ⟨b, 4, none⟩ (.int .i64 v)) := hr.set4 v
    have HPS : Hid (PSt 54 64 b {fvOf L with mi := v} L pv pv w (w.setCell ⟨b, 4, none⟩ (.int .i64 v))) := hide ⟨hr2, own_only ho (only_set w b 4 _), (Below.refl _ _).setCell (p := ⟨b, 4, none⟩) (Nat.le_refl _) _⟩
    have fj := hr.frozen 4
    obtain ⟨⟨c0, c1, c2⟩, ⟨c3, c4, c5⟩, c6, c7, c8⟩ := hr.cells
    have hblt := hr.lt
    have g1 : (0 : Int) ≤ (at_ : Int) := by omega
    have g2 : (at_ : Int) ≤ (p2 : Int) := by omega
    have g3 : (p2 : Int) ≤ (T.size : Int) := by omega
    have g4 : (0 : Int) ≤ (p2 : Int) := by omega
    clear hr ho hr2
    go_enter Tryz.func22, Tryz.ntmps22
    go_wp2_with fail
    refine (HDA.out _).mono ?_
    rintro e w' ⟨rfl, rfl⟩
    go_wp2_with fail
    go_region_law (refine step_part (w0 := w) (tF := 54) (b := b) (F := {fvOf L with mi := v}) (L := L) (pr := pv) (po := pv) (by rfl) (.tmp 304) (.tmp 313) (by rfl) (by rfl) ⟨77, v, PP⟩ ?_ ?_ (by assumption) ?_; (focus ((repeat (first | assumption | exact HPS.out | refine PSt.alloc ?_ _ | refine PSt.drew ?_)); done)); (focus (refine ⟨_, rfl, ?_, ?_⟩; (focus (show _ = some (Value.int .u8 77); go_simp; done)); (focus (show _ = some (Value.string (mkB PP)); rw [← HX.out]; go_simp; done)))); intro g cap w2 hps; have f8 := hps.facts.2; have c8 := hps.facts.1)
    all_goals
      go_wp2_with fail
      obtain ⟨hfs, hbl⟩ := hps.fin HFV.out
      go_ret2
      exact ⟨hbl, .inr ⟨_, _, HR.out, rfl, hfs⟩⟩
end Go.Proofs.YtifpmigghplmoaaGreatDoor
