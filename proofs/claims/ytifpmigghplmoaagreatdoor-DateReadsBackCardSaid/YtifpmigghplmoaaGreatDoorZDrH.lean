/- A time is read along a format: the reference's read: the directives that tell one thing. -/
import Derived.Test.YtifpmigghplmoaaGreatDoorZDrG
import Derived.Deep.RegionLaw
/- DReadWD -/
set_option linter.unusedVariables false
set_option linter.unusedSimpArgs false
namespace Go.Proofs.YtifpmigghplmoaaGreatDoor
open Go.RowKit Go.Pw
set_option maxHeartbeats 4000000 in
set_option maxRecDepth 100000 in
theorem read_eb (b : Nat) (T : ByteArray) (at_ : Nat) (L : List It) (w : World) (h : FSt 54 64 b L w) (hat : at_ ≤ T.size) (hT : T.size ≤ 1000000) (hl : L.length ≤ 900000) (hb : T.data.toList.getD at_ 0 = 32) :
    Calls Tryz.prog 22 #[.pointer (some ⟨b, 0, none⟩), .string T, .int .i64 (at_ : Int), .int .u8 101] w (ReadPost b T.data.toList [.dir 101] at_ L w) := by
  have HLS := hide (len_size T)
  have hl6 : L.length ≤ 1000000 := by omega
  obtain ⟨pv, hr, ho⟩ := h
  have hc : rd1 T.data.toList 101 at_ = rdNum T.data.toList 101 at_ (at_ + 1) 1 := by
    have h : rd1 T.data.toList 101 at_ = (if T.data.toList.getD at_ 0 = 32 then rdNum T.data.toList 101 at_ (at_ + 1) 1 else rdNum T.data.toList 101 at_ at_ 2) := by simp [rd1]
    rw [h, if_pos hb]
  have hlt : at_ < T.size := by
    rcases Nat.lt_or_ge at_ T.size with h | h
    · exact h
    · rw [getD_off h] at hb; exact absurd hb (by decide)
  have t1 : (at_ : Int) < (T.size : Int) := by omega
  have t0 : (0 : Int) ≤ (at_ : Int) := by omega
  have d1 : ((T[at_].toNat : Int) == 32) = true := by rw [← getD_at hlt, hb]; rfl
  have HDA : Hid (∀ W, Calls Tryz.prog 57 #[.string T, .int .i64 ((at_ : Int) + 1), .int .i64 1] W fun e w' => e = .returned (.tuple #[.int .i64 (dgV T.data.toList (at_ + 1) 1).1, .int .i64 (dgV T.data.toList (at_ + 1) 1).2]) ∧ W = w') := hide (fun W => digitsAt_any T (at_ + 1) 1 W hT (by omega) (by omega))
  clear hb
  cases hd : digsN T.data.toList (at_ + 1) 1 0 with
  | inl q =>
    have HR : Hid (rdL T.data.toList [.dir 101] at_ [] = .inl q) := hide (by rw [rdL_one]; show rd1 _ _ _ = _; rw [hc]; unfold rdNum; rw [hd])
    simp only [dgV_l hd] at HDA
    have hq0 : (0 : Int) ≤ (q : Int) := by omega
    clear hc hd hr ho
    go_enter Tryz.func22, Tryz.ntmps22
    go_wp2_with fail
    refine (HDA.out _).mono ?_
    rintro e w' ⟨rfl, rfl⟩
    go_wp2_with fail
    go_ret2
    exact ⟨Below.refl _ _, .inl ⟨q, HR.out, rfl⟩⟩
  | inr v =>
    have hle : at_ + 2 ≤ T.size := by have h4 := (digsN_val 1 (at_ + 1) 0 v hd).2.2.2; have h5 := HLS.out; omega
    obtain ⟨PP, hPP⟩ : ∃ PP, piece T.data.toList at_ (at_ + 2) = PP := ⟨_, rfl⟩
    have HR : Hid (rdL T.data.toList [.dir 101] at_ [] = .inr (at_ + 2, [⟨101, v, PP⟩])) := hide (by rw [rdL_one]; show rd1 _ _ _ = _; rw [hc]; unfold rdNum; rw [hd, hPP])
    have HFV : Hid ({fvOf L with d := v} = fvOf (L ++ [⟨101, v, PP⟩])) := hide (by rw [fv_next]; simp [fvOf, mapL])
    have HX : Hid (T.extract at_ (at_ + 2) = mkB PP) := hide (by rw [extract_piece hle, hPP])
    simp only [dgV_r hd] at HDA
    obtain ⟨p2, hp2⟩ : ∃ p2, at_ + 2 = p2 := ⟨_, rfl⟩
    have u1 : IntKind.i64.wrap ((at_ : Int) + 2) = (p2 : Int) := by rw [show (at_ : Int) + 2 = (p2 : Int) by omega]; exact IntWalk.i64_in _ (by omega)
    rw [hp2] at HR HX hle
    have g0 : at_ ≤ p2 := by omega
    clear hc hd hPP hp2
    have hr2 : FRow 54 b {fvOf L with d := v} pv (w.setCell ⟨b, 2, none⟩ (.int .i64 v)) := hr.set2 v
    have HPS : Hid (PSt 54 64 b {fvOf L with d := v} L pv pv w (w.setCell ⟨b, 2, none⟩ (.int .i64 v))) := hide ⟨hr2, own_only ho (only_set w b 2 _), (Below.refl _ _).setCell (p := ⟨b, 2, none⟩) (Nat.le_refl _) _⟩
    have fj := hr.frozen 2
    obtain ⟨⟨c0, c1, c2⟩, ⟨c3, c4, c5⟩, c6, c7, c8⟩ := hr.cells
    have hblt := hr.lt
    have g1 : (0 : Int) ≤ (at_ : Int) := by omega
    have g2 : (at_ : Int) ≤ (p2 : Int) := by omega
    have g3 : (p2 : Int) ≤ (T.size : Int) := by omega
    have g4 : (0 : Int) ≤ (p2 : Int) := by omega
    clear hr ho hr2
    go_enter Tryz.func22, Tryz.ntmps22
    go_wp2_with fail
    refine (HDA.out _).mono ?_
    rintro e w' ⟨rfl, rfl⟩
    go_wp2_with fail
    go_region_law (refine step_part (w0 := w) (tF := 54) (b := b) (F := {fvOf L with d := v}) (L := L) (pr := pv) (po := pv) (by rfl) (.tmp 304) (.tmp 313) (by rfl) (by rfl) ⟨101, v, PP⟩ ?_ ?_ (by assumption) ?_; (focus ((repeat (first | assumption | exact HPS.out | refine PSt.alloc ?_ _ | refine PSt.drew ?_)); done)); (focus (refine ⟨_, rfl, ?_, ?_⟩; (focus (show _ = some (Value.int .u8 101); go_simp; done)); (focus (show _ = some (Value.string (mkB PP)); rw [← HX.out]; go_simp; done)))); intro g cap w2 hps; have f8 := hps.facts.2; have c8 := hps.facts.1)
    all_goals
      go_wp2_with fail
      obtain ⟨hfs, hbl⟩ := hps.fin HFV.out
      go_ret2
      exact ⟨hbl, .inr ⟨_, _, HR.out, rfl, hfs⟩⟩
set_option maxHeartbeats 4000000 in
set_option maxRecDepth 100000 in
theorem read_eo (b : Nat) (T : ByteArray) (at_ : Nat) (L : List It) (w : World) (h : FSt 54 64 b L w) (hat : at_ ≤ T.size) (hT : T.size ≤ 1000000) (hl : L.length ≤ 900000) (hb : ¬ T.data.toList.getD at_ 0 = 32) :
    Calls Tryz.prog 22 #[.pointer (some ⟨b, 0, none⟩), .string T, .int .i64 (at_ : Int), .int .u8 101] w (ReadPost b T.data.toList [.dir 101] at_ L w) := by
  have HLS := hide (len_size T)
  have hl6 : L.length ≤ 1000000 := by omega
  obtain ⟨pv, hr, ho⟩ := h
  have hc : rd1 T.data.toList 101 at_ = rdNum T.data.toList 101 at_ at_ 2 := by
    have h : rd1 T.data.toList 101 at_ = (if T.data.toList.getD at_ 0 = 32 then rdNum T.data.toList 101 at_ (at_ + 1) 1 else rdNum T.data.toList 101 at_ at_ 2) := by simp [rd1]
    rw [h, if_neg hb]
  have HDA := hide (fun W => digitsAt_any T at_ 2 W hT (by omega) (by omega))
  rcases Nat.lt_or_ge at_ T.size with hlt | hlt
  · have t1 : (at_ : Int) < (T.size : Int) := by omega
    have t0 : (0 : Int) ≤ (at_ : Int) := by omega
    have d1 : ((T[at_].toNat : Int) == 32) = false := by
      rw [getD_at hlt] at hb
      have : T[at_].toNat ≠ 32 := fun e => hb (UInt8.toNat_inj.1 e)
      simp; omega
    clear hb
    cases hd : digsN T.data.toList at_ 2 0 with
    | inl q =>
      have HR : Hid (rdL T.data.toList [.dir 101] at_ [] = .inl q) := hide (by rw [rdL_one]; show rd1 _ _ _ = _; rw [hc]; unfold rdNum; rw [hd])
      simp only [dgV_l hd] at HDA
      have hq0 : (0 : Int) ≤ (q : Int) := by omega
      clear hc hd hr ho
      go_enter Tryz.func22, Tryz.ntmps22
      go_wp2_with fail
      refine (HDA.out _).mono ?_
      rintro e w' ⟨rfl, rfl⟩
      go_wp2_with fail
      go_ret2
      exact ⟨Below.refl _ _, .inl ⟨q, HR.out, rfl⟩⟩
    | inr v =>
      have hle : at_ + 2 ≤ T.size := by have h4 := (digsN_val 2 at_ 0 v hd).2.2.2; have h5 := HLS.out; omega
      obtain ⟨PP, hPP⟩ : ∃ PP, piece T.data.toList at_ (at_ + 2) = PP := ⟨_, rfl⟩
      have HR : Hid (rdL T.data.toList [.dir 101] at_ [] = .inr (at_ + 2, [⟨101, v, PP⟩])) := hide (by rw [rdL_one]; show rd1 _ _ _ = _; rw [hc]; unfold rdNum; rw [hd, hPP])
      have HFV : Hid ({fvOf L with d := v} = fvOf (L ++ [⟨101, v, PP⟩])) := hide (by rw [fv_next]; simp [fvOf, mapL])
      have HX : Hid (T.extract at_ (at_ + 2) = mkB PP) := hide (by rw [extract_piece hle, hPP])
      simp only [dgV_r hd] at HDA
      obtain ⟨p2, hp2⟩ : ∃ p2, at_ + 2 = p2 := ⟨_, rfl⟩
      have u1 : IntKind.i64.wrap ((at_ : Int) + 2) = (p2 : Int) := by rw [show (at_ : Int) + 2 = (p2 : Int) by omega]; exact IntWalk.i64_in _ (by omega)
      rw [hp2] at HR HX hle
      have g0 : at_ ≤ p2 := by omega
      clear hc hd hPP hp2
      have hr2 : FRow 54 b {fvOf L with d := v} pv (w.setCell ⟨b, 2, none⟩ (.int .i64 v)) := hr.set2 v
      have HPS : Hid (PSt 54 64 b {fvOf L with d := v} L pv pv w (w.setCell ⟨b, 2, none⟩ (.int .i64 v))) := hide ⟨hr2, own_only ho (only_set w b 2 _), (Below.refl _ _).setCell (p := ⟨b, 2, none⟩) (Nat.le_refl _) _⟩
      have fj := hr.frozen 2
      obtain ⟨⟨c0, c1, c2⟩, ⟨c3, c4, c5⟩, c6, c7, c8⟩ := hr.cells
      have hblt := hr.lt
      have g1 : (0 : Int) ≤ (at_ : Int) := by omega
      have g2 : (at_ : Int) ≤ (p2 : Int) := by omega
      have g3 : (p2 : Int) ≤ (T.size : Int) := by omega
      have g4 : (0 : Int) ≤ (p2 : Int) := by omega
      clear hr ho hr2
      go_enter Tryz.func22, Tryz.ntmps22
      go_wp2_with fail
      refine (HDA.out _).mono ?_
      rintro e w' ⟨rfl, rfl⟩
      go_wp2_with fail
      go_region_law (refine step_part (w0 := w) (tF := 54) (b := b) (F := {fvOf L with d := v}) (L := L) (pr := pv) (po := pv) (by rfl) (.tmp 304) (.tmp 313) (by rfl) (by rfl) ⟨101, v, PP⟩ ?_ ?_ (by assumption) ?_; (focus ((repeat (first | assumption | exact HPS.out | refine PSt.alloc ?_ _ | refine PSt.drew ?_)); done)); (focus (refine ⟨_, rfl, ?_, ?_⟩; (focus (show _ = some (Value.int .u8 101); go_simp; done)); (focus (show _ = some (Value.string (mkB PP)); rw [← HX.out]; go_simp; done)))); intro g cap w2 hps; have f8 := hps.facts.2; have c8 := hps.facts.1)
      all_goals
        go_wp2_with fail
        obtain ⟨hfs, hbl⟩ := hps.fin HFV.out
        go_ret2
        exact ⟨hbl, .inr ⟨_, _, HR.out, rfl, hfs⟩⟩
  · have t1 : ¬ (at_ : Int) < (T.size : Int) := by omega
    have hd : digsN T.data.toList at_ 2 0 = .inl at_ := by
      rw [digsN, if_neg (by rw [getD_off hlt]; decide)]
    have HR : Hid (rdL T.data.toList [.dir 101] at_ [] = .inl at_) := hide (by rw [rdL_one]; show rd1 _ _ _ = _; rw [hc]; unfold rdNum; rw [hd])
    simp only [dgV_l hd] at HDA
    have hq0 : (0 : Int) ≤ (at_ : Int) := by omega
    clear hc hd hr ho hlt hb
    go_enter Tryz.func22, Tryz.ntmps22
    go_wp2_with fail
    refine (HDA.out _).mono ?_
    rintro e w' ⟨rfl, rfl⟩
    go_wp2_with fail
    go_ret2
    exact ⟨Below.refl _ _, .inl ⟨at_, HR.out, rfl⟩⟩
end Go.Proofs.YtifpmigghplmoaaGreatDoor

/- DReadWE -/
set_option linter.unusedVariables false
set_option linter.unusedSimpArgs false
namespace Go.Proofs.YtifpmigghplmoaaGreatDoor
open Go.RowKit Go.Pw
set_option maxHeartbeats 4000000 in
set_option maxRecDepth 100000 in
theorem read_a (b : Nat) (T : ByteArray) (at_ : Nat) (L : List It) (w : World) (h : FSt 54 64 b L w) (hat : at_ ≤ T.size) (hT : T.size ≤ 1000000) (hl : L.length ≤ 900000) :
    Calls Tryz.prog 22 #[.pointer (some ⟨b, 0, none⟩), .string T, .int .i64 (at_ : Int), .int .u8 97] w (ReadPost b T.data.toList [.dir 97] at_ L w) := by
  have HLS := hide (len_size T)
  have hl6 : L.length ≤ 1000000 := by omega
  obtain ⟨pv, hr, ho⟩ := h
  have HLT := hide hr.lt
  have hsz : (T.extract at_ T.size).size ≤ 1000000 := by rw [ByteArray.size_extract]; omega
  have HON := hide (fun W => oneOf_any (T.extract at_ T.size) ⟨#[77, 111, 110, 84, 117, 101, 87, 101, 100, 84, 104, 117, 70, 114, 105, 83, 97, 116, 83, 117, 110]⟩ dNames dNames3 (by decide) (by decide) hsz W)
  have hdr : (T.extract at_ T.size).data.toList = T.data.toList.drop at_ := Lib.extract_to_end _ _
  have hc : rd1 T.data.toList 97 at_ = rdName dNames T.data.toList 97 at_ := by simp [rd1]
  rw [rdName_oneV dNames3] at hc
  have hroom := oneV_room dNames3 (T := T.data.toList) (at_ := at_)
  have hbest : (oneV dNames (T.data.toList.drop at_)).1 ≤ 3 := oneV_le dNames3 _
  simp only [hdr] at HON
  obtain ⟨⟨n, k⟩, hV⟩ : ∃ V, oneV dNames (T.data.toList.drop at_) = V := ⟨_, rfl⟩
  rw [hV] at hc hroom hbest
  simp only [hV] at HON
  simp only at hc hroom hbest HON
  have g0 : (0 : Int) ≤ (at_ : Int) := by omega
  have g1 : (at_ : Int) ≤ (T.size : Int) := by omega
  clear hV hdr hsz
  by_cases hk : k = 0
  · subst hk
    have HR : Hid (rdL T.data.toList [.dir 97] at_ [] = .inl (at_ + n)) := hide (by rw [rdL_one]; show rd1 _ _ _ = _; rw [hc, if_pos rfl])
    obtain ⟨p2, hp2⟩ : ∃ p2, at_ + n = p2 := ⟨_, rfl⟩
    have u1 : IntKind.i64.wrap ((at_ : Int) + (n : Int)) = (p2 : Int) := by rw [show (at_ : Int) + (n : Int) = (p2 : Int) by omega]; exact IntWalk.i64_in _ (by omega)
    rw [hp2] at HR
    clear hc hr ho hroom hp2
    go_enter Tryz.func22, Tryz.ntmps22
    go_wp2_with fail
    refine (HON.out _).mono ?_
    rintro e w1 ⟨rfl, hb1⟩
    have HB1 : Hid (Below b w w1) := hide (hb1.mono (Nat.le_of_lt HLT.out))
    clear hb1
    go_wp2_with fail
    go_ret2
    exact ⟨HB1.out, .inl ⟨p2, HR.out, rfl⟩⟩
  · have hle : at_ + 3 ≤ T.size := by have := hroom hk; rw [HLS.out] at this; exact this
    obtain ⟨PP, hPP⟩ : ∃ PP, piece T.data.toList at_ (at_ + 3) = PP := ⟨_, rfl⟩
    have HR : Hid (rdL T.data.toList [.dir 97] at_ [] = .inr (at_ + 3, [⟨97, (k : Int), PP⟩])) := hide (by rw [rdL_one]; show rd1 _ _ _ = _; rw [hc, if_neg hk, hPP])
    have HFV : Hid (fvOf L = fvOf (L ++ [⟨97, (k : Int), PP⟩])) := hide (by rw [fv_next]; simp [fvOf, mapL])
    have HX : Hid (T.extract at_ (at_ + 3) = mkB PP) := hide (by rw [extract_piece hle, hPP])
    obtain ⟨p2, hp2⟩ : ∃ p2, at_ + 3 = p2 := ⟨_, rfl⟩
    have u1 : IntKind.i64.wrap ((at_ : Int) + 3) = (p2 : Int) := by rw [show (at_ : Int) + 3 = (p2 : Int) by omega]; exact IntWalk.i64_in _ (by omega)
    rw [hp2] at HR HX hle
    have g4 : at_ ≤ p2 := by omega
    have g2 : (at_ : Int) ≤ (p2 : Int) := by omega
    have g3 : (p2 : Int) ≤ (T.size : Int) := by omega
    have g5 : (0 : Int) ≤ (p2 : Int) := by omega
    have hkk : ((k : Int) == 0) = false := by simp; omega
    have HPS0 : Hid (PSt 54 64 b (fvOf L) L pv pv w w) := hide ⟨hr, ho, Below.refl _ _⟩
    clear hc hr ho hroom hp2 hPP hk
    go_enter Tryz.func22, Tryz.ntmps22
    go_wp2_with fail
    refine (HON.out _).mono ?_
    rintro e w1 ⟨rfl, hb1⟩
    have HPS1 := hide (HPS0.out.step hb1)
    obtain ⟨⟨c0, c1, c2⟩, ⟨c3, c4, c5⟩, c6, c7, c8⟩ := HPS1.out.row.cells
    have fj := HPS1.out.row.frozen 1
    have hblt := HPS1.out.row.lt
    have HPS := HPS1
    clear hb1
    go_wp2_with fail
    go_region_law (refine step_part (w0 := w) (tF := 54) (b := b) (F := fvOf L) (L := L) (pr := pv) (po := pv) (by rfl) (.tmp 121) (.tmp 129) (by rfl) (by rfl) ⟨97, (k : Int), PP⟩ ?_ ?_ (by assumption) ?_; (focus ((repeat (first | assumption | exact HPS.out | refine PSt.alloc ?_ _ | refine PSt.drew ?_)); done)); (focus (refine ⟨_, rfl, ?_, ?_⟩; (focus (show _ = some (Value.int .u8 97); go_simp; done)); (focus (show _ = some (Value.string (mkB PP)); rw [← HX.out]; go_simp; done)))); intro g cap w2 hps; have f8 := hps.facts.2; have c8 := hps.facts.1)
    all_goals
      go_wp2_with fail
      obtain ⟨hfs, hbl⟩ := hps.fin HFV.out
      go_ret2
      exact ⟨hbl, .inr ⟨_, _, HR.out, rfl, hfs⟩⟩
set_option maxHeartbeats 4000000 in
set_option maxRecDepth 100000 in
theorem read_b (b : Nat) (T : ByteArray) (at_ : Nat) (L : List It) (w : World) (h : FSt 54 64 b L w) (hat : at_ ≤ T.size) (hT : T.size ≤ 1000000) (hl : L.length ≤ 900000) :
    Calls Tryz.prog 22 #[.pointer (some ⟨b, 0, none⟩), .string T, .int .i64 (at_ : Int), .int .u8 98] w (ReadPost b T.data.toList [.dir 98] at_ L w) := by
  have HLS := hide (len_size T)
  have hl6 : L.length ≤ 1000000 := by omega
  obtain ⟨pv, hr, ho⟩ := h
  have HLT := hide hr.lt
  have hsz : (T.extract at_ T.size).size ≤ 1000000 := by rw [ByteArray.size_extract]; omega
  have HON := hide (fun W => oneOf_any (T.extract at_ T.size) ⟨#[74, 97, 110, 70, 101, 98, 77, 97, 114, 65, 112, 114, 77, 97, 121, 74, 117, 110, 74, 117, 108, 65, 117, 103, 83, 101, 112, 79, 99, 116, 78, 111, 118, 68, 101, 99]⟩ mNames mNames3 (by decide) (by decide) hsz W)
  have hdr : (T.extract at_ T.size).data.toList = T.data.toList.drop at_ := Lib.extract_to_end _ _
  have hc : rd1 T.data.toList 98 at_ = rdName mNames T.data.toList 98 at_ := by simp [rd1]
  rw [rdName_oneV mNames3] at hc
  have hroom := oneV_room mNames3 (T := T.data.toList) (at_ := at_)
  have hbest : (oneV mNames (T.data.toList.drop at_)).1 ≤ 3 := oneV_le mNames3 _
  simp only [hdr] at HON
  obtain ⟨⟨n, k⟩, hV⟩ : ∃ V, oneV mNames (T.data.toList.drop at_) = V := ⟨_, rfl⟩
  rw [hV] at hc hroom hbest
  simp only [hV] at HON
  simp only at hc hroom hbest HON
  have g0 : (0 : Int) ≤ (at_ : Int) := by omega
  have g1 : (at_ : Int) ≤ (T.size : Int) := by omega
  clear hV hdr hsz
  by_cases hk : k = 0
  · subst hk
    have HR : Hid (rdL T.data.toList [.dir 98] at_ [] = .inl (at_ + n)) := hide (by rw [rdL_one]; show rd1 _ _ _ = _; rw [hc, if_pos rfl])
    obtain ⟨p2, hp2⟩ : ∃ p2, at_ + n = p2 := ⟨_, rfl⟩
    have u1 : IntKind.i64.wrap ((at_ : Int) + (n : Int)) = (p2 : Int) := by rw [show (at_ : Int) + (n : Int) = (p2 : Int) by omega]; exact IntWalk.i64_in _ (by omega)
    rw [hp2] at HR
    clear hc hr ho hroom hp2
    go_enter Tryz.func22, Tryz.ntmps22
    go_wp2_with fail
    refine (HON.out _).mono ?_
    rintro e w1 ⟨rfl, hb1⟩
    have HB1 : Hid (Below b w w1) := hide (hb1.mono (Nat.le_of_lt HLT.out))
    clear hb1
    go_wp2_with fail
    go_ret2
    exact ⟨HB1.out, .inl ⟨p2, HR.out, rfl⟩⟩
  · have hle : at_ + 3 ≤ T.size := by have := hroom hk; rw [HLS.out] at this; exact this
    obtain ⟨PP, hPP⟩ : ∃ PP, piece T.data.toList at_ (at_ + 3) = PP := ⟨_, rfl⟩
    have HR : Hid (rdL T.data.toList [.dir 98] at_ [] = .inr (at_ + 3, [⟨98, (k : Int), PP⟩])) := hide (by rw [rdL_one]; show rd1 _ _ _ = _; rw [hc, if_neg hk, hPP])
    have HFV : Hid ({fvOf L with m := (k : Int)} = fvOf (L ++ [⟨98, (k : Int), PP⟩])) := hide (by rw [fv_next]; simp [fvOf, mapL])
    have HX : Hid (T.extract at_ (at_ + 3) = mkB PP) := hide (by rw [extract_piece hle, hPP])
    obtain ⟨p2, hp2⟩ : ∃ p2, at_ + 3 = p2 := ⟨_, rfl⟩
    have u1 : IntKind.i64.wrap ((at_ : Int) + 3) = (p2 : Int) := by rw [show (at_ : Int) + 3 = (p2 : Int) by omega]; exact IntWalk.i64_in _ (by omega)
    rw [hp2] at HR HX hle
    have g4 : at_ ≤ p2 := by omega
    have g2 : (at_ : Int) ≤ (p2 : Int) := by omega
    have g3 : (p2 : Int) ≤ (T.size : Int) := by omega
    have g5 : (0 : Int) ≤ (p2 : Int) := by omega
    have hkk : ((k : Int) == 0) = false := by simp; omega
    have HPS0 : Hid (PSt 54 64 b (fvOf L) L pv pv w w) := hide ⟨hr, ho, Below.refl _ _⟩
    clear hc hr ho hroom hp2 hPP hk
    go_enter Tryz.func22, Tryz.ntmps22
    go_wp2_with fail
    refine (HON.out _).mono ?_
    rintro e w1 ⟨rfl, hb1⟩
    have HPS1 := hide (HPS0.out.step hb1)
    obtain ⟨⟨c0, c1, c2⟩, ⟨c3, c4, c5⟩, c6, c7, c8⟩ := HPS1.out.row.cells
    have fj := HPS1.out.row.frozen 1
    have hblt := HPS1.out.row.lt
    have HPS : Hid (PSt 54 64 b {fvOf L with m := (k : Int)} L pv pv w (w1.setCell ⟨b, 1, none⟩ (.int .i64 (k : Int)))) := hide ⟨HPS1.out.row.set1 (k : Int), own_only HPS1.out.own (only_set w1 b 1 _), HPS1.out.bel.setCell (p := ⟨b, 1, none⟩) (Nat.le_refl _) _⟩
    clear hb1
    go_wp2_with fail
    go_region_law (refine step_part (w0 := w) (tF := 54) (b := b) (F := {fvOf L with m := (k : Int)}) (L := L) (pr := pv) (po := pv) (by rfl) (.tmp 121) (.tmp 129) (by rfl) (by rfl) ⟨98, (k : Int), PP⟩ ?_ ?_ (by assumption) ?_; (focus ((repeat (first | assumption | exact HPS.out | refine PSt.alloc ?_ _ | refine PSt.drew ?_)); done)); (focus (refine ⟨_, rfl, ?_, ?_⟩; (focus (show _ = some (Value.int .u8 98); go_simp; done)); (focus (show _ = some (Value.string (mkB PP)); rw [← HX.out]; go_simp; done)))); intro g cap w2 hps; have f8 := hps.facts.2; have c8 := hps.facts.1)
    all_goals
      go_wp2_with fail
      obtain ⟨hfs, hbl⟩ := hps.fin HFV.out
      go_ret2
      exact ⟨hbl, .inr ⟨_, _, HR.out, rfl, hfs⟩⟩
end Go.Proofs.YtifpmigghplmoaaGreatDoor
