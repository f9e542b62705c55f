/- The reference's Merged: the walk. -/
import Derived.Test.YtfjbdbdjhkmifaaDmM
import Derived.Test.YtfjbdbdjhkmifaaDmY
import Derived.Test.YtfjbdbdjhkmifaaDmZ
import Derived.Test.YtfjbdbdjhkmifaaDmF
set_option linter.unusedVariables false
set_option linter.unusedSimpArgs false
namespace Go.Proofs.Ytfjbdbdjhkmifaa
open Go.RowKit Go.Pw
theorem sideOf_few {base a : List ByteArray} {r : Rg} (hb : base.length ≤ 60) (ha : a.length ≤ 60) : (sideOf base r (diffOf base a)).length ≤ 7440 := by
  have h1 := sideOf_len (a := base) (r := r) (hs := diffOf base a) (M := 60) (fun h hh => by
    have := hunksOf_new (a := base) (b := a) h hh
    omega)
  have h2 := diffOf_le base a
  have h3 : ((diffOf base a).length + 1) * (base.length + 60) ≤ 62 * 120 := Nat.mul_le_mul (by omega) (by omega)
  omega
set_option maxHeartbeats 4000000 in
set_option maxRecDepth 100000 in
theorem Merged_any (v0 va vb : Value) (base a b : List ByteArray) (w : World) (h0 : Strs w v0 base) (ha : Strs w va a) (hb : Strs w vb b) (f0 : base.length ≤ 60) (fa : a.length ≤ 60) (fb : b.length ≤ 60) :
    Calls Try.prog 11 #[v0, va, vb] w fun e w' => ∃ v, e = .returned v ∧ (∃ rs, Sep rs ∧ (∀ t, Cov rs t ↔ Cov ((diffOf base a ++ diffOf base b).map rgOf) t) ∧ Pieces w' v (mergeOf base a b rs)) ∧ Below w.heap.size w w' := by
  have H0 := hide h0
  have HA := hide ha
  have HB := hide hb
  obtain ⟨⟨_, A0, c0, rfl, _⟩, _⟩ := h0
  obtain ⟨⟨_, A, ca, rfl, _⟩, _⟩ := ha
  obtain ⟨⟨_, B, cb, rfl, _⟩, _⟩ := hb
  have l0 : base.length ≤ 1000 := by omega
  have la : a.length ≤ 1000 := by omega
  have lb : b.length ≤ 1000 := by omega
  obtain ⟨x, hx⟩ : ∃ x, diffOf base a = x := ⟨_, rfl⟩
  obtain ⟨y, hy⟩ : ∃ y, diffOf base b = y := ⟨_, rfl⟩
  have HX := hide hx
  have HY := hide hy
  have HGX : Hid (Good base x 0) := hide (by rw [← hx]; exact diffOf_good base a)
  have HGY : Hid (Good base y 0) := hide (by rw [← hy]; exact diffOf_good base b)
  have hlx : x.length ≤ 1001 := by rw [← hx]; have := diffOf_le base a; omega
  have hly : y.length ≤ 1001 := by rw [← hy]; have := diffOf_le base b; omega
  have HNX : Hid (∀ h ∈ x, h.new.length ≤ 1000) := hide (fun h hh => by rw [← hx] at hh; have := hunksOf_new (a := base) (b := a) h hh; omega)
  have HNY : Hid (∀ h ∈ y, h.new.length ≤ 1000) := hide (fun h hh => by rw [← hy] at hh; have := hunksOf_new (a := base) (b := b) h hh; omega)
  have HSX : Hid (∀ r, (sideOf base r x).length ≤ 7440) := hide (fun r => by rw [← hx]; exact sideOf_few f0 fa)
  have HSY : Hid (∀ r, (sideOf base r y).length ≤ 7440) := hide (fun r => by rw [← hy]; exact sideOf_few f0 fb)
  have hmo : ∀ rs, mergeOf base a b rs = mergeRun base x y rs 0 [] := fun rs => by unfold mergeOf; rw [hx, hy]
  have HMO := hide hmo
  clear hx hy hmo
  go_enter Try.func11, Try.ntmps11
  go_wp2_with fail
  refine (difference_any _ _ base a _ H0.out HA.out l0 la).mono ?_
  rintro e w2 ⟨vx, rfl, hox, hbw2⟩
  go_wp2_with fail
  refine (difference_any _ _ base b _ (H0.out.below hbw2) (HB.out.below hbw2) l0 lb).mono ?_
  rintro e w3 ⟨vy, rfl, hoy, hb3⟩
  have hbw3 : Below w.heap.size w w3 := hbw2.trans (hb3.mono hbw2.size)
  have hLx : Hunks w3 vx x := by have := hox.below hb3; rw [← HX.out]; exact this
  have hLy : Hunks w3 vy y := by rw [← HY.out]; exact hoy
  clear hox hoy hb3 hbw2
  have hfx := good_frm HGX.out
  have hfy := good_frm HGY.out
  obtain ⟨M, hM⟩ : ∃ M, w3.heap.size = M := ⟨_, rfl⟩
  obtain ⟨wM, hwM⟩ : ∃ wM, w3.alloc (.cells #[.slice none 0 0] 23) = wM := ⟨_, rfl⟩
  have bM : Below w3.heap.size w3 wM := by rw [← hwM]; exact (Below.refl _ _).alloc (Nat.le_refl _) _
  have sM : wM.heap.size = M + 1 := by rw [← hwM, ← hM]; simp
  have cM : wM.cell? ⟨M, 0, none⟩ = some (.slice none 0 0) := by rw [← hwM, ← hM]; simp [World.cell?_alloc_new]
  have fM : wM.frozen? ⟨M, 0, none⟩ = false := by rw [← hwM, ← hM]; unfold World.frozen? World.alloc; simp only [Array.getElem?_push]; simp
  have HREG := hide (regionsR_any vx vy x y wM (hLx.below bM) (hLy.below bM) (fun h hh => by have := hfx h hh; omega) (fun h hh => by have := hfy h hh; omega) hlx hly)
  obtain ⟨VXA, vxc, hvx⟩ : ∃ A' c', vx = .slice A' x.length c' := by obtain ⟨_, _, ⟨_, A', c', e, _⟩, _⟩ := hLx; exact ⟨A', c', e⟩
  obtain ⟨VYA, vyc, hvy⟩ : ∃ A' c', vy = .slice A' y.length c' := by obtain ⟨_, _, ⟨_, A', c', e, _⟩, _⟩ := hLy; exact ⟨A', c', e⟩
  have HLX := hide hLx
  have HLY := hide hLy
  subst hvx hvy
  have HBW3 := hide hbw3
  have HMM := hide hM
  clear hLx hLy hfx hfy hbw3
  go_wp2_with fail
  refine HREG.out.mono ?_
  rintro e w5 ⟨v5, rfl, rs, hown, hsep, hcov, hrl, hb5⟩
  clear HREG hwM
  obtain ⟨RA, rc, rfl⟩ := own_form hown
  have hN5 := hb5.size
  rw [sM] at hN5
  obtain ⟨N, hN⟩ : ∃ N, w5.heap.size = N := ⟨_, rfl⟩
  rw [hN] at hN5
  have hbM5 : Below M w3 w5 := by
    rw [← hM]
    exact bM.trans (hb5.mono (by rw [sM, ← hM]; omega))
  have HENV : Hid (MgEnv w5 M N (.slice none 0 0) []) := hide ⟨(hb5.cell (p := ⟨M, 0, none⟩) (by show M < _; omega)).trans cM, (hb5.frozen (p := ⟨M, 0, none⟩) (by show M < _; omega)).trans fM, by omega, by omega, PcsOwn.nil _ _ _ _ _⟩
  have HKEEP : Hid (∀ W, But N M w5 W → Below M w3 W) := hide (fun W hW => hbM5.trans (hW.below (by omega) (Nat.le_refl _)))
  have HROW : Hid (∀ W, But N M w5 W → W.ownsRow wM.heap.size 87 2 (.slice RA rs.length rc) rs.length (pairCells rs)) := hide (fun W hW => by
    refine ⟨hown.1, ?_⟩
    rcases hown.2 with h | ⟨g, cap, cur, hv, hg, hh, r⟩
    · exact .inl h
    · have hlt := (Array.getElem?_eq_some_iff.1 hh).1
      exact .inr ⟨g, cap, cur, hv, hg, (hW.block g (by omega) (by omega)).trans hh, r⟩)
  have HSEP := hide hsep
  have HCOV := hide hcov
  have hrin : ∀ r ∈ rs, r.2 ≤ base.length := rg_in hsep hcov (fun r hr => by
    rw [List.map_append] at hr
    rcases List.mem_append.1 hr with hr | hr
    · exact (good_rg HGX.out r hr).2
    · exact (good_rg HGY.out r hr).2)
  have HRIN := hide hrin
  have hMN : M < N := by omega
  clear hown hsep hcov hb5 hbM5 hrin bM cM fM hN5
  go_wp2_with fail
  go_loopw [11, 29] (fun av iv wr => ∃ (k at_ : Nat) (v : Value) (ps : List Pc), k ≤ rs.length ∧ iv = .int .i64 (k : Int) ∧ av = .int .i64 (at_ : Int) ∧ Hid (MgAt w3 w5 wr M N base x y rs k at_ v ps)) (fun _ iv _ => rs.length - (intOf iv).toNat)
  case atStart => exact ⟨0, 0, _, [], Nat.zero_le _, rfl, rfl, hide ⟨HENV.out, But.refl _ _ _, by rw [List.drop_zero], fun _ _ => Nat.zero_le _, Nat.zero_le _, LinesLe.nil _, by simp⟩⟩
  case round =>
    clear HENV
    obtain ⟨k, at_, v, ps, hk, rfl, rfl, HAT⟩ := hrel
    have hle := HAT.out.le
    have hNr := HAT.out.env.le
    by_cases hlt : k < rs.length
    · have hdk : (k : Int) < (rs.length : Int) := by omega
      obtain ⟨r, hr⟩ : ∃ r, rs[k]? = some r := ⟨_, List.getElem?_eq_getElem hlt⟩
      have hrm := List.mem_of_getElem? hr
      have hr1 := HSEP.out.2 r hrm
      have hr2 := HRIN.out r hrm
      have hnx := HAT.out.next r hr
      have hrow := HROW.out _ HAT.out.but
      obtain ⟨gR, hRA, hgl⟩ : ∃ g, RA = some ⟨g, 0, none⟩ ∧ g < wr.heap.size := by
        rcases hrow.2 with h | ⟨g, cap, cur, hv, hg, hh, _⟩
        · omega
        · injection hv with e1 _ e3; exact ⟨g, e1, (Array.getElem?_eq_some_iff.1 hh).1⟩
      subst hRA
      have e1 := (hrow.cellAt (k * 2) (by omega)).trans (pairCells_get rs k r hr).1
      have e2 := (hrow.cellAt (k * 2 + 1) (by omega)).trans (pairCells_get rs k r hr).2
      obtain ⟨r1, r2⟩ := r
      dsimp only at e1 e2 hr1 hr2 hnx
      have HR := hide hr
      have hbk := HKEEP.out _ HAT.out.but
      have hszw := HBW3.out.size
      have hMeq := HMM.out
      have hwM' : w.heap.size ≤ M := by omega
      have hbw : Below w.heap.size w wr := HBW3.out.trans (hbk.mono (by omega))
      obtain ⟨wq, hwq⟩ : ∃ wq, wr.alloc (.cells #[.int .i64 (r1 : Int), .int .i64 (r2 : Int)] 87) = wq := ⟨_, rfl⟩
      obtain ⟨hbq, hsq, b0, b1, hcpq⟩ := two_boxed hwq
      have HSQ := hide hsq
      obtain ⟨vk, hvk, hsk⟩ := cut_both H0.out (lo := at_) (hi := r1) hnx (by omega)
      have hpl : ((base.drop at_).take (r1 - at_)).length ≤ 1000 := by rw [List.length_take, List.length_drop]; omega
      have HS1 := hide (sureR_any M N v vk ps (part base at_ r1) wq (HAT.out.env.below hbq) ((hsk.below hbw).below hbq) (Nat.le_trans hpl (by omega)) (by have := HAT.out.len; omega) (HAT.out.lines.mono (by omega)))
      have HB6 : Hid (∀ w6, But N M wq w6 → But N M wr w6) := hide (fun w6 h => (But.of_below hbq hNr).trans h)
      have HBOX := hide hcpq
      have hMr : wr.heap.size ≠ M := by omega
      have HR1 := hide hr1
      have HR2 := hide hr2
      clear hsq hcpq hsk hpl hr hrow hrm hnx hr1 hr2
      go_wp2_with fail
      refine HS1.out.mono ?_
      rintro e w6 ⟨rfl, v6, hE6, hB6, hO6⟩
      have hcp6 := (hO6 wr.heap.size _ _ _ hMr HBOX.out (by decide) (by decide)).trans HBOX.out
      have d0 : w6.cell? ⟨wr.heap.size, 0, none⟩ = some (.int .i64 (r1 : Int)) := by rw [Lib.cell_of_heap hcp6]; rfl
      have d1 : w6.cell? ⟨wr.heap.size, 1, none⟩ = some (.int .i64 (r2 : Int)) := by rw [Lib.cell_of_heap hcp6]; rfl
      have hbox6 : wr.heap.size < w6.heap.size := (Array.getElem?_eq_some_iff.1 hcp6).1
      have hB6' := HB6.out w6 hB6
      have hbk6 := HKEEP.out _ (HAT.out.but.trans hB6')
      have hbw6 : Below w.heap.size w w6 := HBW3.out.trans (hbk6.mono (by omega))
      have hN6 : N ≤ w6.heap.size := hE6.le
      have HBX6 := hide hcp6
      have HE6 := hide hE6
      have HBB6 := hide hB6'
      have HF1 := hide (sideR_any r1 r2 (.slice A0 base.length c0) (.slice VXA x.length vxc) base x w6 (H0.out.below hbw6) (HLX.out.below (by rw [hMeq]; exact hbk6)) HGX.out HR1.out HR2.out l0 hlx HNX.out)
      obtain ⟨F1, hF1⟩ : ∃ F1, sideOf base (r1, r2) x = F1 := ⟨_, rfl⟩
      obtain ⟨F2, hF2⟩ : ∃ F2, sideOf base (r1, r2) y = F2 := ⟨_, rfl⟩
      have HF1e := hide hF1
      have HF2e := hide hF2
      rw [hF1] at HF1
      clear hF1 hE6 hB6 hO6 hcp6 HS1 HB6 HBOX hB6' b0 b1 e1 e2
      go_wp2_with fail
      refine HF1.out.mono ?_
      rintro e w7 ⟨v7, rfl, hs7, hg7, hb7⟩
      have d07 := (hb7.cell (p := ⟨wr.heap.size, 0, none⟩) hbox6).trans d0
      have d17 := (hb7.cell (p := ⟨wr.heap.size, 1, none⟩) hbox6).trans d1
      have hbox7 : wr.heap.size < w7.heap.size := Nat.lt_of_lt_of_le hbox6 hb7.size
      have HF2 := hide (sideR_any r1 r2 (.slice A0 base.length c0) (.slice VYA y.length vyc) base y w7 ((H0.out.below hbw6).below (hb7.mono (by have := hbw6.size; omega))) ((HLY.out.below (by rw [hMeq]; exact hbk6)).below hb7) HGY.out HR1.out HR2.out l0 hly HNY.out)
      rw [hF2] at HF2
      have HB7 := hide hb7
      obtain ⟨FA, fc, hv7⟩ : ∃ A' c', v7 = .slice A' F1.length c' := by obtain ⟨⟨_, A', c', e, _⟩, _⟩ := hs7; exact ⟨A', c', e⟩
      subst hv7
      have HS7 := hide hs7
      have HG7 := hide hg7
      clear hF2 d0 d1 HF1 hb7 hs7 hg7
      go_wp2_with fail
      refine HF2.out.mono ?_
      rintro e w8 ⟨v8, rfl, hs8, hg8, hb8⟩
      have d08 := (hb8.cell (p := ⟨wr.heap.size, 0, none⟩) hbox7).trans d07
      have d18 := (hb8.cell (p := ⟨wr.heap.size, 1, none⟩) hbox7).trans d17
      have hbox8 : wr.heap.size < w8.heap.size := Nat.lt_of_lt_of_le hbox7 hb8.size
      obtain ⟨GA, gc, hv8⟩ : ∃ A' c', v8 = .slice A' F2.length c' := by obtain ⟨⟨_, A', c', e, _⟩, _⟩ := hs8; exact ⟨A', c', e⟩
      subst hv8
      have HS8 := hide hs8
      have HG8 := hide hg8
      have hb68 : Below w6.heap.size w6 w8 := HB7.out.trans (hb8.mono HB7.out.size)
      have HB8 := hide hb8
      have HB68 := hide hb68
      have HBX8 := hide ((hb68.block wr.heap.size hbox6).trans HBX6.out)
      have HE8 := hide (HE6.out.below hb68)
      have HBB8 : Hid (But N M wr w8) := hide (HBB6.out.trans (But.of_below hb68 hN6))
      have hN8 : N ≤ w8.heap.size := HE8.out.le
      have hF1l : F1.length ≤ 7440 := by rw [← HF1e.out]; exact HSX.out _
      have hF2l : F2.length ≤ 7440 := by rw [← HF2e.out]; exact HSY.out _
      obtain ⟨n1, hn1⟩ : ∃ n1, (insideR (r1, r2) x).length = n1 := ⟨_, rfl⟩
      obtain ⟨n2, hn2⟩ : ∃ n2, (insideR (r1, r2) y).length = n2 := ⟨_, rfl⟩
      have HN1 := hide hn1
      have HN2 := hide hn2
      rw [hn1, hn2]
      have HSTEP : Hid (∀ w' v', MgEnv w' M N v' (stepRg base x y (r1, r2) at_ ps) → But N M wr w' → MgAt w3 w5 w' M N base x y rs (k + 1) r2 v' (stepRg base x y (r1, r2) at_ ps)) := hide (fun w' v' h1 h2 => HAT.out.step HR.out HSEP.out HR2.out l0 (by rw [HF1e.out]; omega) (by rw [HF2e.out]; omega) h1 h2)
      have hlen6 : (sureP ps (part base at_ r1)).length ≤ 1000000 := by have := sureP_len ps (part base at_ r1); have := HAT.out.len; omega
      have hlin6 : LinesLe (sureP ps (part base at_ r1)) 500000000000 := (HAT.out.lines.sure).mono (by have : (part base at_ r1).length ≤ base.length := (by unfold part; rw [List.length_take, List.length_drop]; omega); omega)
      have HLIN6 := hide hlin6
      have HSF : Hid (∀ W, Below w8.heap.size w8 W → Calls Try.prog 41 #[.slice FA F1.length fc, .pointer (some ⟨M, 0, none⟩)] W fun e w' => e = .returned (.tuple #[]) ∧ ∃ v', MgEnv w' M N v' (sureP (sureP ps (part base at_ r1)) F1) ∧ But N M wr w' ∧ w'.heap[wr.heap.size]? = some (.cells #[.int .i64 (r1 : Int), .int .i64 (r2 : Int)] 87 (0, 0))) := hide (fun W hW => by
        refine (sureR_any M N _ _ _ F1 W (HE8.out.below hW) ((HS7.out.below HB8.out).below hW) (by omega) hlen6 HLIN6.out).mono ?_
        rintro e w' ⟨rfl, v', h1, h2, h3⟩
        have hbx := (hW.block wr.heap.size hbox8).trans HBX8.out
        exact ⟨rfl, v', h1, HBB8.out.trans ((But.of_below hW hN8).trans h2), (h3 wr.heap.size _ _ _ hMr hbx (by decide) (by decide)).trans hbx⟩)
      have HSG : Hid (∀ W, Below w8.heap.size w8 W → Calls Try.prog 41 #[.slice GA F2.length gc, .pointer (some ⟨M, 0, none⟩)] W fun e w' => e = .returned (.tuple #[]) ∧ ∃ v', MgEnv w' M N v' (sureP (sureP ps (part base at_ r1)) F2) ∧ But N M wr w' ∧ w'.heap[wr.heap.size]? = some (.cells #[.int .i64 (r1 : Int), .int .i64 (r2 : Int)] 87 (0, 0))) := hide (fun W hW => by
        refine (sureR_any M N _ _ _ F2 W (HE8.out.below hW) (HS8.out.below hW) (by omega) hlen6 HLIN6.out).mono ?_
        rintro e w' ⟨rfl, v', h1, h2, h3⟩
        have hbx := (hW.block wr.heap.size hbox8).trans HBX8.out
        exact ⟨rfl, v', h1, HBB8.out.trans ((But.of_below hW hN8).trans h2), (h3 wr.heap.size _ _ _ hMr hbx (by decide) (by decide)).trans hbx⟩)
      have hz67 := HB7.out.size
      clear hb68 hb8 hs8 hg8 HF2 d07 d17 hn1 hn2 hlin6 hbk6 HB7 hbox6 hbox7
      by_cases hn0 : n2 = 0
      · have hd2 : ¬ (0 < n2) := by omega
        have HADD : Hid (stepRg base x y (r1, r2) at_ ps = sureP (sureP ps (part base at_ r1)) F1) := hide (by
          unfold stepRg addRg
          rw [if_pos (.inl (List.eq_nil_of_length_eq_zero (by rw [HN2.out, hn0]))), HF1e.out])
        have hdd : decide (0 < n2) = false := by simp; omega
        rw [hdd]
        clear hn0
        go_wp2_with fail
        refine (HSF.out _ (Below.refl _ _)).mono ?_
        rintro e w9 ⟨rfl, v9, h1, h2, h3⟩
        have k1 : w9.cell? ⟨wr.heap.size, 1, none⟩ = some (.int .i64 (r2 : Int)) := by rw [Lib.cell_of_heap h3]; rfl
        rw [← HADD.out] at h1
        have HNX9 := hide (HSTEP.out w9 v9 h1 h2)
        clear h1 h2 h3
        go_wp2_with fail
        go_roundw
        case rel => exact ⟨k + 1, r2, v9, _, by omega, by go_num, rfl, HNX9⟩
        case measure => simp [intOf]; omega
      · have hd2 : 0 < n2 := by omega
        have hdd : decide (0 < n2) = true := by simp; omega
        rw [hdd]
        go_wp2_with fail
        refine (sameLines_any _ _ F1 F2 w8 (HS7.out.below HB8.out) HS8.out (by omega) (by omega)).mono ?_
        rintro e w9 ⟨rfl, qq, rfl⟩
        have hbq9 : Below w8.heap.size w8 (w8.drewN qq) := below_drewN (Below.refl _ _) qq
        have hni : ¬ (insideR (r1, r2) y = []) := fun h => by have := HN2.out; rw [h] at this; simp at this; omega
        by_cases hF : F1 = F2
        · have hFd : decide (F1 = F2) = true := by simpa using hF
          have HADD : Hid (stepRg base x y (r1, r2) at_ ps = sureP (sureP ps (part base at_ r1)) F1) := hide (by
            unfold stepRg addRg
            rw [if_pos (.inr (by rw [HF1e.out, HF2e.out, hF])), HF1e.out])
          rw [hFd]
          clear hF hni
          go_wp2_with fail
          refine (HSF.out _ hbq9).mono ?_
          rintro e w10 ⟨rfl, v9, h1, h2, h3⟩
          have k1 : w10.cell? ⟨wr.heap.size, 1, none⟩ = some (.int .i64 (r2 : Int)) := by rw [Lib.cell_of_heap h3]; rfl
          rw [← HADD.out] at h1
          have HNX9 := hide (HSTEP.out w10 v9 h1 h2)
          clear h1 h2 h3
          go_wp2_with fail
          go_roundw
          case rel => exact ⟨k + 1, r2, v9, _, by omega, by go_num, rfl, HNX9⟩
          case measure => simp [intOf]; omega
        · have hFd : decide (F1 = F2) = false := by simpa using hF
          rw [hFd]
          by_cases hn0 : n1 = 0
          · have hdd1 : decide (0 < n1) = false := by simp; omega
            have hd1 : ¬ (0 < n1) := by omega
            have HADD : Hid (stepRg base x y (r1, r2) at_ ps = sureP (sureP ps (part base at_ r1)) F2) := hide (by
              unfold stepRg addRg
              rw [if_neg (fun h => by rcases h with h | h; exact hni h; rw [HF1e.out, HF2e.out] at h; exact hF h), if_pos (List.eq_nil_of_length_eq_zero (by rw [HN1.out, hn0])), HF2e.out])
            rw [hdd1]
            clear hF hni hn0
            go_wp2_with fail
            refine (HSG.out _ hbq9).mono ?_
            rintro e w10 ⟨rfl, v9, h1, h2, h3⟩
            have k1 : w10.cell? ⟨wr.heap.size, 1, none⟩ = some (.int .i64 (r2 : Int)) := by rw [Lib.cell_of_heap h3]; rfl
            rw [← HADD.out] at h1
            have HNX9 := hide (HSTEP.out w10 v9 h1 h2)
            clear h1 h2 h3
            go_wp2_with fail
            go_roundw
            case rel => exact ⟨k + 1, r2, v9, _, by omega, by go_num, rfl, HNX9⟩
            case measure => simp [intOf]; omega
          · have hdd1 : decide (0 < n1) = true := by simp; omega
            have hd1 : 0 < n1 := by omega
            have HADD : Hid (stepRg base x y (r1, r2) at_ ps = sureP ps (part base at_ r1) ++ [⟨true, [], part base r1 r2, F1, F2⟩]) := hide (by
              unfold stepRg addRg
              rw [if_neg (fun h => by rcases h with h | h; exact hni h; rw [HF1e.out, HF2e.out] at h; exact hF h), if_neg (fun h => by have := HN1.out; rw [h] at this; simp at this; omega), HF1e.out, HF2e.out])
            rw [hdd1]
            obtain ⟨P6, hP6⟩ : ∃ P6, sureP ps (part base at_ r1) = P6 := ⟨_, rfl⟩
            rw [hP6] at HADD hlen6
            have hE9 : MgEnv (w8.drewN qq) M N v6 P6 := by rw [← hP6]; exact HE8.out.below hbq9
            obtain ⟨w9, hw9⟩ : ∃ w9, w8.drewN qq = w9 := ⟨_, rfl⟩
            rw [hw9] at hE9 hbq9 ⊢
            have d09 := (hbq9.cell (p := ⟨wr.heap.size, 0, none⟩) hbox8).trans d08
            have d19 := (hbq9.cell (p := ⟨wr.heap.size, 1, none⟩) hbox8).trans d18
            have hbox9 : wr.heap.size < w9.heap.size := Nat.lt_of_lt_of_le hbox8 hbq9.size
            have cM9 := hE9.cell
            have fM9 := hE9.free
            have hM9 : M < w9.heap.size := by have := hE9.le; omega
            obtain ⟨vs6, hvs6, hown6, hel6, _⟩ := hE9.own
            have huge6 := own_ge hown6
            have hult6 := own_lt hown6
            obtain ⟨VA, vc, rfl⟩ := own_form hown6
            have HE9 := hide hE9
            have HVS6 := hide hvs6
            have HOWN6 := hide hown6
            have HEL6 := hide hel6
            have HBQ9 := hide hbq9
            have hb69 : Below w6.heap.size w6 w9 := HB68.out.trans (hbq9.mono HB68.out.size)
            have hbw9 : Below w.heap.size w w9 := hbw6.trans (hb69.mono (by have := hbw6.size; omega))
            have hult6' : ∀ g, (Value.slice VA P6.length vc).ownBlock = some g → g < w6.heap.size := fun g hg => by
              obtain ⟨_, hown66⟩ : ∃ vs, w6.ownsRow N 73 5 (.slice VA P6.length vc) (sureP ps (part base at_ r1)).length (pcCells (sureP ps (part base at_ r1)) vs) := by
                obtain ⟨vs, _, h, _⟩ := HE6.out.own
                exact ⟨vs, h⟩
              exact own_lt hown66 g hg
            obtain ⟨ip, hip, hpz, hpq, hpb⟩ := info_parts info_piece
            have HCL : Hid (∀ W : World, Below w9.heap.size w9 W → Calls Try.prog 42 #[.slice A0 base.length c0, .int .i64 (r1 : Int), .int .i64 (r2 : Int)] W fun e w' => ∃ A n c, e = .returned (.slice A n c) ∧ Strs w' (.slice A n c) (part base r1 r2) ∧ (∀ g, (Value.slice A n c).ownBlock = some g → w9.heap.size ≤ g ∧ g < w'.heap.size) ∧ Below w9.heap.size w9 w') := hide (fun W hb => by
              refine (sub_any _ base r1 r2 W ((H0.out.below hbw9).below hb) HR1.out HR2.out (by omega)).mono ?_
              rintro e w' ⟨A', n', c', rfl, h1, h2, h3⟩
              exact ⟨A', n', c', rfl, h1, fun g hg => ⟨Nat.le_trans hb.size (h2 g hg).1, (h2 g hg).2⟩, hb.trans (h3.mono hb.size)⟩)
            have hbd : Below w9.heap.size w9 w9.drew := Below.drew (Below.refl _ _)
            have HCLASH : Hid (∀ (A' : Option Addr) (n' c' : Nat) (wc w11 : World) (ob : Obj) (v' : Value), Below w9.heap.size w9 wc → Strs wc (.slice A' n' c') (part base r1 r2) → (∀ g, (Value.slice A' n' c').ownBlock = some g → w9.heap.size ≤ g ∧ g < wc.heap.size) → w11.ownsRow N 73 5 v' (P6.length + 1) (pcCells P6 vs6 ++ [.bool true, .slice none 0 0, .slice A' n' c', .slice FA F1.length fc, .slice GA F2.length gc]) → (wc.alloc ob).grownBy w11 (Value.slice VA P6.length vc).ownBlock → (v'.ownBlock = (Value.slice VA P6.length vc).ownBlock ∨ v'.ownBlock = some (wc.alloc ob).heap.size) →
                MgAt w3 w5 (w11.setCell ⟨M, 0, none⟩ v') M N base x y rs (k + 1) r2 v' (stepRg base x y (r1, r2) at_ ps) ∧ (w11.setCell ⟨M, 0, none⟩ v').cell? ⟨wr.heap.size, 1, none⟩ = some (.int .i64 (r2 : Int))) := hide (fun A' n' c' wc w11 ob v' q1 q2 q3 q4 q5 q6 => by
              have hz9 : w9.heap.size = w8.heap.size := by rw [← hw9]; rfl
              have hz6 := HB68.out.size
              have hz7 := HB8.out.size
              have hN9 := HE9.out.le
              have hs1 : Sits wc N (.slice A' n' c') (.slice VA P6.length vc) := fun g hg => ⟨by have := (q3 g hg).1; omega, (q3 g hg).2, fun e => by have := (q3 g hg).1; have := hult6 g e; omega⟩
              have hs2 : Sits wc N (.slice FA F1.length fc) (.slice VA P6.length vc) := fun g hg => by
                have h := HG7.out g hg
                have := q1.size
                exact ⟨by omega, by omega, fun e => by have := hult6' g e; omega⟩
              have hs3 : Sits wc N (.slice GA F2.length gc) (.slice VA P6.length vc) := fun g hg => by
                have h := HG8.out g hg
                have := q1.size
                exact ⟨by omega, by omega, fun e => by have := hult6' g e; omega⟩
              obtain ⟨m1, m2, m3⟩ := MgEnv.clash (l1 := part base r1 r2) (l2 := F1) (l3 := F2) HE9.out HVS6.out HOWN6.out HEL6.out q1 q2 (((HS7.out.below HB8.out).below HBQ9.out).below q1) ((HS8.out.below HBQ9.out).below q1) hs1 hs2 hs3 q4 q5 q6
              have hbx9 := (HBQ9.out.block wr.heap.size hbox8).trans HBX8.out
              refine ⟨HSTEP.out _ _ (by rw [HADD.out]; exact m1) ?_, by rw [Lib.cell_of_heap ((m3 wr.heap.size _ _ _ hMr hbx9 (by decide) (by decide)).trans hbx9)]; rfl⟩
              exact HBB8.out.trans ((But.of_below HBQ9.out hN8).trans m2))
            clear hF hni hn0 hE9 hvs6 hown6 hel6 hw9 hb69 hbw9 d08 d18 HSF HSG
            go_wp2_with fail
            go_region_law (first | (go_simp; go_at_call 42; (with_reducible refine (HCL.out w9.drew hbd).mono ?_); rintro e wc ⟨A', n', c', rfl, hsc, hgc, hbc⟩; have cMc := (hbc.cell (p := ⟨M, 0, none⟩) hM9).trans cM9; have fMc := (hbc.frozen (p := ⟨M, 0, none⟩) hM9).trans fM9; have hlwc : M < wc.heap.size := Nat.lt_of_lt_of_le hM9 hbc.size; go_wp2_with fail) | (refine step_append_lies _ (by rfl) _ _ _ (by rfl) N 73 ip _ 5 104 Try.underlying23 hip hpz hpq hpb rfl (by omega) _ P6.length (pcCells P6 vs6) (by kernel_rfl) ((own_below HOWN6.out hbc).alloc _) ⟨wc.heap.size, 0, none⟩ 1 1 [.bool true, .slice none 0 0, .slice A' n' c', .slice FA F1.length fc, .slice GA F2.length gc] (by kernel_rfl) (by rfl) (five_new _ _ _ _ _ _ _) (by simp [Value.oneCell']) (by omega) (by unfold maxLen; omega) (by omega) (by have := hbc.size; simp; omega) (wc.heap.size + 1) (by simp) ?_; intro gg cap3 w11 hown3 hgrow hat hlt3; have c3 : w11.cell? ⟨M, 0, none⟩ = _ := (grown_cell (p := ⟨M, 0, none⟩) hgrow (by have := hbc.size; simp; omega) (fun e => by have := huge6 M e; omega)).trans ((World.cell?_alloc_lt _ _ _ (by have := hbc.size; show M < _; omega)).trans cMc); have f3 : w11.frozen? ⟨M, 0, none⟩ = false := (grown_frozen (p := ⟨M, 0, none⟩) hgrow (by have := hbc.size; simp; omega) (fun e => by have := huge6 M e; omega)).trans (frozen_alloc fMc)))
            all_goals
              have hres := HCLASH.out A' n' c' wc w11 _ _ hbc hsc hgc hown3 hgrow (hat.elim (fun e => .inl (by rw [e]; rfl)) (fun e => .inr (by rw [e]; simp [Value.ownBlock])))
              have k1 := hres.2
              have HRES := hide hres.1
              clear hres hown3 hgrow hat hlt3 c3 f3 cMc fMc hsc hgc
              go_wp2_with fail
              go_roundw
              case rel => exact ⟨k + 1, r2, _, _, by omega, by go_num, rfl, HRES⟩
              case measure => simp [intOf]; omega
    · obtain rfl : k = rs.length := by omega
      have hd : ¬ ((rs.length : Int) < (rs.length : Int)) := by omega
      obtain ⟨vk, hvk, hsk⟩ := cut_from H0.out (k := at_) hle
      have hbk := HKEEP.out _ HAT.out.but
      have hbw : Below w.heap.size w wr := HBW3.out.trans (hbk.mono (by have := HBW3.out.size; have := HMM.out; omega))
      have HSURE := hide (sureR_any M N v vk ps (base.drop at_) wr HAT.out.env (hsk.below hbw) (by rw [List.length_drop]; omega) (by have := HAT.out.len; omega) (HAT.out.lines.mono (by omega)))
      have HRUN : Hid (mergeRun base x y rs 0 [] = sureP ps (base.drop at_)) := hide (by rw [HAT.out.run, List.drop_length]; rfl)
      clear hsk
      go_wp2_with fail
      refine HSURE.out.mono ?_
      rintro e w6 ⟨rfl, v6, hE6, hB6, _⟩
      have c6 := hE6.cell
      have HE6 := hide hE6
      have hb6 : Below w.heap.size w w6 := hbw.trans (hB6.below (by have := HBW3.out.size; have := HMM.out; omega) (by have := HBW3.out.size; have := HMM.out; omega))
      clear HSURE hE6 hB6
      go_wp2_with fail
      go_ret
      refine ⟨v6, rfl, ⟨rs, HSEP.out, fun t => ?_, ?_⟩, hb6⟩
      · rw [HX.out, HY.out]; exact HCOV.out t
      · rw [HMO.out, HRUN.out]; exact HE6.out.own.read
end Go.Proofs.Ytfjbdbdjhkmifaa
