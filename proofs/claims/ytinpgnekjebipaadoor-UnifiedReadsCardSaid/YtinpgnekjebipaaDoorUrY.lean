/- The reference's ReadPatch: the walk. -/
import Derived.Test.YtinpgnekjebipaaDoorUrZ
import Derived.Deep.RegionLaw
import Derived.BigRegion
set_option linter.unusedSimpArgs false
set_option linter.unusedVariables false
namespace Go.Proofs.YtinpgnekjebipaaDoor
open Go.RowKit Go.Pw
set_option maxHeartbeats 8000000 in
set_option maxRecDepth 100000 in
theorem readPatch_any (s : ByteArray) (w : World) (hmax : s.size ≤ maxLen) : Calls Tryd.prog 13 #[.string s] w (ParsePost s w) := by
  unfold maxLen at hmax
  by_cases hbig : 65536 < s.size
  · have hr : urRes hdS s = ([], 0, 2) := if_pos hbig
    have HR := hide hr
    have hb' : (65536 : Int) < (s.size : Int) := by omega
    clear hr
    go_enter Tryd.func13, Tryd.ntmps13
    go_wp2_with fail
    go_ret3
    exact ⟨.slice none 0 0, by rw [HR.out]; rfl, by rw [HR.out]; exact hunks_nilU w, Below.refl _ _⟩
  · obtain ⟨L, hL⟩ : ∃ L, linesOf s = L := ⟨_, rfl⟩
    obtain ⟨R, hR⟩ : ∃ R, urRun hdS L 0 .zero = R := ⟨_, rfl⟩
    have hrs : urRes hdS s = urEnd R := by unfold urRes; rw [if_neg hbig, hL, hR]
    have HRS := hide hrs
    have hb' : ¬ (65536 : Int) < (s.size : Int) := by omega
    obtain ⟨hln, hlz⟩ := linesOf_bound s
    rw [hL] at hln hlz
    have hlz' : ∀ x ∈ L, x.size ≤ 65536 := fun x hx => by have := hlz x hx; omega
    have HLZ := hide hlz'
    have hLn : L.length ≤ 65537 := by omega
    have HLIN := hide (linesOf_any s w (by omega))
    rw [hL] at HLIN
    have HR := hide hR
    obtain ⟨PST, hPST⟩ : ∃ P, ParsePost s w = P := ⟨_, rfl⟩
    have HPST := hide hPST
    rw [hPST]
    clear hrs hlz hlz' hln hR hPST hL
    go_enter Tryd.func13, Tryd.ntmps13
    go_wp2_with fail
    refine HLIN.out.mono ?_
    rintro e w1 ⟨v, rfl, hown, hb1⟩
    have HB1 := hide hb1
    have hcl : ∀ k x, L[k]? = some x → ∃ g cap, v = .slice (some ⟨g, 0, none⟩) L.length cap ∧ g < w1.heap.size ∧ w1.cell? ⟨g, k, none⟩ = some (.string x) := fun k x hx => by
      unfold OwnS at hown
      have hk := (List.getElem?_eq_some_iff.1 hx).1
      obtain ⟨h0, hn | ⟨g, cap, cur, rfl, hrest⟩⟩ := hown
      · omega
      · have hown2 : w1.ownsRow w.heap.size 9 1 (.slice (some ⟨g, 0, none⟩) L.length cap) L.length (L.map Value.string) := ⟨h0, .inr ⟨g, cap, cur, rfl, hrest⟩⟩
        refine ⟨g, cap, rfl, own_lt hown2 g rfl, ?_⟩
        rw [hown2.cellAt k (by omega)]
        simp [hx]
    have HCL := hide hcl
    obtain ⟨A, c, rfl⟩ := own_fmU hown
    clear hown hcl hb1 HLIN
    go_wp2_with fail
    have RG0 : Hid (RgAt w1 w1 R L 0 (.slice none 0 0) 0 0 0 false) := hide ⟨Below.refl _ _, [], [], 0, 0, rfl, HkOwn.zero _ _ _ _, UnOk.zero, by rw [List.drop_zero]; exact HR.out.symm⟩
    go_loopw [6, 7, 8, 9, 10] (fun out lg oe ne i wr => ∃ (k n : Nat) (B : Bool) (e d : Int), k ≤ L.length ∧ lg = .bool B ∧ oe = .int .i64 e ∧ ne = .int .i64 (e + d) ∧ i = .int .i64 (k : Int) ∧ Hid (RgAt w1 wr R L k out n e d B)) (fun _ _ _ _ i _ => L.length - (intOf i).toNat)
    case atStart => exact ⟨0, 0, false, 0, 0, Nat.zero_le _, rfl, rfl, rfl, rfl, RG0⟩
    case round =>
      obtain ⟨k, n, B, e0, d0, hk, rfl, rfl, rfl, rfl, RG⟩ := hrel
      by_cases hlt : k < L.length
      · obtain ⟨x, hx⟩ : ∃ x, L[k] = x := ⟨_, rfl⟩
        have hxs : x.size ≤ 65536 := by rw [← hx]; exact HLZ.out _ (List.getElem_mem hlt)
        obtain ⟨g, cap, e1, hg1, hc1⟩ := HCL.out k L[k] (List.getElem?_eq_getElem hlt)
        injection e1 with e1 _ e2
        subst e1 e2
        have hcell : wr.cell? ⟨g, k, none⟩ = some (.string x) := (RG.out.bel.cell (p := ⟨g, k, none⟩) hg1).trans (by rw [hc1, hx])
        obtain ⟨fin, vs, oa0, na0, hfn, hown, huk, hrun⟩ := RG.out.run
        have hb0 := RG.out.bel
        rw [List.drop_eq_getElem_cons hlt, hx, urRun] at hrun
        have hrun2 : R = match hdS x with
          | none => .bad k
          | some h => if h.oa < e0 ∨ h.na ≠ h.oa + d0 then .order else urRun hdS (L.drop (k + 1)) (k + 1) (Un.rest (Un.start ⟨fin, none, oa0, 0, na0, 0, e0, d0, [], B⟩ h)) := by
          rw [hrun]; rfl
        have HRUN := hide hrun2
        have HOWN := hide hown
        have HUK := hide huk
        have HFN := hide hfn
        have HB0 := hide hb0
        have HHD := hide (headR_any x wr (by omega))
        have he1 := huk.e1; have he2 := huk.e2; have hd1 := huk.d1; have hd2 := huk.d2
        simp only at he1 he2 hd1 hd2
        clear hx hc1 RG hown huk hrun hrun2 hfn hb0
        go_wp2_with fail
        refine HHD.out.mono ?_
        rintro e w2 ⟨hb2, (⟨hnone, x0, x1, x2, x3, rfl⟩ | ⟨n1, m1, n2, m2, hsome, ⟨bd1, bd2, bd3, bd4⟩, rfl⟩)⟩
        · have HRE : Hid (urRes hdS s = ([], k, 1)) := hide (by
            have hq : hdS x = none := hnone
            rw [HRS.out, HRUN.out, hq]; rfl)
          have HB2 := hide (HB1.out.trans ((HB0.out.trans (hb2.mono HB0.out.size)).mono HB1.out.size))
          clear hnone hb2 HHD HRUN
          go_wp2_with fail
          go_ret3
          rw [← HPST.out]
          exact ⟨.slice none 0 0, by rw [HRE.out]; rfl, by rw [HRE.out]; exact hunks_nilU _, HB2.out.alloc HB2.out.size _⟩
        · obtain ⟨F, hF⟩ : ∃ F, atH n1 m1 = F := ⟨_, rfl⟩
          obtain ⟨T, hT⟩ : ∃ T, atH n2 m2 = T := ⟨_, rfl⟩
          rw [hF, hT] at hsome
          have HSM : Hid (hdS x = some ⟨F, m1, T, m2⟩) := hide hsome
          have HFF := hide hF
          have HTT := hide hT
          have hFb : -1 ≤ F ∧ F ≤ 999999 := by rw [← hF]; unfold atH; split <;> omega
          have hTb : -1 ≤ T ∧ T ≤ 999999 := by rw [← hT]; unfold atH; split <;> omega
          have HW2 := hide (HB0.out.trans (hb2.mono HB0.out.size))
          have HOWN2 := hide (HOWN.out.below hb2)
          clear hsome hF hT hb2 HHD HOWN HB0 hcell
          go_upto_region 12 with fail
          obtain ⟨Y, hY⟩ : ∃ Y, w2.heap.size = Y := ⟨_, rfl⟩
          have HW3 : Hid (Below w1.heap.size w1 (w2.alloc (.cells #[.int .i64 (n1 : Int), .int .i64 (m1 : Int), .int .i64 (n2 : Int), .int .i64 (m2 : Int)] 58))) := hide (HW2.out.alloc HW2.out.size _)
          have HO3 : Hid (HkOwn (w2.alloc (.cells #[.int .i64 (n1 : Int), .int .i64 (m1 : Int), .int .i64 (n2 : Int), .int .i64 (m2 : Int)] 58)) 46 9 w1.heap.size u6 fin vs (.slice none 0 0) []) := hide (HOWN2.out.below ((Below.refl _ _).alloc (Nat.le_refl _) _))
          have HQ3 : Hid (Quad (w2.alloc (.cells #[.int .i64 (n1 : Int), .int .i64 (m1 : Int), .int .i64 (n2 : Int), .int .i64 (m2 : Int)] 58)) Y (.int .i64 (n1 : Int)) (.int .i64 (m1 : Int)) (.int .i64 (n2 : Int)) (.int .i64 (m2 : Int))) := hide (by rw [← hY]; exact heap_alloc_new _ _)
          have hYB : w1.heap.size ≤ Y := by rw [← hY]; exact HW2.out.size
          rw [hY]
          clear HW2 HOWN2 hY
          generalize w2.alloc (.cells #[.int .i64 (n1 : Int), .int .i64 (m1 : Int), .int .i64 (n2 : Int), .int .i64 (m2 : Int)] 58) = W3 at *
          obtain ⟨c0, c1, c2, c3⟩ := HQ3.out.cells
          have hw1 : IntKind.i64.wrap ((n1 : Int) - 1) = (n1 : Int) - 1 := by rw [IntKind.wrap_i64]; omega
          have hw2 : IntKind.i64.wrap ((n2 : Int) - 1) = (n2 : Int) - 1 := by rw [IntKind.wrap_i64]; omega
          go_quiet (fail)
          have HW4 := hide (below_drewN HW3.out nq)
          have HO4 := hide (HO3.out.below (below_drewN (Below.refl _ _) nq))
          have HQ4 : Hid (Quad (W3.drewN nq) Y (.int .i64 (n1 : Int)) (.int .i64 (m1 : Int)) (.int .i64 (n2 : Int)) (.int .i64 (m2 : Int))) := hide HQ3.out
          clear HW3 HO3 HQ3 c0 c1 c2 c3
          generalize W3.drewN nq = W4 at *
          obtain ⟨c0, c1, c2, c3⟩ := HQ4.out.cells
          go_upto_if 54 with fail
          go_cut [13] from 55 to 56 (fun f wx => f = .int .i64 F ∧ wx = W4)
          case first =>
            by_cases h1 : m1 = 0
            · have g1 : ((m1 : Int) == 0) = true := by rw [h1]; rfl
              have HF1 : Hid ((n1 : Int) = F) := hide (by rw [← HFF.out]; unfold atH; rw [if_pos h1])
              clear h1
              go_wp2_with fail
              go_meet
              case rel => exact ⟨by rw [← HF1.out]; try simp, rfl⟩
            · have g1 : ((m1 : Int) == 0) = false := by simp; omega
              have HF1 : Hid ((n1 : Int) - 1 = F) := hide (by rw [← HFF.out]; unfold atH; rw [if_neg h1])
              clear h1
              go_wp2_with fail
              go_meet
              case rel => exact ⟨by rw [← HF1.out], rfl⟩
          case rest =>
            obtain ⟨rfl, rfl⟩ := hcut
            go_upto_if 59 with fail
            go_cut [14] from 60 to 61 (fun f wx => f = .int .i64 T ∧ wx = wc)
            case first =>
              by_cases h1 : m2 = 0
              · have g1 : ((m2 : Int) == 0) = true := by rw [h1]; rfl
                have HF1 : Hid ((n2 : Int) = T) := hide (by rw [← HTT.out]; unfold atH; rw [if_pos h1])
                clear h1
                go_wp2_with fail
                go_meet
                case rel => exact ⟨by rw [← HF1.out]; try simp, rfl⟩
              · have g1 : ((m2 : Int) == 0) = false := by simp; omega
                have HF1 : Hid ((n2 : Int) - 1 = T) := hide (by rw [← HTT.out]; unfold atH; rw [if_neg h1])
                clear h1
                go_wp2_with fail
                go_meet
                case rel => exact ⟨by rw [← HF1.out], rfl⟩
            case rest =>
              obtain ⟨rfl, rfl⟩ := hcut
              clear c0 c2 hw1 hw2
              have hv1 : IntKind.i64.wrap (T - (e0 + d0)) = T - (e0 + d0) := by rw [IntKind.wrap_i64]; omega
              have hv2 : IntKind.i64.wrap (F - e0) = F - e0 := by rw [IntKind.wrap_i64]; omega
              by_cases hord : F < e0 ∨ T ≠ F + d0
              · as_aux_lemma =>
                  have HRE : Hid (urRes hdS s = ([], 0, 9)) := hide (by
                    rw [HRS.out, HRUN.out, HSM.out]
                    dsimp only
                    rw [if_pos hord]; rfl)
                  have HB5 := hide (HB1.out.trans (HW4.out.mono HB1.out.size))
                  by_cases h1 : F < e0
                  · have g1 : decide (F < e0) = true := by simpa using h1
                    clear HRUN hord
                    go_wp2_with fail
                    go_ret3
                    rw [← HPST.out]
                    exact ⟨.slice none 0 0, by rw [HRE.out]; rfl, by rw [HRE.out]; exact hunks_nilU _, HB5.out⟩
                  · have g1 : decide (F < e0) = false := by simpa using h1
                    by_cases h2 : T < e0 + d0
                    · have g2 : decide (T < e0 + d0) = true := by simpa using h2
                      clear HRUN hord
                      go_wp2_with fail
                      go_ret3
                      rw [← HPST.out]
                      exact ⟨.slice none 0 0, by rw [HRE.out]; rfl, by rw [HRE.out]; exact hunks_nilU _, HB5.out⟩
                    · have g2 : decide (T < e0 + d0) = false := by simpa using h2
                      have g3 : (T - (e0 + d0) != F - e0) = true := by simp; omega
                      clear HRUN hord
                      go_wp2_with fail
                      go_ret3
                      rw [← HPST.out]
                      exact ⟨.slice none 0 0, by rw [HRE.out]; rfl, by rw [HRE.out]; exact hunks_nilU _, HB5.out⟩
              · have hTF : T = F + d0 := by omega
                have hFe : e0 ≤ F := by omega
                have HRUN2 : Hid (R = urRun hdS (L.drop (k + 1)) (k + 1) (Un.rest (Un.start ⟨fin, none, oa0, 0, na0, 0, e0, d0, [], B⟩ ⟨F, m1, T, m2⟩))) := hide (by
                  rw [HRUN.out, HSM.out]
                  dsimp only
                  rw [if_neg hord])
                have HOK5 := hide ((HUK.out.mono (Nat.le_succ k)).start (hdS_ok _ _ HSM.out) hord)
                have HTF := hide hTF
                have g1 : decide (F < e0) = false := by simp; omega
                have g2 : decide (T < e0 + d0) = false := by simp; omega
                have g3 : (T - (e0 + d0) != F - e0) = false := by simp; omega
                clear HRUN HUK hord hTF
                go_upto_region 20 with fail
                go_quiet (fail)
                have HW5 := hide (below_drewN HW4.out nq)
                have HO5 := hide (HO4.out.below (below_drewN (Below.refl _ _) nq))
                have HQ5 : Hid (Quad (wc.drewN nq) Y (.int .i64 (n1 : Int)) (.int .i64 (m1 : Int)) (.int .i64 (n2 : Int)) (.int .i64 (m2 : Int))) := hide HQ4.out
                clear HW4 HO4 HQ4 c1 c3
                generalize wc.drewN nq = W5 at *
                obtain ⟨X, hX⟩ : ∃ X, W5.heap.size = X := ⟨_, rfl⟩
                have HW6 : Hid (Below w1.heap.size w1 (W5.alloc (.cells #[.int .i64 F, .int .i64 T, .slice none 0 0, .slice none 0 0] 46))) := hide (HW5.out.alloc HW5.out.size _)
                have HR6 : Hid (RpAt w1 (W5.alloc (.cells #[.int .i64 F, .int .i64 T, .slice none 0 0, .slice none 0 0] 46)) X Y u6 fin vs ⟨F, T, [], []⟩ (.slice none 0 0) (.slice none 0 0) (.slice none 0 0) [] n1 m1 n2 m2) := hide (by
                  have hYl : Y < W5.heap.size := (Array.getElem?_eq_some_iff.1 HQ5.out).1
                  refine RpAt.renew HW6.out (by rw [← hX]; exact HW5.out.size) hYB (by rw [← hX]; exact heap_alloc_new _ _) ((heap_alloc_old _ _ hYl).trans HQ5.out) (fun e => ?_) (HO5.out.below ((Below.refl _ _).alloc (Nat.le_refl _) _)) rfl rfl
                  have := own_lt HO5.out.row X e
                  omega)
                have HIN0 : Hid (InAt w1 (W5.alloc (.cells #[.int .i64 F, .int .i64 T, .slice none 0 0, .slice none 0 0] 46)) X Y R L (k + 1) u6 B m1 m2 F T false (.slice none 0 0) (F + (m1 : Int)) (d0 + ((m2 : Int) - (m1 : Int))) n1 m1 n2 m2) := hide (by
                  have e : inUn fin false ⟨F, T, [], []⟩ F m1 T m2 (F + (m1 : Int)) (d0 + ((m2 : Int) - (m1 : Int))) [] B = Un.start ⟨fin, none, oa0, 0, na0, 0, e0, d0, [], B⟩ ⟨F, m1, T, m2⟩ := by simp [inUn, Un.start]
                  exact ⟨fin, vs, _, _, _, [], HR6.out, fun _ => rfl, by rw [e]; exact HOK5.out, by rw [e]; exact HRUN2.out⟩)
                have HXE := hide hX
                clear hX HR6 HW6 HO5 HQ5 HW5 HRUN2 HOK5
                go_wp2_with fail
                rw [HXE.out]
                go_loopw [6, 7, 10, 15, 16, 18, 19, 20, 21] (fun out lg i nn mm oa na ch cv wr => ∃ (k' nc mc : Nat) (lg' : Bool) (oa' na' : Int) (ch' : Bool), k + 1 ≤ k' ∧ k' ≤ L.length ∧ lg = .bool lg' ∧ i = .int .i64 (k' : Int) ∧ nn = .int .i64 (nc : Int) ∧ mm = .int .i64 (mc : Int) ∧ oa = .int .i64 oa' ∧ na = .int .i64 na' ∧ ch = .bool ch' ∧
                    Hid (InAt w1 wr X Y R L k' out lg' nc mc oa' na' ch' cv (F + (m1 : Int)) (d0 + ((m2 : Int) - (m1 : Int))) n1 m1 n2 m2)) (fun _ _ i _ _ _ _ _ _ _ => L.length - (intOf i).toNat)
                case atStart => exact ⟨k + 1, m1, m2, B, F, T, false, Nat.le_refl _, by omega, rfl, by go_num, rfl, rfl, rfl, rfl, rfl, HIN0⟩
                case round =>
                  obtain ⟨k', nc, mc, lg', oa', na', ch', hkk, hk', rfl, rfl, rfl, rfl, rfl, rfl, rfl, IN⟩ := hrel
                  obtain ⟨fin2, vs2, now, o, n3, wait, hrp, hch, huk, hrun⟩ := IN.out.run
                  have HRP := hide hrp
                  have HCH := hide hch
                  have HUK := hide huk
                  have hBX : Below w.heap.size w wr := HB1.out.trans (hrp.bel.mono HB1.out.size)
                  have HBX := hide hBX
                  clear IN hrp hch huk hBX HIN0
                  by_cases hop : 0 < nc + mc
                  · have hro : (inUn fin2 ch' now oa' nc na' mc (F + (m1 : Int)) (d0 + ((m2 : Int) - (m1 : Int))) wait lg').opn = true := decide_eq_true hop
                    rw [show (inUn fin2 ch' now oa' nc na' mc (F + (m1 : Int)) (d0 + ((m2 : Int) - (m1 : Int))) wait lg').rest = (inUn fin2 ch' now oa' nc na' mc (F + (m1 : Int)) (d0 + ((m2 : Int) - (m1 : Int))) wait lg') by unfold Un.rest; rw [if_pos hro]] at hrun
                    have HOPN := hide hro
                    have HRUN := hide hrun
                    clear hro hrun
                    go_upto_region 25 with fail
                    go_cut [96] from 91 to 95 (fun b wx => b = .bool true ∧ wx = wr)
                    case first =>
                      by_cases h1 : 0 < nc
                      · have g1 : (0 : Int) < (nc : Int) := by omega
                        go_wp2_with fail
                        go_meet
                        case rel => exact ⟨rfl, rfl⟩
                      · have g1 : ¬ (0 : Int) < (nc : Int) := by omega
                        have g2 : (0 : Int) < (mc : Int) := by omega
                        go_wp2_with fail
                        go_meet
                        case rel => exact ⟨by simp; omega, rfl⟩
                    case rest =>
                      obtain ⟨rfl, rfl⟩ := hcut
                      by_cases hend : k' < L.length
                      · have hne : ((k' : Int) == (L.length : Int)) = false := by simp; omega
                        obtain ⟨x, hx⟩ : ∃ x, L[k'] = x := ⟨_, rfl⟩
                        have hxs : x.size ≤ 65536 := by rw [← hx]; exact HLZ.out _ (List.getElem_mem hend)
                        obtain ⟨g2, cap2, e1, hg2, hc2⟩ := HCL.out k' L[k'] (List.getElem?_eq_getElem hend)
                        have e3 : g = g2 := by injection e1 with e1; injection e1 with e1; injection e1
                        subst e3
                        have hcell2 : wc.cell? ⟨g, k', none⟩ = some (.string x) := (HRP.out.bel.cell (p := ⟨g, k', none⟩) hg2).trans (by rw [hc2, hx])
                        have hrun2 := urRun_line hend hx HOPN.out HRUN.out
                        have HRUN2 := hide hrun2
                        clear hx hc2 e1 hrun2 HRUN HOPN
                        obtain ⟨B, hB⟩ : ∃ B, decide (badL x nc mc) = B := ⟨_, rfl⟩
                        have HBB := hide hB
                        clear hB
                        go_upto_region 29 with fail
                        go_cut [153] from 106 to 152 (fun b wx => b = .bool B ∧ wx = wc)
                        case first =>
                          as_aux_lemma =>
                            rcases Nat.eq_zero_or_pos x.size with h0 | h0
                            · have hBt : B = true := by rw [← HBB.out]; exact decide_eq_true (.inl h0)
                              subst hBt
                              obtain rfl := empty_of (s := x) (by omega)
                              clear HBB HRUN2 hcell2
                              go_wp2_with fail
                              go_meet
                              case rel => exact ⟨rfl, rfl⟩
                            · have he := isEmpty_of h0
                              have hsg := sgn_at h0
                              have hall : (x[0].toNat = 32 ∧ nc = 0) ∨ (x[0].toNat = 32 ∧ ¬ nc = 0 ∧ mc = 0) ∨ (x[0].toNat = 32 ∧ ¬ nc = 0 ∧ ¬ mc = 0) ∨ (x[0].toNat = 45 ∧ nc = 0) ∨ (x[0].toNat = 45 ∧ ¬ nc = 0) ∨ (x[0].toNat = 43 ∧ mc = 0) ∨ (x[0].toNat = 43 ∧ ¬ mc = 0) ∨ (¬ x[0].toNat = 32 ∧ ¬ x[0].toNat = 45 ∧ ¬ x[0].toNat = 43) := by omega
                              rcases hall with hk | hk | hk | hk | hk | hk | hk | hk
                              · have hBt : B = true := by
                                  rw [← HBB.out]
                                  refine decide_eq_true (?_)
                                  unfold badL; rw [hsg]; omega
                                subst hBt
                                have e32 : ((x[0].toNat : Int) == 32) = true := beq_iff_eq.2 (by omega)
                                have n0 : ((nc : Int) == 0) = true := beq_iff_eq.2 (by omega)
                                clear hk hsg HBB HRUN2
                                go_wp2_with fail
                                go_meet
                                case rel => exact ⟨rfl, rfl⟩
                              · have hBt : B = true := by
                                  rw [← HBB.out]
                                  refine decide_eq_true (?_)
                                  unfold badL; rw [hsg]; omega
                                subst hBt
                                have e32 : ((x[0].toNat : Int) == 32) = true := beq_iff_eq.2 (by omega)
                                have n0 : ((nc : Int) == 0) = false := beq_eq_false_iff_ne.2 (by omega)
                                have m0 : ((mc : Int) == 0) = true := beq_iff_eq.2 (by omega)
                                clear hk hsg HBB HRUN2
                                go_wp2_with fail
                                go_meet
                                case rel => exact ⟨rfl, rfl⟩
                              · have hBt : B = false := by
                                  rw [← HBB.out]
                                  refine decide_eq_false (?_)
                                  unfold badL; rw [hsg]; omega
                                subst hBt
                                have e32 : ((x[0].toNat : Int) == 32) = true := beq_iff_eq.2 (by omega)
                                have n0 : ((nc : Int) == 0) = false := beq_eq_false_iff_ne.2 (by omega)
                                have m0 : ((mc : Int) == 0) = false := beq_eq_false_iff_ne.2 (by omega)
                                have e45 : ((x[0].toNat : Int) == 45) = false := beq_eq_false_iff_ne.2 (by omega)
                                have e43 : ((x[0].toNat : Int) == 43) = false := beq_eq_false_iff_ne.2 (by omega)
                                have ne32 : ((x[0].toNat : Int) != 32) = false := bne_eq_false_iff_eq.2 (by omega)
                                clear hk hsg HBB HRUN2
                                go_wp2_with fail
                                go_meet
                                case rel => exact ⟨rfl, rfl⟩
                              · have hBt : B = true := by
                                  rw [← HBB.out]
                                  refine decide_eq_true (?_)
                                  unfold badL; rw [hsg]; omega
                                subst hBt
                                have e32 : ((x[0].toNat : Int) == 32) = false := beq_eq_false_iff_ne.2 (by omega)
                                have e45 : ((x[0].toNat : Int) == 45) = true := beq_iff_eq.2 (by omega)
                                have n0 : ((nc : Int) == 0) = true := beq_iff_eq.2 (by omega)
                                clear hk hsg HBB HRUN2
                                go_wp2_with fail
                                go_meet
                                case rel => exact ⟨rfl, rfl⟩
                              · have hBt : B = false := by
                                  rw [← HBB.out]
                                  refine decide_eq_false (?_)
                                  unfold badL; rw [hsg]; omega
                                subst hBt
                                have e32 : ((x[0].toNat : Int) == 32) = false := beq_eq_false_iff_ne.2 (by omega)
                                have e45 : ((x[0].toNat : Int) == 45) = true := beq_iff_eq.2 (by omega)
                                have n0 : ((nc : Int) == 0) = false := beq_eq_false_iff_ne.2 (by omega)
                                have e43 : ((x[0].toNat : Int) == 43) = false := beq_eq_false_iff_ne.2 (by omega)
                                have ne32 : ((x[0].toNat : Int) != 32) = true := bne_iff_ne.2 (by omega)
                                have ne45 : ((x[0].toNat : Int) != 45) = false := bne_eq_false_iff_eq.2 (by omega)
                                clear hk hsg HBB HRUN2
                                go_wp2_with fail
                                go_meet
                                case rel => exact ⟨rfl, rfl⟩
                              · have hBt : B = true := by
                                  rw [← HBB.out]
                                  refine decide_eq_true (?_)
                                  unfold badL; rw [hsg]; omega
                                subst hBt
                                have e32 : ((x[0].toNat : Int) == 32) = false := beq_eq_false_iff_ne.2 (by omega)
                                have e45 : ((x[0].toNat : Int) == 45) = false := beq_eq_false_iff_ne.2 (by omega)
                                have e43 : ((x[0].toNat : Int) == 43) = true := beq_iff_eq.2 (by omega)
                                have m0 : ((mc : Int) == 0) = true := beq_iff_eq.2 (by omega)
                                clear hk hsg HBB HRUN2
                                go_wp2_with fail
                                go_meet
                                case rel => exact ⟨rfl, rfl⟩
                              · have hBt : B = false := by
                                  rw [← HBB.out]
                                  refine decide_eq_false (?_)
                                  unfold badL; rw [hsg]; omega
                                subst hBt
                                have e32 : ((x[0].toNat : Int) == 32) = false := beq_eq_false_iff_ne.2 (by omega)
                                have e45 : ((x[0].toNat : Int) == 45) = false := beq_eq_false_iff_ne.2 (by omega)
                                have e43 : ((x[0].toNat : Int) == 43) = true := beq_iff_eq.2 (by omega)
                                have m0 : ((mc : Int) == 0) = false := beq_eq_false_iff_ne.2 (by omega)
                                have ne32 : ((x[0].toNat : Int) != 32) = true := bne_iff_ne.2 (by omega)
                                have ne45 : ((x[0].toNat : Int) != 45) = true := bne_iff_ne.2 (by omega)
                                have ne43 : ((x[0].toNat : Int) != 43) = false := bne_eq_false_iff_eq.2 (by omega)
                                clear hk hsg HBB HRUN2
                                go_wp2_with fail
                                go_meet
                                case rel => exact ⟨rfl, rfl⟩
                              · have hBt : B = true := by
                                  rw [← HBB.out]
                                  refine decide_eq_true (?_)
                                  unfold badL; rw [hsg]; omega
                                subst hBt
                                have e32 : ((x[0].toNat : Int) == 32) = false := beq_eq_false_iff_ne.2 (by omega)
                                have e45 : ((x[0].toNat : Int) == 45) = false := beq_eq_false_iff_ne.2 (by omega)
                                have e43 : ((x[0].toNat : Int) == 43) = false := beq_eq_false_iff_ne.2 (by omega)
                                have ne32 : ((x[0].toNat : Int) != 32) = true := bne_iff_ne.2 (by omega)
                                have ne45 : ((x[0].toNat : Int) != 45) = true := bne_iff_ne.2 (by omega)
                                have ne43 : ((x[0].toNat : Int) != 43) = true := bne_iff_ne.2 (by omega)
                                clear hk hsg HBB HRUN2
                                go_wp2_with fail
                                go_meet
                                case rel => exact ⟨rfl, rfl⟩
                        case rest =>
                          obtain ⟨rfl, rfl⟩ := hcut
                          cases B with
                          | true =>
                            as_aux_lemma =>
                              have HRE : Hid (urRes hdS s = ([], k', 1)) := hide (by
                                rw [HRS.out, HRUN2.out, step_bad (of_decide_eq_true HBB.out)]; rfl)
                              clear HRUN2 HBB
                              go_wp2_with fail
                              go_ret3
                              rw [← HPST.out]
                              exact ⟨.slice none 0 0, by rw [HRE.out]; rfl, by rw [HRE.out]; exact hunks_nilU _, HBX.out⟩
                          | false =>
                            obtain ⟨hsz, hways⟩ := not_bad (of_decide_eq_false HBB.out)
                            have he := isEmpty_of hsz
                            obtain ⟨b, hb⟩ : ∃ b, lng x = b := ⟨_, rfl⟩
                            have HLB := hide hb
                            have hbd : b = decide ((4096 : Int) < (x.size : Int) - 1) := hb.symm.trans (lng_txt x hsz)
                            have hw5 : IntKind.i64.wrap ((x.size : Int) - 1) = (x.size : Int) - 1 := by rw [IntKind.wrap_i64]; omega
                            have HBD := hide hbd
                            clear HBB hb hbd
                            go_upto_if 158 with fail
                            go_cut [7] from 159 to 159 (fun l wx => l = .bool (lg' || b) ∧ wx = wc)
                            case first =>
                              cases b with
                              | true =>
                                have g1 : (4096 : Int) < (x.size : Int) - 1 := by have h := HBD.out; simpa using h
                                clear HRUN2 hways
                                go_wp2_with fail
                                go_meet
                                case rel => exact ⟨by simp, rfl⟩
                              | false =>
                                have g1 : ¬ (4096 : Int) < (x.size : Int) - 1 := by have h := HBD.out; simpa using h
                                clear HRUN2 hways
                                go_wp2_with fail
                                go_meet
                                case rel => exact ⟨by simp, rfl⟩
                            case rest =>
                              obtain ⟨rfl, rfl⟩ := hcut
                              rcases hways with ⟨h32, hnp, hmp⟩ | hw
                              · as_aux_lemma =>
                                  have e32 : ((x[0].toNat : Int) == 32) = true := beq_iff_eq.2 (by rw [← sgn_at hsz, h32]; rfl)
                                  have hok := HUK.out
                                  have hvs := step_stay (fin := fin2) (ch := ch') (now := now) (oa := oa') (na := na') (oe := F + (m1 : Int)) (de := d0 + ((m2 : Int) - (m1 : Int))) (wait := wait) (lg := lg') hsz h32 hnp hmp
                                  have hok2 := hok.step (by omega) (by omega) hvs
                                  have hrn : R = urRun hdS (L.drop (k' + 1)) (k' + 1) (inUn fin2 ch' now oa' (nc - 1) na' (mc - 1) (F + (m1 : Int)) (d0 + ((m2 : Int) - (m1 : Int))) (wait ++ [txt x]) (lg' || lng x)).rest := by rw [HRUN2.out, hvs]
                                  rw [HLB.out] at hok2 hrn
                                  have hcl : wait.length ≤ k' := hok.c.1
                                  obtain ⟨CA, cc, hcv⟩ := own_fmU (HRP.out.rows.own (u21, wait) (by simp))
                                  have hcv2 : u21 = .slice CA wait.length cc := hcv
                                  clear hcv
                                  subst hcv2
                                  obtain ⟨L2, hL2⟩ : ∃ l, wait ++ [x.extract 1 x.size] = l := ⟨_, rfl⟩
                                  have hL3 : wait ++ [txt x] = L2 := hL2
                                  rw [hL3] at hok2 hrn
                                  have HOK2 := hide hok2
                                  have HRN := hide hrn
                                  have HL2 := hide hL2
                                  have HB : Hid (wait.length + [x.extract 1 x.size].length ≤ 1000000000000) := hide (by simp; omega)
                                  have HSZ : Hid (∀ (W : World) (N : Nat) (T : TypeId), N = W.heap.size → Strs (W.alloc (.cells #[.string (x.extract 1 x.size)] T)) (.slice (some ⟨N, 0, none⟩) 1 1) [x.extract 1 x.size]) := hide (fun W N T hN => hN ▸ one_strs W T (x.extract 1 x.size) (by rw [ByteArray.size_extract]; unfold maxLen; omega))
                                  have hn1 : ((nc - 1 : Nat) : Int) = (nc : Int) - 1 := by omega
                                  have hm1 : ((mc - 1 : Nat) : Int) = (mc : Int) - 1 := by omega
                                  have HN1 := hide hn1
                                  have HM1 := hide hm1
                                  have hv5 : IntKind.i64.wrap ((nc : Int) - 1) = (nc : Int) - 1 := by have := HUK.out.o2; have := HUK.out.o1; simp only [inUn] at *; rw [IntKind.wrap_i64]; omega
                                  have hv6 : IntKind.i64.wrap ((mc : Int) - 1) = (mc : Int) - 1 := by have := HUK.out.n2; have := HUK.out.n1; simp only [inUn] at *; rw [IntKind.wrap_i64]; omega
                                  have MA : Hid (∀ ob, RpAt w1 (wc.alloc ob) X Y u6 fin2 vs2 now o n3 (.slice CA wait.length cc) wait n1 m1 n2 m2) := hide (fun ob => HRP.out.below ((Below.refl _ _).alloc (Nat.le_refl _) ob))
                                  have hbz := HRP.out.bel.size
                                  clear hok hvs hok2 hrn hL2 hL3 hn1 hm1 HRUN2 h32
                                  go_wp2_with (at_builtin; refine wpList_appU rfl (.tmp 162) (.tmp 165) rfl w1.heap.size (.slice CA wait.length cc) wait rfl ((MA.out _).rows.own (.slice CA wait.length cc, wait) (by simp)) (.slice (some ⟨_, 0, none⟩) 1 1) [x.extract 1 x.size] L2 rfl (HSZ.out _ _ _ (by simp)) HL2.out HB.out (by simp; omega) ?_; intro A1 k1 wb hown1 hgr1 hat1; have M2 := hide ((MA.out _).side hgr1 hown1 hat1); clear hown1 hgr1 hat1)
                                  go_roundw
                                  case rel => exact ⟨k' + 1, nc - 1, mc - 1, lg' || b, oa', na', ch', by omega, by omega, rfl, by go_num, by rw [HN1.out], by rw [HM1.out], rfl, rfl, rfl, hide ⟨fin2, vs2, now, o, n3, L2, M2.out, HCH.out, HOK2.out, HRN.out⟩⟩
                                  case measure => simp [intOf]; omega
                              · have hsg := sgn_at hsz
                                have e32 : ((x[0].toNat : Int) == 32) = false := beq_eq_false_iff_ne.2 (by omega)
                                have hok := HUK.out
                                have hcl : wait.length ≤ k' := hok.c.1
                                have hfl : fin2.length ≤ k' := by have := hok.n; simp only [Un.all, inUn, List.length_append] at this; omega
                                have HCZ : Hid (∀ s ∈ wait, s.size ≤ 1000000) := hide hok.c.2
                                have bo1 : -1 ≤ oa' + (wait.length : Int) := hok.o1
                                have bo2 : oa' + (wait.length : Int) + (nc : Int) ≤ 2000000 := hok.o2
                                have bn1 : -1 ≤ na' + (wait.length : Int) := hok.n1
                                have bn2 : na' + (wait.length : Int) + (mc : Int) ≤ 2000000 := hok.n2
                                obtain ⟨oa2, hoa2⟩ : ∃ v, oa' + (wait.length : Int) = v := ⟨_, rfl⟩
                                obtain ⟨na2, hna2⟩ : ∃ v, na' + (wait.length : Int) = v := ⟨_, rfl⟩
                                have hwo : IntKind.i64.wrap (oa' + (wait.length : Int)) = oa2 := by rw [IntKind.wrap_i64]; omega
                                have hwn : IntKind.i64.wrap (na' + (wait.length : Int)) = na2 := by rw [IntKind.wrap_i64]; omega
                                rw [hoa2] at bo1 bo2
                                rw [hna2] at bn1 bn2
                                have HO2 := hide hoa2
                                have HN2 := hide hna2
                                obtain ⟨CA, cc, hcv⟩ := own_fmU (HRP.out.rows.own (u21, wait) (by simp))
                                have hcv2 : u21 = .slice CA wait.length cc := hcv
                                clear hcv
                                subst hcv2
                                clear hoa2 hna2 hok
                                go_upto_if 175 with fail
                                go_cut [6, 18, 19, 20, 21] from 175 to 201 (fun out oav nav _ cv wx => ∃ fin3 vs3 now3 o3 n4, oav = .int .i64 oa2 ∧ nav = .int .i64 na2 ∧ Hid (RpAt w1 wx X Y out fin3 vs3 now3 o3 n4 cv [] n1 m1 n2 m2) ∧ Hid ((inUn fin2 ch' now oa' nc na' mc (F + (m1 : Int)) (d0 + ((m2 : Int) - (m1 : Int))) wait lg').chg = inUn fin3 true now3 oa2 nc na2 mc (F + (m1 : Int)) (d0 + ((m2 : Int) - (m1 : Int))) [] lg'))
                                case' first =>
                                  by_cases hwl : 0 < wait.length
                                  · have gw : (0 : Int) < (wait.length : Int) := by omega
                                    have hbz := HRP.out.bel.size
                                    cases ch' with
                                    | false =>
                                      as_aux_lemma =>
                                        have hcg := chg_first (oa := oa') (na := na') (nc := nc) (mc := mc) (oe := (F + (m1 : Int))) (de := (d0 + ((m2 : Int) - (m1 : Int)))) (fin := fin2) (lg := lg') hwl (HCH.out rfl)
                                        rw [HO2.out, HN2.out] at hcg
                                        have HCG := hide hcg
                                        have HB1 : Hid (now.old.length + wait.length ≤ 1000000000000) := hide (by rw [HCH.out rfl]; simp; omega)
                                        have HB2 : Hid (now.new.length + wait.length ≤ 1000000000000) := hide (by rw [HCH.out rfl]; simp; omega)
                                        obtain ⟨L2, hL2⟩ : ∃ l, now.old ++ wait = l := ⟨_, rfl⟩
                                        obtain ⟨L3, hL3⟩ : ∃ l, now.new ++ wait = l := ⟨_, rfl⟩
                                        have HL2 := hide hL2
                                        have HL3 := hide hL3
                                        obtain ⟨x0, x1, x2, x3⟩ := HRP.out.cells
                                        clear hcg hL2 hL3 HRUN2 hw hwl
                                        go_upto_region 44 with (at_builtin; refine wpList_appU rfl (.tmp 185) (.tmp 186) rfl w1.heap.size o now.old rfl (HRP.out.rows.own (o, now.old) (by simp)) (.slice CA wait.length cc) wait L2 rfl (HRP.out.waitS HCZ.out) HL2.out HB1.out hbz ?_; intro A1 k1 wb hown1 hgr1 hat1; have M2 := hide (HRP.out.old hgr1 hown1 hat1); obtain ⟨d0, d1, d2, d3, dz⟩ := HRP.out.keptX (HRP.out.rows.own (o, now.old) (by simp)) hgr1; have z2 := dz 2; clear hown1 hgr1 hat1 x0 x1 x2 x3 dz d0 d1 d3)
                                        generalize wb.setCell ⟨X, 2, none⟩ (.slice A1 L2.length k1) = W2 at *
                                        clear d2 z2
                                        obtain ⟨y0, y1, y2, y3⟩ := M2.out.cells
                                        have hbz2 := M2.out.bel.size
                                        go_wp2_with (at_builtin; refine wpList_appU rfl (.tmp 190) (.tmp 191) rfl w1.heap.size n3 now.new rfl (M2.out.rows.own (n3, now.new) (by simp)) (.slice CA wait.length cc) wait L3 rfl (M2.out.waitS HCZ.out) HL3.out HB2.out hbz2 ?_; intro A2 k2 wb2 hown2 hgr2 hat2; have M3 := hide (M2.out.new hgr2 hown2 hat2); obtain ⟨d0, d1, d2, d3, dz⟩ := M2.out.keptX (M2.out.rows.own (n3, now.new) (by simp)) hgr2; have z3 := dz 3; clear hown2 hgr2 hat2 y0 y1 y2 y3 dz d0 d1 d2)
                                        go_meet
                                        case rel => exact ⟨fin2, vs2, _, _, _, rfl, rfl, hide M3.out.drop, by rw [HL2.out, HL3.out] at HCG; exact HCG⟩
                                    | true =>
                                      as_aux_lemma =>
                                        have hcg := chg_more (now := now) (oa := oa') (na := na') (nc := nc) (mc := mc) (oe := (F + (m1 : Int))) (de := (d0 + ((m2 : Int) - (m1 : Int)))) (fin := fin2) (lg := lg') hwl
                                        rw [HO2.out, HN2.out] at hcg
                                        have HCG := hide hcg
                                        have HB1 : Hid ((([] : List ByteArray).length + wait.length ≤ 1000000000000)) := hide (by simp; omega)
                                        obtain ⟨OA, oc1, ho1⟩ := own_fmU (HRP.out.rows.own (o, now.old) (by simp))
                                        obtain ⟨NA, ncp, hn1⟩ := own_fmU (HRP.out.rows.own (n3, now.new) (by simp))
                                        have ho2 : o = .slice OA now.old.length oc1 := ho1
                                        have hn2 : n3 = .slice NA now.new.length ncp := hn1
                                        clear ho1 hn1
                                        subst ho2 hn2
                                        obtain ⟨ip, hip, hpz, hps, hpb⟩ := info_parts info_hunkU
                                        obtain ⟨x0, x1, x2, x3⟩ := HRP.out.cells
                                        obtain ⟨ol, hol⟩ : ∃ m, now.old.length = m := ⟨_, rfl⟩
                                        obtain ⟨nl, hnl⟩ : ∃ m, now.new.length = m := ⟨_, rfl⟩
                                        have HOL := hide hol
                                        have HNL := hide hnl
                                        rw [hol, hnl] at HRP
                                        rw [hol] at x2
                                        rw [hnl] at x3
                                        clear hcg HRUN2 hw hwl hol hnl
                                        go_upto_region 41 with (at_builtin; refine wpList_append_lies _ rfl (.tmp 177) (.tmp 179) 32 rfl w1.heap.size 46 ip _ 4 64 Tryd.underlying32 hip hpz hps hpb rfl (by decide) u6 fin2.length (hkCells fin2 vs2) rfl ((HRP.out.row).alloc _) ⟨wc.heap.size, 0, none⟩ 1 1 [.int .i64 now.frm, .int .i64 now.to_, .slice OA ol oc1, .slice NA nl ncp] rfl rfl (four_new _ _ _ _ _ _) (by simp [Value.oneCell']) (by omega) (by unfold maxLen; omega) (by omega) (by simp; omega) (wc.heap.size + 1) (by simp) ?_; intro gg cap w3 hown3 hgr3 hat3 hlt3; have T3 := hide (HRP.out.tell hown3 hgr3 (fun q hq => hat3.elim (fun e => .inl (e.trans (by simpa [Value.ownBlock] using hq))) (fun e => .inr (by have e0 : gg = q := (by simpa [Value.ownBlock] using hq); omega)))); clear hown3 hgr3 hat3 hlt3)
                                        obtain ⟨t1, t2, t3, t4, t5⟩ := T3.out
                                        have hbox3 : w3.heap[X]? = some (.cells #[.int .i64 now.frm, .int .i64 now.to_, .slice OA ol oc1, .slice NA nl ncp] 46 (0, 0)) := t2.trans HRP.out.box
                                        have b0 : w3.cell? ⟨X, 0, none⟩ = some (.int .i64 now.frm) := by simp [World.cell?, hbox3]
                                        have b1 : w3.cell? ⟨X, 1, none⟩ = some (.int .i64 now.to_) := by simp [World.cell?, hbox3]
                                        have b2 : w3.cell? ⟨X, 2, none⟩ = some (.slice OA ol oc1) := by simp [World.cell?, hbox3]
                                        have b3 : w3.cell? ⟨X, 3, none⟩ = some (.slice NA nl ncp) := by simp [World.cell?, hbox3]
                                        have z0 : w3.frozen? ⟨X, 0, none⟩ = false := by simp [World.frozen?, hbox3]
                                        have z1 : w3.frozen? ⟨X, 1, none⟩ = false := by simp [World.frozen?, hbox3]
                                        have z2 : w3.frozen? ⟨X, 2, none⟩ = false := by simp [World.frozen?, hbox3]
                                        have z3 : w3.frozen? ⟨X, 3, none⟩ = false := by simp [World.frozen?, hbox3]
                                        have HBOX := hide hbox3
                                        clear t1 t2 t3 t4 t5 hbox3 x0 x1 x2 x3
                                        go_upto_region 43 with fail
                                        have HR4 : Hid (RpAt w1 ((((w3.setCell ⟨X, 0, none⟩ (.int .i64 oa')).setCell ⟨X, 1, none⟩ (.int .i64 na')).setCell ⟨X, 2, none⟩ (.slice none 0 0)).setCell ⟨X, 3, none⟩ (.slice none 0 0)) X Y (.slice (some ⟨gg, 0, none⟩) (fin2.length + 1) cap) (fin2 ++ [now]) (vs2 ++ [(.slice OA ol oc1, .slice NA nl ncp)]) ⟨oa', na', [], []⟩ (.slice none 0 0) (.slice none 0 0) (.slice CA wait.length cc) wait n1 m1 n2 m2) := hide (by
                                          obtain ⟨t1, t2, t3, t4, t5⟩ := T3.out
                                          exact RpAt.next t1 HRP.out.loX HRP.out.loY HBOX.out (t3.trans HRP.out.hed) t4 t5 oa' na')
                                        generalize (((w3.setCell ⟨X, 0, none⟩ (.int .i64 oa')).setCell ⟨X, 1, none⟩ (.int .i64 na')).setCell ⟨X, 2, none⟩ (.slice none 0 0)).setCell ⟨X, 3, none⟩ (.slice none 0 0) = W4 at *
                                        clear b0 b1 b2 b3 z0 z1 z2 z3 T3 HBOX HRP
                                        obtain ⟨x0, x1, x2, x3⟩ := HR4.out.cells
                                        have hbz4 := HR4.out.bel.size
                                        go_upto_region 44 with (at_builtin; refine wpList_appU rfl (.tmp 185) (.tmp 186) rfl w1.heap.size (.slice none 0 0) [] rfl (HR4.out.rows.own (.slice none 0 0, []) (by simp)) (.slice CA wait.length cc) wait wait rfl (HR4.out.waitS HCZ.out) rfl HB1.out hbz4 ?_; intro A1 k1 wb hown1 hgr1 hat1; have M2 := hide (HR4.out.old hgr1 hown1 hat1); obtain ⟨d0, d1, d2, d3, dz⟩ := HR4.out.keptX (l := []) (HR4.out.rows.own (.slice none 0 0, []) (by simp)) hgr1; have z2 := dz 2; clear hown1 hgr1 hat1 x0 x1 x2 x3 dz d0 d1 d3)
                                        generalize wb.setCell ⟨X, 2, none⟩ (.slice A1 wait.length k1) = W2 at *
                                        clear d2 z2
                                        obtain ⟨y0, y1, y2, y3⟩ := M2.out.cells
                                        have hbz2 := M2.out.bel.size
                                        go_wp2_with (at_builtin; refine wpList_appU rfl (.tmp 190) (.tmp 191) rfl w1.heap.size (.slice none 0 0) [] rfl (M2.out.rows.own (.slice none 0 0, []) (by simp)) (.slice CA wait.length cc) wait wait rfl (M2.out.waitS HCZ.out) rfl HB1.out hbz2 ?_; intro A2 k2 wb2 hown2 hgr2 hat2; have M3 := hide (M2.out.new hgr2 hown2 hat2); obtain ⟨d0, d1, d2, d3, dz⟩ := M2.out.keptX (l := []) (M2.out.rows.own (.slice none 0 0, []) (by simp)) hgr2; have z3 := dz 3; clear hown2 hgr2 hat2 y0 y1 y2 y3 dz d0 d1 d2)
                                        go_meet
                                        case rel => exact ⟨fin2 ++ [now], _, _, _, _, rfl, rfl, hide M3.out.drop, HCG⟩
                                  · as_aux_lemma =>
                                      have hw0 : wait = [] := List.eq_nil_of_length_eq_zero (by omega)
                                      have hcg := chg_keep (now := now) (oa := oa') (na := na') (nc := nc) (mc := mc) (oe := (F + (m1 : Int))) (de := (d0 + ((m2 : Int) - (m1 : Int)))) (fin := fin2) (lg := lg') (ch := ch') hw0 HCH.out
                                      rw [HO2.out, HN2.out] at hcg
                                      have HCG := hide hcg
                                      have ho3 : oa' = oa2 := by rw [← HO2.out, hw0]; simp
                                      have hn3 : na' = na2 := by rw [← HN2.out, hw0]; simp
                                      have HO3 := hide ho3
                                      have HN3 := hide hn3
                                      have HW0 := hide hw0
                                      have HRP2 : Hid (RpAt w1 wc X Y u6 fin2 vs2 now o n3 (.slice CA wait.length cc) [] n1 m1 n2 m2) := hide (by
                                        have h := HRP.out
                                        rw [hw0] at h ⊢
                                        exact h)
                                      have gw : ¬ (0 : Int) < (wait.length : Int) := by omega
                                      clear hcg hw0 ho3 hn3 HRUN2 hw hwl
                                      go_wp2_with fail
                                      go_meet
                                      case rel => exact ⟨fin2, vs2, now, o, n3, by rw [HO3.out], by rw [HN3.out], HRP2, HCG⟩
                                case rest =>
                                  obtain ⟨fin3, vs3, now3, o3, n4, rfl, rfl, RP3, HCG⟩ := hcut
                                  have hok := HUK.out
                                  have hbz := RP3.out.bel.size
                                  have hltX := RP3.out.ltX
                                  obtain ⟨x0, x1, x2, x3⟩ := RP3.out.cells
                                  have hyz : (x.extract 1 x.size).size ≤ 1000000 := by rw [ByteArray.size_extract]; omega
                                  have hnn : (nc : Int) ≤ 2000002 ∧ (mc : Int) ≤ 2000002 := by omega
                                  have hx1 : (1 : Int) ≤ (x.size : Int) := by omega
                                  have hsl : ∀ W, (Instr.slice 9 (.string x) (some (.int .i64 1)) none none).run Tryd.prog W = .ok (.string (x.extract 1 x.size)) W := fun W => by simp [go_sem, hx1]
                                  rcases hw with ⟨hsn, hpos⟩ | ⟨hsn, hpos⟩
                                  · as_aux_lemma =>
                                      have e45 : ((x[0].toNat : Int) == 45) = true := beq_iff_eq.2 (by omega)
                                      have hvs := step_minus HCG.out hsz hsn hpos
                                      have hok2 := hok.step (by omega) (by omega) hvs
                                      have hrn : R = urRun hdS (L.drop (k' + 1)) (k' + 1) (inUn fin3 true { now3 with old := now3.old ++ [txt x] } (oa2 + 1) (nc - 1) na2 mc (F + (m1 : Int)) (d0 + ((m2 : Int) - (m1 : Int))) [] (lg' || lng x)).rest := by rw [HRUN2.out, hvs]
                                      rw [HLB.out] at hok2 hrn
                                      have hln : now3.old.length + 1 ≤ k' + 1 := by
                                        have h := (hok2.hs { now3 with old := now3.old ++ [txt x] } (by simp [Un.all, inUn])).2.1.1
                                        simpa using h
                                      obtain ⟨L2, hL2⟩ : ∃ l, now3.old ++ [x.extract 1 x.size] = l := ⟨_, rfl⟩
                                      have hL3 : now3.old ++ [txt x] = L2 := hL2
                                      rw [hL3] at hok2 hrn
                                      have HOK2 := hide hok2
                                      have HRN := hide hrn
                                      have HL2 := hide hL2
                                      have HB : Hid (now3.old.length + 1 ≤ 1000000000000) := hide (by omega)
                                      have hc1 : ((nc - 1 : Nat) : Int) = (nc : Int) - 1 := by omega
                                      have HC1 := hide hc1
                                      have hv5 : IntKind.i64.wrap ((nc : Int) - 1) = (nc : Int) - 1 := by rw [IntKind.wrap_i64]; omega
                                      have hv6 : IntKind.i64.wrap (oa2 + 1) = oa2 + 1 := by rw [IntKind.wrap_i64]; omega
                                      clear hvs hok hok2 hrn hL2 hL3 hc1 HRUN2 hsn hln
                                      go_upto_region 50 with fail
                                      go_region_law (refine step_old (w1 := w1) (X := X) (Y := Y) (q0 := n1) (q1 := m1) (q2 := n2) (q3 := m2) (now := now3) (fin := fin3) (vs := vs3) (wait := []) (o := o3) (n := n4) (cv := u21) (hv := u6) ?_ (by rfl) (.tmp 206) (.tmp 209) (by rfl) ?_ wc.heap.size ?_ (x.extract 1 x.size) ?_ hyz L2 HL2.out HB.out ?_; (focus ((repeat (first | exact RP3.out | refine RpAt.allocT ?_ _ | refine RpAt.drewT ?_)); done)); (focus (kernel_rfl; done)); (focus (kernel_rfl; done)); (focus (first | exact heap_alloc_new _ _ | (simp; done))); intro A1 k1 wb hM d2 z2; have M2 := hide hM; clear hM)
                                      all_goals
                                        have HIN9 : Hid (∀ q, InAt w1 ((wb.setCell ⟨X, 2, none⟩ (.slice A1 L2.length k1)).drewN q) X Y R L (k' + 1) u6 (lg' || b) (nc - 1) mc (oa2 + 1) na2 true u21 (F + (m1 : Int)) (d0 + ((m2 : Int) - (m1 : Int))) n1 m1 n2 m2) := hide (fun q => ⟨fin3, vs3, _, _, _, [], M2.out.below (below_drewN (Below.refl _ _) q), (fun e => by cases e), HOK2.out, HRN.out⟩)
                                        clear M2 d2 z2 x0 x1 x2 x3 hsl
                                        generalize wb.setCell ⟨X, 2, none⟩ (.slice A1 L2.length k1) = W4 at *
                                        go_wp2_with fail
                                        go_roundw
                                        case rel => exact ⟨k' + 1, nc - 1, mc, lg' || b, oa2 + 1, na2, true, by omega, by omega, rfl, by go_num, by rw [HC1.out], rfl, by go_num, rfl, rfl, hide (HIN9.out 0)⟩
                                        case measure => simp [intOf]; omega
                                  · as_aux_lemma =>
                                      have e45 : ((x[0].toNat : Int) == 45) = false := beq_eq_false_iff_ne.2 (by omega)
                                      have hvs := step_plus HCG.out hsz hsn hpos
                                      have hok2 := hok.step (by omega) (by omega) hvs
                                      have hrn : R = urRun hdS (L.drop (k' + 1)) (k' + 1) (inUn fin3 true { now3 with new := now3.new ++ [txt x] } oa2 nc (na2 + 1) (mc - 1) (F + (m1 : Int)) (d0 + ((m2 : Int) - (m1 : Int))) [] (lg' || lng x)).rest := by rw [HRUN2.out, hvs]
                                      rw [HLB.out] at hok2 hrn
                                      have hln : now3.new.length + 1 ≤ k' + 1 := by
                                        have h := (hok2.hs { now3 with new := now3.new ++ [txt x] } (by simp [Un.all, inUn])).2.2.1
                                        simpa using h
                                      obtain ⟨L2, hL2⟩ : ∃ l, now3.new ++ [x.extract 1 x.size] = l := ⟨_, rfl⟩
                                      have hL3 : now3.new ++ [txt x] = L2 := hL2
                                      rw [hL3] at hok2 hrn
                                      have HOK2 := hide hok2
                                      have HRN := hide hrn
                                      have HL2 := hide hL2
                                      have HB : Hid (now3.new.length + 1 ≤ 1000000000000) := hide (by omega)
                                      have hc1 : ((mc - 1 : Nat) : Int) = (mc : Int) - 1 := by omega
                                      have HC1 := hide hc1
                                      have hv5 : IntKind.i64.wrap ((mc : Int) - 1) = (mc : Int) - 1 := by rw [IntKind.wrap_i64]; omega
                                      have hv6 : IntKind.i64.wrap (na2 + 1) = na2 + 1 := by rw [IntKind.wrap_i64]; omega
                                      clear hvs hok hok2 hrn hL2 hL3 hc1 HRUN2 hsn hln
                                      go_upto_region 53 with fail
                                      go_region_law (refine step_new (w1 := w1) (X := X) (Y := Y) (q0 := n1) (q1 := m1) (q2 := n2) (q3 := m2) (now := now3) (fin := fin3) (vs := vs3) (wait := []) (o := o3) (n := n4) (cv := u21) (hv := u6) ?_ (by rfl) (.tmp 217) (.tmp 220) (by rfl) ?_ wc.heap.size ?_ (x.extract 1 x.size) ?_ hyz L2 HL2.out HB.out ?_; (focus ((repeat (first | exact RP3.out | refine RpAt.allocT ?_ _ | refine RpAt.drewT ?_)); done)); (focus (kernel_rfl; done)); (focus (kernel_rfl; done)); (focus (first | exact heap_alloc_new _ _ | (simp; done))); intro A1 k1 wb hM d2 z2; have M2 := hide hM; clear hM)
                                      all_goals
                                        have HIN9 : Hid (∀ q, InAt w1 ((wb.setCell ⟨X, 3, none⟩ (.slice A1 L2.length k1)).drewN q) X Y R L (k' + 1) u6 (lg' || b) nc (mc - 1) oa2 (na2 + 1) true u21 (F + (m1 : Int)) (d0 + ((m2 : Int) - (m1 : Int))) n1 m1 n2 m2) := hide (fun q => ⟨fin3, vs3, _, _, _, [], M2.out.below (below_drewN (Below.refl _ _) q), (fun e => by cases e), HOK2.out, HRN.out⟩)
                                        clear M2 d2 z2 x0 x1 x2 x3 hsl
                                        generalize wb.setCell ⟨X, 3, none⟩ (.slice A1 L2.length k1) = W4 at *
                                        go_wp2_with fail
                                        go_roundw
                                        case rel => exact ⟨k' + 1, nc, mc - 1, lg' || b, oa2, na2 + 1, true, by omega, by omega, rfl, by go_num, rfl, by rw [HC1.out], rfl, by go_num, rfl, hide (HIN9.out 0)⟩
                                        case measure => simp [intOf]; omega
                      · have hkL : k' = L.length := by omega
                        have hne : ((k' : Int) == (L.length : Int)) = true := by rw [hkL]; simp
                        have HRE : Hid (urRes hdS s = ([], k', 1)) := hide (by
                          rw [HRS.out, HRUN.out, List.drop_of_length_le (by omega), urRun, if_pos HOPN.out]; rfl)
                        clear hkL HRUN
                        go_wp2_with fail
                        go_ret3
                        rw [← HPST.out]
                        exact ⟨.slice none 0 0, by rw [HRE.out]; rfl, by rw [HRE.out]; exact hunks_nilU _, HBX.out⟩
                  · have hnc : nc = 0 := by omega
                    have hmc : mc = 0 := by omega
                    subst hnc hmc
                    have hro : ¬ (inUn fin2 ch' now oa' 0 na' 0 (F + (m1 : Int)) (d0 + ((m2 : Int) - (m1 : Int))) wait lg').opn = true := by simp [inUn, Un.opn]
                    rw [show (inUn fin2 ch' now oa' 0 na' 0 (F + (m1 : Int)) (d0 + ((m2 : Int) - (m1 : Int))) wait lg').rest = (inUn fin2 ch' now oa' 0 na' 0 (F + (m1 : Int)) (d0 + ((m2 : Int) - (m1 : Int))) wait lg').shut by unfold Un.rest; rw [if_neg hro]] at hrun
                    have HRUN := hide hrun
                    have hsh := HUK.out.shut
                    have HSH := hide hsh
                    obtain ⟨y0, y1, y2, y3⟩ := HRP.out.hed.cells
                    have hv3 : IntKind.i64.wrap (F + (m1 : Int)) = F + (m1 : Int) := by rw [IntKind.wrap_i64]; omega
                    have hv4 : IntKind.i64.wrap (T + (m2 : Int)) = T + (m2 : Int) := by rw [IntKind.wrap_i64]; omega
                    have hTm : T + (m2 : Int) = F + (m1 : Int) + (d0 + ((m2 : Int) - (m1 : Int))) := by have := HTF.out; omega
                    have HTM := hide hTm
                    clear hop hro hrun hsh hTm
                    cases ch' with
                    | false =>
                      have HRG : Hid (∀ q, RgAt w1 (wr.drewN q) R L k' u6 fin2.length (F + (m1 : Int)) (d0 + ((m2 : Int) - (m1 : Int))) lg') := hide (fun q => by
                        have hb := below_drewN (Below.refl wr.heap.size wr) q
                        have e : (inUn fin2 false now oa' 0 na' 0 (F + (m1 : Int)) (d0 + ((m2 : Int) - (m1 : Int))) wait lg').shut = ⟨fin2, none, oa' + wait.length, 0, na' + wait.length, 0, F + (m1 : Int), d0 + ((m2 : Int) - (m1 : Int)), [], lg'⟩ := by simp [inUn, Un.shut]
                        refine ⟨HRP.out.bel.trans (hb.mono HRP.out.bel.size), fin2, vs2, oa' + wait.length, na' + wait.length, rfl, ⟨HRP.out.len, own_below HRP.out.row hb, (HRP.out.rows.tail.tail.tail.empty).below hb⟩, by rw [← e]; exact HSH.out, by rw [← e]; exact HRUN.out⟩)
                      go_wp2_with fail
                      go_quiet (fail)
                      go_wp2_with fail
                      go_roundw
                      case rel => exact ⟨k', fin2.length, lg', F + (m1 : Int), d0 + ((m2 : Int) - (m1 : Int)), hk', rfl, rfl, by rw [HTM.out], rfl, hide (HRG.out _)⟩
                      case measure => simp [intOf]; omega
                    | true =>
                      as_aux_lemma =>
                        have hok := HUK.out
                        have hcl : wait.length ≤ k' := hok.c.1
                        have hfl : fin2.length ≤ k' := by have := hok.n; simp only [Un.all, inUn, List.length_append] at this; omega
                        have hcu : now.old.length + wait.length ≤ k' ∧ now.new.length + wait.length ≤ k' := hok.cu now rfl
                        have HCZ : Hid (∀ s ∈ wait, s.size ≤ 1000000) := hide hok.c.2
                        obtain ⟨CA, cc, hcv⟩ := own_fmU (HRP.out.rows.own (u21, wait) (by simp))
                        have hcv2 : u21 = .slice CA wait.length cc := hcv
                        clear hcv
                        subst hcv2
                        obtain ⟨L2, hL2⟩ : ∃ l, now.old ++ wait = l := ⟨_, rfl⟩
                        obtain ⟨L3, hL3⟩ : ∃ l, now.new ++ wait = l := ⟨_, rfl⟩
                        have HL2 := hide hL2
                        have HL3 := hide hL3
                        have HB1 : Hid (now.old.length + wait.length ≤ 1000000000000) := hide (by omega)
                        have HB2 : Hid (now.new.length + wait.length ≤ 1000000000000) := hide (by omega)
                        have HHED := hide HRP.out.hed
                        obtain ⟨x0, x1, x2, x3⟩ := HRP.out.cells
                        have hbz := HRP.out.bel.size
                        clear hok hcu hL2 hL3 y0 y1 y2 y3
                        go_upto_region 59 with (at_builtin; refine wpList_appU rfl (.tmp 231) (.tmp 232) rfl w1.heap.size o now.old rfl (HRP.out.rows.own (o, now.old) (by simp)) (.slice CA wait.length cc) wait L2 rfl (HRP.out.waitS HCZ.out) HL2.out HB1.out hbz ?_; intro A1 k1 wb hown1 hgr1 hat1; have M2 := hide (HRP.out.old hgr1 hown1 hat1); obtain ⟨d0, d1, d2, d3, dz⟩ := HRP.out.keptX (HRP.out.rows.own (o, now.old) (by simp)) hgr1; have z2 := dz 2; clear hown1 hgr1 hat1 x0 x1 x2 x3 dz d0 d1 d3)
                        generalize wb.setCell ⟨X, 2, none⟩ (.slice A1 L2.length k1) = W2 at *
                        clear d2 z2
                        obtain ⟨y0, y1, y2, y3⟩ := M2.out.cells
                        have hbz2 := M2.out.bel.size
                        go_upto_region 60 with (at_builtin; refine wpList_appU rfl (.tmp 236) (.tmp 237) rfl w1.heap.size n3 now.new rfl (M2.out.rows.own (n3, now.new) (by simp)) (.slice CA wait.length cc) wait L3 rfl (M2.out.waitS HCZ.out) HL3.out HB2.out hbz2 ?_; intro A2 k2 wb2 hown2 hgr2 hat2; have M3 := hide (M2.out.new hgr2 hown2 hat2); obtain ⟨d0, d1, d2, d3, dz⟩ := M2.out.keptX (M2.out.rows.own (n3, now.new) (by simp)) hgr2; have z3 := dz 3; clear hown2 hgr2 hat2 y0 y1 y2 y3 dz d0 d1 d2)
                        generalize wb2.setCell ⟨X, 3, none⟩ (.slice A2 L3.length k2) = W3 at *
                        clear d3 z3 hbz hbz2
                        have hbz3 := M3.out.bel.size
                        obtain ⟨ip, hip, hpz, hps, hpb⟩ := info_parts info_hunkU
                        obtain ⟨x0, x1, x2, x3⟩ := M3.out.cells
                        dsimp only at x0 x1 x2 x3
                        obtain ⟨l2, hl2⟩ : ∃ m, L2.length = m := ⟨_, rfl⟩
                        obtain ⟨l3, hl3⟩ : ∃ m, L3.length = m := ⟨_, rfl⟩
                        rw [hl2, hl3] at M3
                        rw [hl2] at x2
                        rw [hl3] at x3
                        clear hl2 hl3
                        go_upto_region 61 with (at_builtin; refine wpList_append_lies _ rfl (.tmp 240) (.tmp 242) 32 rfl w1.heap.size 46 ip _ 4 64 Tryd.underlying32 hip hpz hps hpb rfl (by decide) u6 fin2.length (hkCells fin2 vs2) rfl ((M3.out.row).alloc _) ⟨W3.heap.size, 0, none⟩ 1 1 [.int .i64 now.frm, .int .i64 now.to_, .slice A1 l2 k1, .slice A2 l3 k2] rfl rfl (four_new _ _ _ _ _ _) (by simp [Value.oneCell']) (by omega) (by unfold maxLen; omega) (by omega) (by simp; omega) (W3.heap.size + 1) (by simp) ?_; intro gg cap w3 hown3 hgr3 hat3 hlt3; have T3 := hide (M3.out.tell hown3 hgr3 (fun q hq => hat3.elim (fun e => .inl (e.trans (by simpa [Value.ownBlock] using hq))) (fun e => .inr (by have e0 : gg = q := (by simpa [Value.ownBlock] using hq); omega)))); clear hown3 hgr3 hat3 hlt3)
                        have HRG : Hid (∀ q, RgAt w1 (w3.drewN q) R L k' (.slice (some ⟨gg, 0, none⟩) (fin2.length + 1) cap) (fin2.length + 1) (F + (m1 : Int)) (d0 + ((m2 : Int) - (m1 : Int))) lg') := hide (fun q => by
                          have hb := below_drewN (Below.refl w3.heap.size w3) q
                          obtain ⟨t1, t2, t3, t4, t5⟩ := T3.out
                          have e := shut_in (fin := fin2) (now := now) (oa := oa') (na := na') (nc := 0) (mc := 0) (oe := (F + (m1 : Int))) (de := (d0 + ((m2 : Int) - (m1 : Int)))) (wait := wait) (lg := lg')
                          rw [HL2.out, HL3.out] at e
                          refine ⟨t1.trans (hb.mono t1.size), _, _, oa' + wait.length, na' + wait.length, ?_, (t5.drop).below hb, by rw [← e]; exact HSH.out, by rw [← e]; exact HRUN.out⟩
                          simp)
                        have hq3 : Quad w3 Y (.int .i64 (n1 : Int)) (.int .i64 (m1 : Int)) (.int .i64 (n2 : Int)) (.int .i64 (m2 : Int)) := T3.out.2.2.1.trans M3.out.hed
                        obtain ⟨y0, y1, y2, y3⟩ := hq3.cells
                        clear T3 M3 M2 HRP hq3 x0 x1 x2 x3
                        go_quiet (fail)
                        go_wp2_with fail
                        go_roundw
                        case rel => exact ⟨k', fin2.length + 1, lg', (F + (m1 : Int)), (d0 + ((m2 : Int) - (m1 : Int))), hk', rfl, rfl, by rw [HTM.out], rfl, hide (HRG.out _)⟩
                        case measure => simp [intOf]; omega
      · as_aux_lemma =>
          obtain ⟨fin, vs, oa0, na0, hfn, hown, huk, hrun⟩ := RG.out.run
          have hb0 := RG.out.bel
          rw [List.drop_of_length_le (by omega), urRun, if_neg (by simp [Un.opn])] at hrun
          have hres : urRes hdS s = if (B || decide (1000 < n) || fin.any hkBig) then ([], 0, 2) else (fin, 0, 0) := by
            rw [HRS.out, hrun, ← hfn]; rfl
          have HRE := hide hres
          have HBW := hide (HB1.out.trans (hb0.mono HB1.out.size))
          have hoks := huk.hs
          have hall : Un.all ⟨fin, none, oa0, 0, na0, 0, e0, d0, [], B⟩ = fin := by simp [Un.all]
          rw [hall] at hoks
          have hnl : n ≤ 65537 := by have := huk.n; rw [hall, hfn] at this; omega
          have hrd := hown.read (fun h hh => ⟨(hoks h hh).1, fun t ht => by have := (hoks h hh).2.1.2 t ht; unfold maxLen; omega, fun t ht => by have := (hoks h hh).2.2.2 t ht; unfold maxLen; omega⟩)
          have HRD := hide hrd
          obtain ⟨vs2, hvs2, hrd2, _, hel⟩ := hrd
          obtain ⟨_, HA, hc, rfl, _, _, hxa⟩ := hrd2
          have HVS := hide hvs2
          have HX := hide hxa
          have HE := hide hel
          have HFN := hide hfn
          rw [hfn] at HX ⊢
          clear RG hown huk hrun hres hb0 hoks hall hvs2 hxa hel hfn HLZ
          go_wp2_with fail
          go_loopw [7, 23, 254] (fun lg many i wq => ∃ (j : Nat) (b : Bool), j ≤ n ∧ lg = .bool b ∧ many = .int .i64 (j : Int) ∧ i = .int .i64 (j : Int) ∧ Hid (b = (B || (fin.take j).any hkBig)) ∧ Hid (Below wr.heap.size wr wq)) (fun _ _ i _ => n - (intOf i).toNat)
          case atStart => exact ⟨0, B, by omega, rfl, rfl, rfl, hide (by simp), hide (Below.refl _ _)⟩
          case round =>
            obtain ⟨j, b, hj, rfl, rfl, rfl, HBB, HBQ⟩ := hrel
            by_cases hlt2 : j < n
            · obtain ⟨ba, oa, rfl, hba, hja⟩ := HX.out (by omega)
              have hjf : j < fin.length := by have := HFN.out; omega
              have kv : j < vs2.length := by rw [HVS.out]; exact hjf
              have cs := hkCells_at fin vs2 j fin[j] vs2[j] (List.getElem?_eq_getElem hjf) (List.getElem?_eq_getElem kv) HVS.out
              rw [Nat.mul_comm] at cs
              have a0 := (HBQ.out.cell hba).trans (hja _ _ cs.1)
              have a1 := (HBQ.out.cell hba).trans (hja _ _ cs.2.1)
              have a2 := (HBQ.out.cell hba).trans (hja _ _ cs.2.2.1)
              have a3 := (HBQ.out.cell hba).trans (hja _ _ cs.2.2.2)
              clear cs hja
              simp only [← Nat.add_assoc] at a0 a1 a2 a3
              obtain ⟨t1, t2⟩ := HE.out j fin[j] vs2[j].1 vs2[j].2 (List.getElem?_eq_getElem hjf) (List.getElem?_eq_getElem kv)
              obtain ⟨y, hy⟩ : ∃ y, fin[j] = y := ⟨_, rfl⟩
              obtain ⟨A1, x1, C1, e1⟩ := strs_form t1
              obtain ⟨A2, x2, C2, e2⟩ := strs_form t2
              rw [e1] at a2 t1
              rw [e2] at a3 t2
              rw [hy] at a0 a1 t1 t2
              obtain rfl := t1.len
              obtain rfl := t2.len
              have HT : Hid ((B || (fin.take (j + 1)).any hkBig) = (b || hkBig y)) := hide (by
                rw [List.take_succ_eq_append_getElem hjf, List.any_append, HBB.out, hy, ← Bool.or_assoc]; simp)
              have HBQ2 := fun o => hide (HBQ.out.alloc HBQ.out.size o)
              have HBQ3 := hide HBQ2
              obtain ⟨yo, hyo⟩ : ∃ m, y.old.length = m := ⟨_, rfl⟩
              obtain ⟨yn, hyn⟩ : ∃ m, y.new.length = m := ⟨_, rfl⟩
              rw [hyo] at a2
              rw [hyn] at a3
              have HYB : Hid (hkBig y = (decide (1000 < yo) || decide (1000 < yn))) := hide (by unfold hkBig; rw [hyo, hyn])
              clear t1 t2 e1 e2 hy kv hyo hyn HBQ2 HBB
              by_cases h1 : 1000 < yo
              · have g1 : (1000 : Int) < (yo : Int) := by omega
                have HNX : Hid (true = (B || (fin.take (j + 1)).any hkBig)) := hide (by rw [HT.out, HYB.out]; simp [h1])
                clear h1 HT HYB
                go_wp2_with fail
                go_roundw
                case rel => exact ⟨j + 1, true, by omega, rfl, by go_num, by go_num, HNX, HBQ3.out _⟩
                case measure => simp [intOf]; omega
              · have g1 : ¬ (1000 : Int) < (yo : Int) := by omega
                by_cases h2 : 1000 < yn
                · have g2 : (1000 : Int) < (yn : Int) := by omega
                  have HNX : Hid (true = (B || (fin.take (j + 1)).any hkBig)) := hide (by rw [HT.out, HYB.out]; simp [h2])
                  clear h1 h2 HT HYB
                  go_wp2_with fail
                  go_roundw
                  case rel => exact ⟨j + 1, true, by omega, rfl, by go_num, by go_num, HNX, HBQ3.out _⟩
                  case measure => simp [intOf]; omega
                · have g2 : ¬ (1000 : Int) < (yn : Int) := by omega
                  have HNX : Hid (b = (B || (fin.take (j + 1)).any hkBig)) := hide (by rw [HT.out, HYB.out]; simp [h1, h2])
                  clear h1 h2 HT HYB
                  go_wp2_with fail
                  go_roundw
                  case rel => exact ⟨j + 1, b, by omega, rfl, by go_num, by go_num, HNX, HBQ3.out _⟩
                  case measure => simp [intOf]; omega
            · have hjn : j = n := by omega
              have hbb := HBB.out
              rw [List.take_of_length_le (by rw [HFN.out]; omega)] at hbb
              have HB9 := hide (HBW.out.trans (HBQ.out.mono HBW.out.size))
              have hr9 := HRD.out.below HBQ.out
              rw [HFN.out] at hr9
              have HR9 := hide hr9
              clear hr9
              cases b with
              | true =>
                have HRE2 : Hid (urRes hdS s = ([], 0, 2)) := hide (by
                  rw [HRE.out, if_pos]
                  rw [Bool.or_assoc, Bool.or_comm (decide _), ← Bool.or_assoc, ← hbb]; rfl)
                clear hbb
                go_wp2_with fail
                go_ret3
                rw [← HPST.out]
                exact ⟨.slice none 0 0, by rw [HRE2.out]; rfl, by rw [HRE2.out]; exact hunks_nilU _, HB9.out⟩
              | false =>
                by_cases h1 : 1000 < j
                · have g1 : (1000 : Int) < (j : Int) := by omega
                  have HRE2 : Hid (urRes hdS s = ([], 0, 2)) := hide (by
                    rw [HRE.out, if_pos]
                    rw [← hjn]; simp [h1])
                  clear hbb h1
                  go_wp2_with fail
                  go_ret3
                  rw [← HPST.out]
                  exact ⟨.slice none 0 0, by rw [HRE2.out]; rfl, by rw [HRE2.out]; exact hunks_nilU _, HB9.out⟩
                · have g1 : ¬ (1000 : Int) < (j : Int) := by omega
                  have HRE2 : Hid (urRes hdS s = (fin, 0, 0)) := hide (by
                    rw [HRE.out, if_neg]
                    rw [Bool.or_assoc, Bool.or_comm (decide _), ← Bool.or_assoc, ← hbb, ← hjn]; simp; omega)
                  clear hbb h1
                  go_wp2_with fail
                  go_ret3
                  rw [← HPST.out]
                  exact ⟨_, by rw [HRE2.out]; rfl, by rw [HRE2.out]; exact HR9.out, HB9.out⟩
end Go.Proofs.YtinpgnekjebipaaDoor
