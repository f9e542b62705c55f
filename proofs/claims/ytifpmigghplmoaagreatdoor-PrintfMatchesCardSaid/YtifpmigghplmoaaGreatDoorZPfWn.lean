/- Printf: the program's written at a number's letter (printed by gen_pfwn.py). -/
import Derived.Test.YtifpmigghplmoaaGreatDoorZPfW
set_option linter.unusedVariables false
set_option linter.unusedSimpArgs false
namespace Go.Proofs.YtifpmigghplmoaaGreatDoor
open Go.RowKit Go.Pw Go.Shelf
set_option maxHeartbeats 16000000 in
set_option maxRecDepth 100000 in
theorem written_n_f (tx fl : List UInt8) (wd pr : Nat) (lt : UInt8) (hlt : ¬ (lt = 115 ∨ lt = 98 ∨ lt = 99)) (hd : DvOk (⟨tx, fl, wd, false, pr, lt⟩ : Dv)) (a : List UInt8) (ha : a.length ≤ 900000) (w : World) (hE : ErrT w) (hT : PowTab w) (hZ : TzT w) :
    Calls Tryz.prog 35 #[dvV (⟨tx, fl, wd, false, pr, lt⟩ : Dv), .string (mkB a)] w fun e w' => e = .returned (.tuple #[.string (mkB (wrP (⟨tx, fl, wd, false, pr, lt⟩ : Dv) a).1), .int .i64 (wrP (⟨tx, fl, wd, false, pr, lt⟩ : Dv) a).2]) ∧ Below w.heap.size w w' := by
  have HR0 : Hid (DvRow 89 w.heap.size (⟨tx, fl, wd, false, pr, lt⟩ : Dv) (w.alloc (.cells #[.string (mkB tx), .string (mkB fl), .int .i64 (wd : Int), .bool false, .int .i64 (pr : Int), .int .u8 (lt.toNat : Int)] 89))) := hide (heap_alloc_new w _)
  have HB0 := hide ((Below.refl w.heap.size w).alloc (Nat.le_refl _) (.cells #[.string (mkB tx), .string (mkB fl), .int .i64 (wd : Int), .bool false, .int .i64 (pr : Int), .int .u8 (lt.toNat : Int)] 89))
  have HN := hide (numeral_any a (w.alloc (.cells #[.string (mkB tx), .string (mkB fl), .int .i64 (wd : Int), .bool false, .int .i64 (pr : Int), .int .u8 (lt.toNat : Int)] 89)) ha (hE.below HB0.out))
  obtain ⟨h0, h1⟩ := numP_in a
  have HV : Hid (wrP (⟨tx, fl, wd, false, pr, lt⟩ : Dv) a = if (numP a).2 = 0 then (padP (⟨tx, fl, wd, false, pr, lt⟩ : Dv) (nbrP (⟨tx, fl, wd, false, pr, lt⟩ : Dv) (numP a).1), 0) else ([], (numP a).2)) := hide (by
    simp only [not_or] at hlt
    unfold wrP
    rw [if_neg hlt.1, if_neg hlt.2.1, if_neg hlt.2.2])
  have f115 : ((lt.toNat : Int) == 115) = false := (u8_eqN lt 115).trans (decide_eq_false (fun e => hlt (by simp [e])))
  have f98 : ((lt.toNat : Int) == 98) = false := (u8_eqN lt 98).trans (decide_eq_false (fun e => hlt (by simp [e])))
  have f99 : ((lt.toNat : Int) == 99) = false := (u8_eqN lt 99).trans (decide_eq_false (fun e => hlt (by simp [e])))
  obtain ⟨n, hn⟩ : ∃ n, (numP a).1 = n := ⟨_, rfl⟩
  obtain ⟨er, her⟩ : ∃ er, (numP a).2 = er := ⟨_, rfl⟩
  rw [hn] at h0 h1 HV HN
  rw [her] at HV HN
  have HS := hide (fun W => sign_any (⟨tx, fl, wd, false, pr, lt⟩ : Dv) n W)
  have HD := hide (fun W (hb : Below w.heap.size w W) => digits_any (⟨tx, fl, wd, false, pr, lt⟩ : Dv) hd n h0 h1 W (hT.below hb) (hZ.below hb))
  have hsl := signP_len (⟨tx, fl, wd, false, pr, lt⟩ : Dv) n
  have hdl := digP_len hd n h0 h1
  have hwd : wd ≤ 999 := hd.2.1
  obtain ⟨qa, hqa⟩ : ∃ qa, mkB a = qa := ⟨_, rfl⟩
  rw [hqa] at HN ⊢
  clear hqa hlt hE hT hZ ha hn her
  show Calls Tryz.prog _ #[.agg #[.string (mkB tx), .string (mkB fl), .int .i64 (wd : Int), .bool false, .int .i64 (pr : Int), .int .u8 (lt.toNat : Int)], .string qa] w _
  go_enter Tryz.func35, Tryz.ntmps35
  go_wp2_with fail
  refine HN.out.mono ?_
  rintro e w2 ⟨rfl, hb⟩
  have R := hide (HR0.out.keep hb)
  have HB2 := hide (HB0.out.trans (hb.mono HB0.out.size))
  clear hb
  by_cases he : er = 0
  case neg =>
    have e1 : (er != 0) = true := by simpa using he
    have HV2 := hide (HV.out.trans (if_neg he))
    clear he
    go_wp2_with fail
    go_ret2
    refine ⟨?_, HB2.out⟩
    rw [HV2.out]; rfl
  case pos =>
    have HV2 := hide (HV.out.trans (if_pos he))
    subst he
    obtain ⟨⟨y0, y1, y2⟩, y3, y4, y5⟩ := R.out.cells
    obtain ⟨G, hG⟩ : ∃ G, signP (⟨tx, fl, wd, false, pr, lt⟩ : Dv) n = G := ⟨_, rfl⟩
    obtain ⟨E, hE⟩ : ∃ E, digP (⟨tx, fl, wd, false, pr, lt⟩ : Dv) n = E := ⟨_, rfl⟩
    have HNB : Hid (nbrP (⟨tx, fl, wd, false, pr, lt⟩ : Dv) n = G ++ zerP (⟨tx, fl, wd, false, pr, lt⟩ : Dv) G.length E) := hide (by unfold nbrP; rw [hG, hE])
    rw [HNB.out] at HV2
    rw [hG] at HS hsl
    rw [hE] at HD hdl
    obtain ⟨g, hg⟩ : ∃ g, mkB G = g := ⟨_, rfl⟩
    obtain ⟨q, hq⟩ : ∃ q, mkB E = q := ⟨_, rfl⟩
    have hgz : g.size = G.length := by rw [← hg, mkB_size]
    have hqz : q.size = E.length := by rw [← hq, mkB_size]
    have HG := hide hg
    have HQ := hide hq
    rw [hg] at HS
    rw [hq] at HD
    have HGZ := hide hgz
    have HQZ := hide hqz
    have hg2 : g.size ≤ 2 := by omega
    have hq2 : q.size ≤ 1100 := by omega
    clear hG hE hg hq hgz hqz hsl hdl
    go_wp2_with fail
    go_region_held3 (fun w' => w'.cell? ⟨w.heap.size, 0, none⟩ = some (.string (mkB tx)) ∧ w'.cell? ⟨w.heap.size, 1, none⟩ = some (.string (mkB fl)) ∧ w'.cell? ⟨w.heap.size, 2, none⟩ = some (.int .i64 (wd : Int)) ∧ w'.cell? ⟨w.heap.size, 3, none⟩ = some (.bool false) ∧ w'.cell? ⟨w.heap.size, 4, none⟩ = some (.int .i64 (pr : Int)) ∧ w'.cell? ⟨w.heap.size, 5, none⟩ = some (.int .u8 (lt.toNat : Int))) (go_keep)
      (first
        | (go_at_call 83; refine (HS.out _).mono ?_; rintro e w3 ⟨rfl, hb⟩; have hb2 : Below w2.heap.size w2 w3 := ⟨hb.os, hb.tape, hb.output, hb.size, hb.block⟩; have R3 := hide (R.out.keep hb2); have HB3 := hide (HB2.out.trans (hb2.mono HB2.out.size)); clear hb hb2; obtain ⟨⟨q0, q1, q2⟩, q3, q4, q5⟩ := R3.out.cells)
        | (go_at_call 84; refine (HD.out _ (by first | exact HB3.out | exact below_q HB3.out)).mono ?_; rintro e w4 ⟨rfl, hb⟩; have hb2 : Below w3.heap.size w3 w4 := ⟨hb.os, hb.tape, hb.output, hb.size, hb.block⟩; have R4 := hide (R3.out.keep hb2); have HB4 := hide (HB3.out.trans (hb2.mono HB3.out.size)); clear hb hb2; obtain ⟨⟨r0, r1, r2⟩, r3, r4, r5⟩ := R4.out.cells))
    have H48 := hide (fun W => has_any (⟨tx, fl, wd, false, pr, lt⟩ : Dv) 48 W)
    have H45a := hide (fun W => has_any (⟨tx, fl, wd, false, pr, lt⟩ : Dv) 45 W)
    go_wp2_with fail
    refine (H48.out _).mono ?_
    rintro e w5 ⟨rfl, hb⟩
    have R5 := hide (R4.out.keep hb)
    have HB5 := hide (HB4.out.trans (hb.mono HB4.out.size))
    clear hb
    obtain ⟨⟨x0, x1, x2⟩, x3, x4, x5⟩ := R5.out.cells
    clear y0 y1 y2 y3 y4 y5 q0 q1 q2 q3 q4 q5 r0 r1 r2 r3 r4 r5
    by_cases h48 : 48 ∈ fl
    · rw [decide_eq_true h48]
      have HM := hide h48
      clear h48
      go_wp2_with fail
      refine (H45a.out _).mono ?_
      rintro e w6 ⟨rfl, hb⟩
      have R6 := hide (R5.out.keep hb)
      have HB6 := hide (HB5.out.trans (hb.mono HB5.out.size))
      clear hb
      clear x0 x1 x2 x3 x4 x5
      obtain ⟨⟨v0, v1, v2⟩, v3, v4, v5⟩ := R6.out.cells
      by_cases h45 : 45 ∈ fl
      · have HV3 : Hid (wrP (⟨tx, fl, wd, false, pr, lt⟩ : Dv) a = (padP (⟨tx, fl, wd, false, pr, lt⟩ : Dv) (G ++ E), 0)) := hide (by rw [HV2.out]; unfold zerP; rw [if_neg (fun x => x.2.1 h45)])
        rw [decide_eq_true h45]
        clear h45
        obtain ⟨c, hc⟩ : ∃ c : Nat, max ((wd : Int) - ((g.size : Int) + (q.size : Int))) 0 = (c : Int) := ⟨(max ((wd : Int) - ((g.size : Int) + (q.size : Int))) 0).toNat, by omega⟩
        have HRP := hide (fun W => repeatOne_any 32 c W (by omega))
        have hcz : (mkB (List.replicate c 32)).size ≤ 1000 := by rw [mkB_size, List.length_replicate]; omega
        have HZZ : Hid (g ++ q = mkB (G ++ E)) := hide (by rw [← HG.out, ← HQ.out, mkB_app'])
        have hCN : Hid (c = wd - (G ++ E).length) := hide (by have h := congrArg ByteArray.size HZZ.out; simp only [ByteArray.size_append, mkB_size] at h; rw [← h]; omega)
        obtain ⟨p, hp⟩ : ∃ p, mkB (List.replicate c 32) = p := ⟨_, rfl⟩
        rw [hp] at hcz
        simp only [hp] at HRP
        have HF1 : Hid (45 ∈ fl → mkB (padP (⟨tx, fl, wd, false, pr, lt⟩ : Dv) (G ++ E)) = g ++ q ++ p) := hide (fun h => by unfold padP; rw [if_pos h, ← hCN.out, HZZ.out, ← hp, mkB_app'])
        have HF2 : Hid (¬ 45 ∈ fl → mkB (padP (⟨tx, fl, wd, false, pr, lt⟩ : Dv) (G ++ E)) = p ++ (g ++ q)) := hide (fun h => by unfold padP; rw [if_neg h, ← hCN.out, HZZ.out, ← hp, mkB_app'])
        have H45 := hide (fun W => has_any (⟨tx, fl, wd, false, pr, lt⟩ : Dv) 45 W)
        clear hp
        go_wp2_with fail
        with_reducible refine (HRP.out _).mono ?_
        rintro e w7 ⟨rfl, hb⟩
        have R7 := hide (R6.out.keep hb)
        have HB7 := hide (HB6.out.trans (hb.mono HB6.out.size))
        clear hb
        obtain ⟨⟨z0, z1, z2⟩, z3, z4, z5⟩ := R7.out.cells
        go_wp2_with fail
        refine (H45.out _).mono ?_
        rintro e w8 ⟨rfl, hb⟩
        have HB8 := hide (HB7.out.trans (hb.mono HB7.out.size))
        clear hb
        by_cases h45 : 45 ∈ fl
        · have HFIN := hide (HF1.out h45)
          rw [decide_eq_true h45]
          clear h45
          go_wp2_with fail
          go_ret2
          refine ⟨?_, HB8.out⟩
          rw [HV3.out]
          simp only [HFIN.out]
          rfl
        · have HFIN := hide (HF2.out h45)
          rw [decide_eq_false h45]
          clear h45
          go_wp2_with fail
          go_ret2
          refine ⟨?_, HB8.out⟩
          rw [HV3.out]
          simp only [HFIN.out]
          rfl
      · have hz : zerP (⟨tx, fl, wd, false, pr, lt⟩ : Dv) G.length E = List.replicate (wd - G.length - E.length) 48 ++ E := by
          unfold zerP
          rw [if_pos ⟨HM.out, h45, rfl⟩]
        have HV3 : Hid (wrP (⟨tx, fl, wd, false, pr, lt⟩ : Dv) a = (padP (⟨tx, fl, wd, false, pr, lt⟩ : Dv) (G ++ (List.replicate (wd - G.length - E.length) 48 ++ E)), 0)) := hide (by rw [HV2.out, hz])
        rw [decide_eq_false h45]
        clear h45 hz
        obtain ⟨k, hk⟩ : ∃ k : Nat, max ((wd : Int) - (g.size : Int) - (q.size : Int)) 0 = (k : Int) := ⟨(max ((wd : Int) - (g.size : Int) - (q.size : Int)) 0).toNat, by omega⟩
        have HRZ := hide (fun W => repeatOne_any 48 k W (by omega))
        have hkz : (mkB (List.replicate k 48)).size = k := by rw [mkB_size, List.length_replicate]
        have hk999 : k ≤ 999 := by omega
        have hKN : Hid (k = wd - G.length - E.length) := hide (by rw [← HGZ.out, ← HQZ.out]; omega)
        obtain ⟨pz, hpz⟩ : ∃ pz, mkB (List.replicate k 48) = pz := ⟨_, rfl⟩
        rw [hpz] at hkz
        simp only [hpz] at HRZ
        have HPZ := hide hpz
        have hpz2 : pz.size ≤ 999 := by omega
        rw [← hKN.out] at HV3
        clear hpz hkz
        go_wp2_with fail
        with_reducible refine (HRZ.out _).mono ?_
        rintro e w66 ⟨rfl, hb⟩
        have R66 := hide (R6.out.keep hb)
        have HB66 := hide (HB6.out.trans (hb.mono HB6.out.size))
        clear hb
        obtain ⟨⟨s0, s1, s2⟩, s3, s4, s5⟩ := R66.out.cells
        obtain ⟨c, hc⟩ : ∃ c : Nat, max ((wd : Int) - ((g.size : Int) + ((pz.size : Int) + (q.size : Int)))) 0 = (c : Int) := ⟨(max ((wd : Int) - ((g.size : Int) + ((pz.size : Int) + (q.size : Int)))) 0).toNat, by omega⟩
        have HRP := hide (fun W => repeatOne_any 32 c W (by omega))
        have hcz : (mkB (List.replicate c 32)).size ≤ 1000 := by rw [mkB_size, List.length_replicate]; omega
        have HZZ : Hid (g ++ (pz ++ q) = mkB (G ++ (List.replicate k 48 ++ E))) := hide (by rw [← HG.out, ← HQ.out, ← HPZ.out, mkB_app', mkB_app'])
        have hCN : Hid (c = wd - (G ++ (List.replicate k 48 ++ E)).length) := hide (by have h := congrArg ByteArray.size HZZ.out; simp only [ByteArray.size_append, mkB_size] at h; rw [← h]; omega)
        obtain ⟨p, hp⟩ : ∃ p, mkB (List.replicate c 32) = p := ⟨_, rfl⟩
        rw [hp] at hcz
        simp only [hp] at HRP
        have HF1 : Hid (45 ∈ fl → mkB (padP (⟨tx, fl, wd, false, pr, lt⟩ : Dv) (G ++ (List.replicate k 48 ++ E))) = g ++ (pz ++ q) ++ p) := hide (fun h => by unfold padP; rw [if_pos h, ← hCN.out, HZZ.out, ← hp, mkB_app'])
        have HF2 : Hid (¬ 45 ∈ fl → mkB (padP (⟨tx, fl, wd, false, pr, lt⟩ : Dv) (G ++ (List.replicate k 48 ++ E))) = p ++ (g ++ (pz ++ q))) := hide (fun h => by unfold padP; rw [if_neg h, ← hCN.out, HZZ.out, ← hp, mkB_app'])
        have H45 := hide (fun W => has_any (⟨tx, fl, wd, false, pr, lt⟩ : Dv) 45 W)
        clear hp
        go_wp2_with fail
        with_reducible refine (HRP.out _).mono ?_
        rintro e w7 ⟨rfl, hb⟩
        have R7 := hide (R66.out.keep hb)
        have HB7 := hide (HB66.out.trans (hb.mono HB66.out.size))
        clear hb
        obtain ⟨⟨z0, z1, z2⟩, z3, z4, z5⟩ := R7.out.cells
        go_wp2_with fail
        refine (H45.out _).mono ?_
        rintro e w8 ⟨rfl, hb⟩
        have HB8 := hide (HB7.out.trans (hb.mono HB7.out.size))
        clear hb
        by_cases h45 : 45 ∈ fl
        · have HFIN := hide (HF1.out h45)
          rw [decide_eq_true h45]
          clear h45
          go_wp2_with fail
          go_ret2
          refine ⟨?_, HB8.out⟩
          rw [HV3.out]
          simp only [HFIN.out]
          rfl
        · have HFIN := hide (HF2.out h45)
          rw [decide_eq_false h45]
          clear h45
          go_wp2_with fail
          go_ret2
          refine ⟨?_, HB8.out⟩
          rw [HV3.out]
          simp only [HFIN.out]
          rfl
    · have HV3 : Hid (wrP (⟨tx, fl, wd, false, pr, lt⟩ : Dv) a = (padP (⟨tx, fl, wd, false, pr, lt⟩ : Dv) (G ++ E), 0)) := hide (by rw [HV2.out]; unfold zerP; rw [if_neg (fun x => h48 x.1)])
      rw [decide_eq_false h48]
      clear h48
      obtain ⟨c, hc⟩ : ∃ c : Nat, max ((wd : Int) - ((g.size : Int) + (q.size : Int))) 0 = (c : Int) := ⟨(max ((wd : Int) - ((g.size : Int) + (q.size : Int))) 0).toNat, by omega⟩
      have HRP := hide (fun W => repeatOne_any 32 c W (by omega))
      have hcz : (mkB (List.replicate c 32)).size ≤ 1000 := by rw [mkB_size, List.length_replicate]; omega
      have HZZ : Hid (g ++ q = mkB (G ++ E)) := hide (by rw [← HG.out, ← HQ.out, mkB_app'])
      have hCN : Hid (c = wd - (G ++ E).length) := hide (by have h := congrArg ByteArray.size HZZ.out; simp only [ByteArray.size_append, mkB_size] at h; rw [← h]; omega)
      obtain ⟨p, hp⟩ : ∃ p, mkB (List.replicate c 32) = p := ⟨_, rfl⟩
      rw [hp] at hcz
      simp only [hp] at HRP
      have HF1 : Hid (45 ∈ fl → mkB (padP (⟨tx, fl, wd, false, pr, lt⟩ : Dv) (G ++ E)) = g ++ q ++ p) := hide (fun h => by unfold padP; rw [if_pos h, ← hCN.out, HZZ.out, ← hp, mkB_app'])
      have HF2 : Hid (¬ 45 ∈ fl → mkB (padP (⟨tx, fl, wd, false, pr, lt⟩ : Dv) (G ++ E)) = p ++ (g ++ q)) := hide (fun h => by unfold padP; rw [if_neg h, ← hCN.out, HZZ.out, ← hp, mkB_app'])
      have H45 := hide (fun W => has_any (⟨tx, fl, wd, false, pr, lt⟩ : Dv) 45 W)
      clear hp
      go_wp2_with fail
      with_reducible refine (HRP.out _).mono ?_
      rintro e w7 ⟨rfl, hb⟩
      have R7 := hide (R5.out.keep hb)
      have HB7 := hide (HB5.out.trans (hb.mono HB5.out.size))
      clear hb
      obtain ⟨⟨z0, z1, z2⟩, z3, z4, z5⟩ := R7.out.cells
      go_wp2_with fail
      refine (H45.out _).mono ?_
      rintro e w8 ⟨rfl, hb⟩
      have HB8 := hide (HB7.out.trans (hb.mono HB7.out.size))
      clear hb
      by_cases h45 : 45 ∈ fl
      · have HFIN := hide (HF1.out h45)
        rw [decide_eq_true h45]
        clear h45
        go_wp2_with fail
        go_ret2
        refine ⟨?_, HB8.out⟩
        rw [HV3.out]
        simp only [HFIN.out]
        rfl
      · have HFIN := hide (HF2.out h45)
        rw [decide_eq_false h45]
        clear h45
        go_wp2_with fail
        go_ret2
        refine ⟨?_, HB8.out⟩
        rw [HV3.out]
        simp only [HFIN.out]
        rfl
set_option maxHeartbeats 16000000 in
set_option maxRecDepth 100000 in
theorem written_n_t (tx fl : List UInt8) (wd pr : Nat) (lt : UInt8) (hlt : ¬ (lt = 115 ∨ lt = 98 ∨ lt = 99)) (hd : DvOk (⟨tx, fl, wd, true, pr, lt⟩ : Dv)) (a : List UInt8) (ha : a.length ≤ 900000) (w : World) (hE : ErrT w) (hT : PowTab w) (hZ : TzT w) :
    Calls Tryz.prog 35 #[dvV (⟨tx, fl, wd, true, pr, lt⟩ : Dv), .string (mkB a)] w fun e w' => e = .returned (.tuple #[.string (mkB (wrP (⟨tx, fl, wd, true, pr, lt⟩ : Dv) a).1), .int .i64 (wrP (⟨tx, fl, wd, true, pr, lt⟩ : Dv) a).2]) ∧ Below w.heap.size w w' := by
  have HR0 : Hid (DvRow 89 w.heap.size (⟨tx, fl, wd, true, pr, lt⟩ : Dv) (w.alloc (.cells #[.string (mkB tx), .string (mkB fl), .int .i64 (wd : Int), .bool true, .int .i64 (pr : Int), .int .u8 (lt.toNat : Int)] 89))) := hide (heap_alloc_new w _)
  have HB0 := hide ((Below.refl w.heap.size w).alloc (Nat.le_refl _) (.cells #[.string (mkB tx), .string (mkB fl), .int .i64 (wd : Int), .bool true, .int .i64 (pr : Int), .int .u8 (lt.toNat : Int)] 89))
  have HN := hide (numeral_any a (w.alloc (.cells #[.string (mkB tx), .string (mkB fl), .int .i64 (wd : Int), .bool true, .int .i64 (pr : Int), .int .u8 (lt.toNat : Int)] 89)) ha (hE.below HB0.out))
  obtain ⟨h0, h1⟩ := numP_in a
  have HV : Hid (wrP (⟨tx, fl, wd, true, pr, lt⟩ : Dv) a = if (numP a).2 = 0 then (padP (⟨tx, fl, wd, true, pr, lt⟩ : Dv) (nbrP (⟨tx, fl, wd, true, pr, lt⟩ : Dv) (numP a).1), 0) else ([], (numP a).2)) := hide (by
    simp only [not_or] at hlt
    unfold wrP
    rw [if_neg hlt.1, if_neg hlt.2.1, if_neg hlt.2.2])
  have f115 : ((lt.toNat : Int) == 115) = false := (u8_eqN lt 115).trans (decide_eq_false (fun e => hlt (by simp [e])))
  have f98 : ((lt.toNat : Int) == 98) = false := (u8_eqN lt 98).trans (decide_eq_false (fun e => hlt (by simp [e])))
  have f99 : ((lt.toNat : Int) == 99) = false := (u8_eqN lt 99).trans (decide_eq_false (fun e => hlt (by simp [e])))
  obtain ⟨n, hn⟩ : ∃ n, (numP a).1 = n := ⟨_, rfl⟩
  obtain ⟨er, her⟩ : ∃ er, (numP a).2 = er := ⟨_, rfl⟩
  rw [hn] at h0 h1 HV HN
  rw [her] at HV HN
  have HS := hide (fun W => sign_any (⟨tx, fl, wd, true, pr, lt⟩ : Dv) n W)
  have HD := hide (fun W (hb : Below w.heap.size w W) => digits_any (⟨tx, fl, wd, true, pr, lt⟩ : Dv) hd n h0 h1 W (hT.below hb) (hZ.below hb))
  have hsl := signP_len (⟨tx, fl, wd, true, pr, lt⟩ : Dv) n
  have hdl := digP_len hd n h0 h1
  have hwd : wd ≤ 999 := hd.2.1
  obtain ⟨qa, hqa⟩ : ∃ qa, mkB a = qa := ⟨_, rfl⟩
  rw [hqa] at HN ⊢
  clear hqa hlt hE hT hZ ha hn her
  show Calls Tryz.prog _ #[.agg #[.string (mkB tx), .string (mkB fl), .int .i64 (wd : Int), .bool true, .int .i64 (pr : Int), .int .u8 (lt.toNat : Int)], .string qa] w _
  go_enter Tryz.func35, Tryz.ntmps35
  go_wp2_with fail
  refine HN.out.mono ?_
  rintro e w2 ⟨rfl, hb⟩
  have R := hide (HR0.out.keep hb)
  have HB2 := hide (HB0.out.trans (hb.mono HB0.out.size))
  clear hb
  by_cases he : er = 0
  case neg =>
    have e1 : (er != 0) = true := by simpa using he
    have HV2 := hide (HV.out.trans (if_neg he))
    clear he
    go_wp2_with fail
    go_ret2
    refine ⟨?_, HB2.out⟩
    rw [HV2.out]; rfl
  case pos =>
    have HV2 := hide (HV.out.trans (if_pos he))
    subst he
    obtain ⟨⟨y0, y1, y2⟩, y3, y4, y5⟩ := R.out.cells
    obtain ⟨G, hG⟩ : ∃ G, signP (⟨tx, fl, wd, true, pr, lt⟩ : Dv) n = G := ⟨_, rfl⟩
    obtain ⟨E, hE⟩ : ∃ E, digP (⟨tx, fl, wd, true, pr, lt⟩ : Dv) n = E := ⟨_, rfl⟩
    have HNB : Hid (nbrP (⟨tx, fl, wd, true, pr, lt⟩ : Dv) n = G ++ zerP (⟨tx, fl, wd, true, pr, lt⟩ : Dv) G.length E) := hide (by unfold nbrP; rw [hG, hE])
    rw [HNB.out] at HV2
    rw [hG] at HS hsl
    rw [hE] at HD hdl
    obtain ⟨g, hg⟩ : ∃ g, mkB G = g := ⟨_, rfl⟩
    obtain ⟨q, hq⟩ : ∃ q, mkB E = q := ⟨_, rfl⟩
    have hgz : g.size = G.length := by rw [← hg, mkB_size]
    have hqz : q.size = E.length := by rw [← hq, mkB_size]
    have HG := hide hg
    have HQ := hide hq
    rw [hg] at HS
    rw [hq] at HD
    have HGZ := hide hgz
    have HQZ := hide hqz
    have hg2 : g.size ≤ 2 := by omega
    have hq2 : q.size ≤ 1100 := by omega
    clear hG hE hg hq hgz hqz hsl hdl
    go_wp2_with fail
    go_region_held3 (fun w' => w'.cell? ⟨w.heap.size, 0, none⟩ = some (.string (mkB tx)) ∧ w'.cell? ⟨w.heap.size, 1, none⟩ = some (.string (mkB fl)) ∧ w'.cell? ⟨w.heap.size, 2, none⟩ = some (.int .i64 (wd : Int)) ∧ w'.cell? ⟨w.heap.size, 3, none⟩ = some (.bool true) ∧ w'.cell? ⟨w.heap.size, 4, none⟩ = some (.int .i64 (pr : Int)) ∧ w'.cell? ⟨w.heap.size, 5, none⟩ = some (.int .u8 (lt.toNat : Int))) (go_keep)
      (first
        | (go_at_call 83; refine (HS.out _).mono ?_; rintro e w3 ⟨rfl, hb⟩; have hb2 : Below w2.heap.size w2 w3 := ⟨hb.os, hb.tape, hb.output, hb.size, hb.block⟩; have R3 := hide (R.out.keep hb2); have HB3 := hide (HB2.out.trans (hb2.mono HB2.out.size)); clear hb hb2; obtain ⟨⟨q0, q1, q2⟩, q3, q4, q5⟩ := R3.out.cells)
        | (go_at_call 84; refine (HD.out _ (by first | exact HB3.out | exact below_q HB3.out)).mono ?_; rintro e w4 ⟨rfl, hb⟩; have hb2 : Below w3.heap.size w3 w4 := ⟨hb.os, hb.tape, hb.output, hb.size, hb.block⟩; have R4 := hide (R3.out.keep hb2); have HB4 := hide (HB3.out.trans (hb2.mono HB3.out.size)); clear hb hb2; obtain ⟨⟨r0, r1, r2⟩, r3, r4, r5⟩ := R4.out.cells))
    have H48 := hide (fun W => has_any (⟨tx, fl, wd, true, pr, lt⟩ : Dv) 48 W)
    have H45a := hide (fun W => has_any (⟨tx, fl, wd, true, pr, lt⟩ : Dv) 45 W)
    go_wp2_with fail
    refine (H48.out _).mono ?_
    rintro e w5 ⟨rfl, hb⟩
    have R5 := hide (R4.out.keep hb)
    have HB5 := hide (HB4.out.trans (hb.mono HB4.out.size))
    clear hb
    obtain ⟨⟨x0, x1, x2⟩, x3, x4, x5⟩ := R5.out.cells
    clear y0 y1 y2 y3 y4 y5 q0 q1 q2 q3 q4 q5 r0 r1 r2 r3 r4 r5
    by_cases h48 : 48 ∈ fl
    · rw [decide_eq_true h48]
      have HM := hide h48
      clear h48
      go_wp2_with fail
      refine (H45a.out _).mono ?_
      rintro e w6 ⟨rfl, hb⟩
      have R6 := hide (R5.out.keep hb)
      have HB6 := hide (HB5.out.trans (hb.mono HB5.out.size))
      clear hb
      clear x0 x1 x2 x3 x4 x5
      obtain ⟨⟨v0, v1, v2⟩, v3, v4, v5⟩ := R6.out.cells
      by_cases h45 : 45 ∈ fl
      · have HV3 : Hid (wrP (⟨tx, fl, wd, true, pr, lt⟩ : Dv) a = (padP (⟨tx, fl, wd, true, pr, lt⟩ : Dv) (G ++ E), 0)) := hide (by rw [HV2.out]; unfold zerP; rw [if_neg (fun x => x.2.1 h45)])
        rw [decide_eq_true h45]
        clear h45
        obtain ⟨c, hc⟩ : ∃ c : Nat, max ((wd : Int) - ((g.size : Int) + (q.size : Int))) 0 = (c : Int) := ⟨(max ((wd : Int) - ((g.size : Int) + (q.size : Int))) 0).toNat, by omega⟩
        have HRP := hide (fun W => repeatOne_any 32 c W (by omega))
        have hcz : (mkB (List.replicate c 32)).size ≤ 1000 := by rw [mkB_size, List.length_replicate]; omega
        have HZZ : Hid (g ++ q = mkB (G ++ E)) := hide (by rw [← HG.out, ← HQ.out, mkB_app'])
        have hCN : Hid (c = wd - (G ++ E).length) := hide (by have h := congrArg ByteArray.size HZZ.out; simp only [ByteArray.size_append, mkB_size] at h; rw [← h]; omega)
        obtain ⟨p, hp⟩ : ∃ p, mkB (List.replicate c 32) = p := ⟨_, rfl⟩
        rw [hp] at hcz
        simp only [hp] at HRP
        have HF1 : Hid (45 ∈ fl → mkB (padP (⟨tx, fl, wd, true, pr, lt⟩ : Dv) (G ++ E)) = g ++ q ++ p) := hide (fun h => by unfold padP; rw [if_pos h, ← hCN.out, HZZ.out, ← hp, mkB_app'])
        have HF2 : Hid (¬ 45 ∈ fl → mkB (padP (⟨tx, fl, wd, true, pr, lt⟩ : Dv) (G ++ E)) = p ++ (g ++ q)) := hide (fun h => by unfold padP; rw [if_neg h, ← hCN.out, HZZ.out, ← hp, mkB_app'])
        have H45 := hide (fun W => has_any (⟨tx, fl, wd, true, pr, lt⟩ : Dv) 45 W)
        clear hp
        go_wp2_with fail
        with_reducible refine (HRP.out _).mono ?_
        rintro e w7 ⟨rfl, hb⟩
        have R7 := hide (R6.out.keep hb)
        have HB7 := hide (HB6.out.trans (hb.mono HB6.out.size))
        clear hb
        obtain ⟨⟨z0, z1, z2⟩, z3, z4, z5⟩ := R7.out.cells
        go_wp2_with fail
        refine (H45.out _).mono ?_
        rintro e w8 ⟨rfl, hb⟩
        have HB8 := hide (HB7.out.trans (hb.mono HB7.out.size))
        clear hb
        by_cases h45 : 45 ∈ fl
        · have HFIN := hide (HF1.out h45)
          rw [decide_eq_true h45]
          clear h45
          go_wp2_with fail
          go_ret2
          refine ⟨?_, HB8.out⟩
          rw [HV3.out]
          simp only [HFIN.out]
          rfl
        · have HFIN := hide (HF2.out h45)
          rw [decide_eq_false h45]
          clear h45
          go_wp2_with fail
          go_ret2
          refine ⟨?_, HB8.out⟩
          rw [HV3.out]
          simp only [HFIN.out]
          rfl
      · have hz : zerP (⟨tx, fl, wd, true, pr, lt⟩ : Dv) G.length E = E := by
          unfold zerP
          rw [if_neg (fun x => Bool.noConfusion x.2.2)]
        have HV3 : Hid (wrP (⟨tx, fl, wd, true, pr, lt⟩ : Dv) a = (padP (⟨tx, fl, wd, true, pr, lt⟩ : Dv) (G ++ (E)), 0)) := hide (by rw [HV2.out, hz])
        rw [decide_eq_false h45]
        clear h45 hz
        obtain ⟨c, hc⟩ : ∃ c : Nat, max ((wd : Int) - ((g.size : Int) + (q.size : Int))) 0 = (c : Int) := ⟨(max ((wd : Int) - ((g.size : Int) + (q.size : Int))) 0).toNat, by omega⟩
        have HRP := hide (fun W => repeatOne_any 32 c W (by omega))
        have hcz : (mkB (List.replicate c 32)).size ≤ 1000 := by rw [mkB_size, List.length_replicate]; omega
        have HZZ : Hid (g ++ q = mkB (G ++ E)) := hide (by rw [← HG.out, ← HQ.out, mkB_app'])
        have hCN : Hid (c = wd - (G ++ E).length) := hide (by have h := congrArg ByteArray.size HZZ.out; simp only [ByteArray.size_append, mkB_size] at h; rw [← h]; omega)
        obtain ⟨p, hp⟩ : ∃ p, mkB (List.replicate c 32) = p := ⟨_, rfl⟩
        rw [hp] at hcz
        simp only [hp] at HRP
        have HF1 : Hid (45 ∈ fl → mkB (padP (⟨tx, fl, wd, true, pr, lt⟩ : Dv) (G ++ E)) = g ++ q ++ p) := hide (fun h => by unfold padP; rw [if_pos h, ← hCN.out, HZZ.out, ← hp, mkB_app'])
        have HF2 : Hid (¬ 45 ∈ fl → mkB (padP (⟨tx, fl, wd, true, pr, lt⟩ : Dv) (G ++ E)) = p ++ (g ++ q)) := hide (fun h => by unfold padP; rw [if_neg h, ← hCN.out, HZZ.out, ← hp, mkB_app'])
        have H45 := hide (fun W => has_any (⟨tx, fl, wd, true, pr, lt⟩ : Dv) 45 W)
        clear hp
        go_wp2_with fail
        with_reducible refine (HRP.out _).mono ?_
        rintro e w7 ⟨rfl, hb⟩
        have R7 := hide (R6.out.keep hb)
        have HB7 := hide (HB6.out.trans (hb.mono HB6.out.size))
        clear hb
        obtain ⟨⟨z0, z1, z2⟩, z3, z4, z5⟩ := R7.out.cells
        go_wp2_with fail
        refine (H45.out _).mono ?_
        rintro e w8 ⟨rfl, hb⟩
        have HB8 := hide (HB7.out.trans (hb.mono HB7.out.size))
        clear hb
        by_cases h45 : 45 ∈ fl
        · have HFIN := hide (HF1.out h45)
          rw [decide_eq_true h45]
          clear h45
          go_wp2_with fail
          go_ret2
          refine ⟨?_, HB8.out⟩
          rw [HV3.out]
          simp only [HFIN.out]
          rfl
        · have HFIN := hide (HF2.out h45)
          rw [decide_eq_false h45]
          clear h45
          go_wp2_with fail
          go_ret2
          refine ⟨?_, HB8.out⟩
          rw [HV3.out]
          simp only [HFIN.out]
          rfl
    · have HV3 : Hid (wrP (⟨tx, fl, wd, true, pr, lt⟩ : Dv) a = (padP (⟨tx, fl, wd, true, pr, lt⟩ : Dv) (G ++ E), 0)) := hide (by rw [HV2.out]; unfold zerP; rw [if_neg (fun x => h48 x.1)])
      rw [decide_eq_false h48]
      clear h48
      obtain ⟨c, hc⟩ : ∃ c : Nat, max ((wd : Int) - ((g.size : Int) + (q.size : Int))) 0 = (c : Int) := ⟨(max ((wd : Int) - ((g.size : Int) + (q.size : Int))) 0).toNat, by omega⟩
      have HRP := hide (fun W => repeatOne_any 32 c W (by omega))
      have hcz : (mkB (List.replicate c 32)).size ≤ 1000 := by rw [mkB_size, List.length_replicate]; omega
      have HZZ : Hid (g ++ q = mkB (G ++ E)) := hide (by rw [← HG.out, ← HQ.out, mkB_app'])
      have hCN : Hid (c = wd - (G ++ E).length) := hide (by have h := congrArg ByteArray.size HZZ.out; simp only [ByteArray.size_append, mkB_size] at h; rw [← h]; omega)
      obtain ⟨p, hp⟩ : ∃ p, mkB (List.replicate c 32) = p := ⟨_, rfl⟩
      rw [hp] at hcz
      simp only [hp] at HRP
      have HF1 : Hid (45 ∈ fl → mkB (padP (⟨tx, fl, wd, true, pr, lt⟩ : Dv) (G ++ E)) = g ++ q ++ p) := hide (fun h => by unfold padP; rw [if_pos h, ← hCN.out, HZZ.out, ← hp, mkB_app'])
      have HF2 : Hid (¬ 45 ∈ fl → mkB (padP (⟨tx, fl, wd, true, pr, lt⟩ : Dv) (G ++ E)) = p ++ (g ++ q)) := hide (fun h => by unfold padP; rw [if_neg h, ← hCN.out, HZZ.out, ← hp, mkB_app'])
      have H45 := hide (fun W => has_any (⟨tx, fl, wd, true, pr, lt⟩ : Dv) 45 W)
      clear hp
      go_wp2_with fail
      with_reducible refine (HRP.out _).mono ?_
      rintro e w7 ⟨rfl, hb⟩
      have R7 := hide (R5.out.keep hb)
      have HB7 := hide (HB5.out.trans (hb.mono HB5.out.size))
      clear hb
      obtain ⟨⟨z0, z1, z2⟩, z3, z4, z5⟩ := R7.out.cells
      go_wp2_with fail
      refine (H45.out _).mono ?_
      rintro e w8 ⟨rfl, hb⟩
      have HB8 := hide (HB7.out.trans (hb.mono HB7.out.size))
      clear hb
      by_cases h45 : 45 ∈ fl
      · have HFIN := hide (HF1.out h45)
        rw [decide_eq_true h45]
        clear h45
        go_wp2_with fail
        go_ret2
        refine ⟨?_, HB8.out⟩
        rw [HV3.out]
        simp only [HFIN.out]
        rfl
      · have HFIN := hide (HF2.out h45)
        rw [decide_eq_false h45]
        clear h45
        go_wp2_with fail
        go_ret2
        refine ⟨?_, HB8.out⟩
        rw [HV3.out]
        simp only [HFIN.out]
        rfl
end Go.Proofs.YtifpmigghplmoaaGreatDoor
