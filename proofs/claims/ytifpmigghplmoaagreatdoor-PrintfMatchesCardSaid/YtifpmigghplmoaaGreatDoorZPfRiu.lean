/- Printf, the reference: shown at one letter (printed by gen_pfri.py). -/
import Derived.Test.YtifpmigghplmoaaGreatDoorZPfRg
import Derived.Test.YtifpmigghplmoaaGreatDoorZPfRh
import Derived.Test.YtifpmigghplmoaaGreatDoorZPfRb
set_option linter.unusedVariables false
set_option linter.unusedSimpArgs false
namespace Go.Proofs.YtifpmigghplmoaaGreatDoor
open Go.RowKit Go.Pw Go.Shelf
def szSu (v : Value) : Nat := match v with | .string b => b.size | _ => 0
set_option maxHeartbeats 16000000 in
set_option maxRecDepth 100000 in
theorem shown_u_f (tx fl : List UInt8) (wd pr kk : Nat) (hd : DvOk (⟨tx, fl, wd, false, pr, 117⟩ : Dv)) (a : List UInt8) (ha : a.length ≤ 900000) (w : World) :
    Calls Tryz.prog 41 #[.agg (rvC (⟨tx, fl, wd, false, pr, 117⟩ : Dv) kk), .string (mkB a)] w fun e w' => e = .returned (.tuple #[.string (mkB (wrP (⟨tx, fl, wd, false, pr, 117⟩ : Dv) a).1), .int .i64 (wrP (⟨tx, fl, wd, false, pr, 117⟩ : Dv) a).2]) ∧ Below w.heap.size w w' := by
  obtain ⟨h0, h1⟩ := numP_in a
  have HV : Hid (wrP (⟨tx, fl, wd, false, pr, 117⟩ : Dv) a = if (numP a).2 = 0 then (padP (⟨tx, fl, wd, false, pr, 117⟩ : Dv) (nbrP (⟨tx, fl, wd, false, pr, 117⟩ : Dv) (numP a).1), 0) else ([], (numP a).2)) := hide (by
    unfold wrP
    rw [if_neg (by dsimp only; decide), if_neg (by dsimp only; decide), if_neg (by dsimp only; decide)])
  have HN := hide (fun W => wordNumber_any a W ha)
  obtain ⟨n, hn⟩ : ∃ n, (numP a).1 = n := ⟨_, rfl⟩
  obtain ⟨er, her⟩ : ∃ er, (numP a).2 = er := ⟨_, rfl⟩
  rw [hn] at h0 h1 HV
  simp only [hn, her] at HN
  rw [her] at HV
  have HPN := hide (fun H E hH hE W => pad_num (⟨tx, fl, wd, false, pr, 117⟩ : Dv) hd (by dsimp only; decide) kk H E hH hE W)
  have hpr : pr ≤ 999 := hd.2.2
  have hda := digA_len 117 n h0 h1
  have HA : Hid (digA 117 n = basP 10 (u64N n)) := hide (by unfold digA; rw [if_neg (by decide), if_pos (by decide)])
  obtain ⟨S, hS⟩ : ∃ S, digA 117 n = S := ⟨_, rfl⟩
  rw [hS] at HA hda
  have HDP : Hid (digP (⟨tx, fl, wd, false, pr, 117⟩ : Dv) n = digP2 (⟨tx, fl, wd, false, pr, 117⟩ : Dv) (digP1 (⟨tx, fl, wd, false, pr, 117⟩ : Dv) n S)) := hide (by unfold digP; rw [hS])
  have hgl := signP_len (⟨tx, fl, wd, false, pr, 117⟩ : Dv) n
  have HSG : Hid (signP (⟨tx, fl, wd, false, pr, 117⟩ : Dv) n = []) := hide (by unfold signP; rw [if_neg (by dsimp only; decide), if_neg (fun x => absurd x.2.2 (by dsimp only; decide))])
  have hrow : rvC (⟨tx, fl, wd, false, pr, 117⟩ : Dv) kk = #[.bool (decide (45 ∈ fl)), .bool (decide (43 ∈ fl)), .bool (decide (32 ∈ fl)), .bool (decide (48 ∈ fl)), .bool (decide (35 ∈ fl)), .int .i64 (wd : Int), .int .i64 (-1), .int .u8 117, .int .i64 (kk : Int)] := by
    simp only [rvC, show ((117 : UInt8) = 0) = False by decide, if_false]; rfl
  simp only [hrow] at HPN
  rw [hrow]
  have D43 := hide (rfl : decide (43 ∈ fl) = decide (43 ∈ fl))
  obtain ⟨b45, hb45⟩ : ∃ x, decide (45 ∈ fl) = x := ⟨_, rfl⟩
  obtain ⟨b43, hb43⟩ : ∃ x, decide (43 ∈ fl) = x := ⟨_, rfl⟩
  obtain ⟨b32, hb32⟩ : ∃ x, decide (32 ∈ fl) = x := ⟨_, rfl⟩
  obtain ⟨b48, hb48⟩ : ∃ x, decide (48 ∈ fl) = x := ⟨_, rfl⟩
  obtain ⟨b35, hb35⟩ : ∃ x, decide (35 ∈ fl) = x := ⟨_, rfl⟩
  rw [hb45, hb43, hb32, hb48, hb35]
  simp only [hb45, hb43, hb32, hb48, hb35] at HPN
  have B43 := hide hb43
  have B32 := hide hb32
  have B35 := hide hb35
  have hR : (w.alloc (.cells #[.bool b45, .bool b43, .bool b32, .bool b48, .bool b35, .int .i64 (wd : Int), .int .i64 (-1), .int .u8 117, .int .i64 (kk : Int)] 97)).heap[w.heap.size]? = some (.cells #[.bool b45, .bool b43, .bool b32, .bool b48, .bool b35, .int .i64 (wd : Int), .int .i64 (-1), .int .u8 117, .int .i64 (kk : Int)] 97 (0, 0)) := heap_alloc_new w _
  obtain ⟨W, hW⟩ : ∃ W, w.alloc (.cells #[.bool b45, .bool b43, .bool b32, .bool b48, .bool b35, .int .i64 (wd : Int), .int .i64 (-1), .int .u8 117, .int .i64 (kk : Int)] 97) = W := ⟨_, rfl⟩
  have HB : Hid (Below w.heap.size w W) := hide (by rw [← hW]; exact (Below.refl w.heap.size w).alloc (Nat.le_refl _) _)
  rw [hW] at hR
  have y0 : W.cell? ⟨w.heap.size, 0, none⟩ = some (.bool b45) := by rw [Lib.cell_of_heap hR]; rfl
  have y1 : W.cell? ⟨w.heap.size, 1, none⟩ = some (.bool b43) := by rw [Lib.cell_of_heap hR]; rfl
  have y2 : W.cell? ⟨w.heap.size, 2, none⟩ = some (.bool b32) := by rw [Lib.cell_of_heap hR]; rfl
  have y3 : W.cell? ⟨w.heap.size, 3, none⟩ = some (.bool b48) := by rw [Lib.cell_of_heap hR]; rfl
  have y4 : W.cell? ⟨w.heap.size, 4, none⟩ = some (.bool b35) := by rw [Lib.cell_of_heap hR]; rfl
  have y5 : W.cell? ⟨w.heap.size, 5, none⟩ = some (.int .i64 (wd : Int)) := by rw [Lib.cell_of_heap hR]; rfl
  have y6 : W.cell? ⟨w.heap.size, 6, none⟩ = some (.int .i64 (-1)) := by rw [Lib.cell_of_heap hR]; rfl
  have y7 : W.cell? ⟨w.heap.size, 7, none⟩ = some (.int .u8 117) := by rw [Lib.cell_of_heap hR]; rfl
  have y8 : W.cell? ⟨w.heap.size, 8, none⟩ = some (.int .i64 (kk : Int)) := by rw [Lib.cell_of_heap hR]; rfl
  have HWW := hide hW
  have HRW := hide hR
  obtain ⟨qa, hqa⟩ : ∃ qa, mkB a = qa := ⟨_, rfl⟩
  rw [hqa] at HN ⊢
  clear hR hW hqa hrow hb45 hb43 hb32 hb48 hb35 hS hn her ha
  go_enter Tryz.func41, Tryz.ntmps41
  go_wp2_with fail
  rw [HWW.out]
  refine (HN.out _).mono ?_
  rintro e w2 ⟨rfl, hw2⟩
  have hw3 := hw2.symm
  clear hw2
  subst hw3
  by_cases he : er = 0
  case neg =>
    have e1 : (er != 0) = true := by simpa using he
    have HV2 := hide (HV.out.trans (if_neg he))
    clear he
    go_wp2_with fail
    go_ret2
    refine ⟨?_, HB.out⟩
    rw [HV2.out]; rfl
  case pos =>
    have HV2 := hide (HV.out.trans (if_pos he))
    subst he
    have HBA : Hid (∀ W, Calls Tryz.prog 92 #[.int .u64 ((u64N n : Nat) : Int), .int .u64 10, .bool false] W fun e w' => e = .returned (.string (mkB S)) ∧ w' = W) := hide (fun W => by
      have h := based_f (u64N n) 10 W (u64N_lt n) (by omega) (by omega) (by have := basP_len (b := 10) (by omega) 19 (u64N n) (by have := u64N_lt n; omega); omega)
      rw [HA.out]; exact h)
    have HU : Hid (IntKind.u64.wrap n = ((u64N n : Nat) : Int)) := hide (by rw [IntKind.wrap_u64]; unfold u64N; omega)
    obtain ⟨G, hG1, hG⟩ : ∃ G : List UInt8, G = [] ∧ mkB G = (⟨#[]⟩ : ByteArray) := ⟨_, rfl, rfl⟩
    have HSG2 : Hid (signP (⟨tx, fl, wd, false, pr, 117⟩ : Dv) n = G) := hide (by rw [HSG.out, hG1])
    clear hG1
    have hdummy : True := trivial
    all_goals
      have HNB : Hid (nbrP (⟨tx, fl, wd, false, pr, 117⟩ : Dv) n = G ++ zerP (⟨tx, fl, wd, false, pr, 117⟩ : Dv) G.length (digP (⟨tx, fl, wd, false, pr, 117⟩ : Dv) n)) := hide (by unfold nbrP; rw [HSG2.out])
      obtain ⟨g, hg⟩ : ∃ g, mkB G = g := ⟨_, rfl⟩
      have HG2 := hide hg
      have hgz : G.length ≤ 2 := by rw [← HSG2.out]; exact hgl
      have HGL := hide hG
      clear hG
      go_wp2_with fail
      rw [HU.out]
      with_reducible refine (HBA.out _).mono ?_
      rintro e w3 ⟨rfl, hw2⟩
      have hw3 := hw2.symm
      clear hw2
      subst hw3
      have HE1 : Hid (digP1 (⟨tx, fl, wd, false, pr, 117⟩ : Dv) n S = S) := hide (by unfold digP1; rw [if_neg (by dsimp only; decide)])
      obtain ⟨q, hq⟩ : ∃ q, mkB S = q := ⟨_, rfl⟩
      have hqz : q.size ≤ 24 := by rw [← hq, mkB_size]; exact hda
      have HTT := hide hq
      have hq1 : ¬ (q.size : Int) < -1 := by omega
      rw [hq]
      clear hq
      go_wp2_with fail
      go_loopw [13] (fun sv wr => sv = .string q ∧ Hid (wr.heap[w.heap.size]? = some (.cells #[.bool b45, .bool b43, .bool b32, .bool b48, .bool b35, .int .i64 (wd : Int), .int .i64 (-1), .int .u8 117, .int .i64 (kk : Int)] 97 (0, 0))) ∧ Hid (Below w.heap.size w wr)) (fun _ _ => 0)
      case atStart => exact ⟨rfl, by first | exact HRW | exact hide ((heap_alloc_old _ _ (Array.getElem?_eq_some_iff.1 HRW.out).1).trans HRW.out), by first | exact HB | exact hide (HB.out.alloc HB.out.size _)⟩
      case round =>
        obtain ⟨rfl, HRQ, HB⟩ := hrel
        clear y0 y1 y2 y3 y4 y5 y6 y7 y8
        have y0 := Lib.cell_of_heap HRQ.out 0
        have y1 := Lib.cell_of_heap HRQ.out 1
        have y2 := Lib.cell_of_heap HRQ.out 2
        have y3 := Lib.cell_of_heap HRQ.out 3
        have y4 := Lib.cell_of_heap HRQ.out 4
        have y5 := Lib.cell_of_heap HRQ.out 5
        have y6 := Lib.cell_of_heap HRQ.out 6
        have y7 := Lib.cell_of_heap HRQ.out 7
        have y8 := Lib.cell_of_heap HRQ.out 8
        simp at y0 y1 y2 y3 y4 y5 y6 y7 y8
        have HDG : Hid (digP (⟨tx, fl, wd, false, pr, 117⟩ : Dv) n = S) := hide (by rw [HDP.out, HE1.out]; unfold digP2; rw [if_neg (fun x => absurd x.1 (by dsimp only; decide))])
        have HPD := hide (HPN.out G (S) (by omega) (by omega) wr)
        rw [HGL.out] at HPD
        rw [HTT.out] at HPD
        go_wp2_with fail
        with_reducible refine HPD.out.mono ?_
        rintro e w5 ⟨rfl, hb⟩
        have HB5 := hide (HB.out.trans (hb.mono HB.out.size))
        clear hb
        go_wp2_with fail
        go_ret2
        refine ⟨?_, HB5.out⟩
        rw [HV2.out, HNB.out, HDG.out]
        rfl
set_option maxHeartbeats 16000000 in
set_option maxRecDepth 100000 in
theorem shown_u_t (tx fl : List UInt8) (wd pr kk : Nat) (hd : DvOk (⟨tx, fl, wd, true, pr, 117⟩ : Dv)) (a : List UInt8) (ha : a.length ≤ 900000) (w : World) :
    Calls Tryz.prog 41 #[.agg (rvC (⟨tx, fl, wd, true, pr, 117⟩ : Dv) kk), .string (mkB a)] w fun e w' => e = .returned (.tuple #[.string (mkB (wrP (⟨tx, fl, wd, true, pr, 117⟩ : Dv) a).1), .int .i64 (wrP (⟨tx, fl, wd, true, pr, 117⟩ : Dv) a).2]) ∧ Below w.heap.size w w' := by
  obtain ⟨h0, h1⟩ := numP_in a
  have HV : Hid (wrP (⟨tx, fl, wd, true, pr, 117⟩ : Dv) a = if (numP a).2 = 0 then (padP (⟨tx, fl, wd, true, pr, 117⟩ : Dv) (nbrP (⟨tx, fl, wd, true, pr, 117⟩ : Dv) (numP a).1), 0) else ([], (numP a).2)) := hide (by
    unfold wrP
    rw [if_neg (by dsimp only; decide), if_neg (by dsimp only; decide), if_neg (by dsimp only; decide)])
  have HN := hide (fun W => wordNumber_any a W ha)
  obtain ⟨n, hn⟩ : ∃ n, (numP a).1 = n := ⟨_, rfl⟩
  obtain ⟨er, her⟩ : ∃ er, (numP a).2 = er := ⟨_, rfl⟩
  rw [hn] at h0 h1 HV
  simp only [hn, her] at HN
  rw [her] at HV
  have HPN := hide (fun H E hH hE W => pad_num (⟨tx, fl, wd, true, pr, 117⟩ : Dv) hd (by dsimp only; decide) kk H E hH hE W)
  have hpr : pr ≤ 999 := hd.2.2
  have hda := digA_len 117 n h0 h1
  have HA : Hid (digA 117 n = basP 10 (u64N n)) := hide (by unfold digA; rw [if_neg (by decide), if_pos (by decide)])
  obtain ⟨S, hS⟩ : ∃ S, digA 117 n = S := ⟨_, rfl⟩
  rw [hS] at HA hda
  have HDP : Hid (digP (⟨tx, fl, wd, true, pr, 117⟩ : Dv) n = digP2 (⟨tx, fl, wd, true, pr, 117⟩ : Dv) (digP1 (⟨tx, fl, wd, true, pr, 117⟩ : Dv) n S)) := hide (by unfold digP; rw [hS])
  have hgl := signP_len (⟨tx, fl, wd, true, pr, 117⟩ : Dv) n
  have HSG : Hid (signP (⟨tx, fl, wd, true, pr, 117⟩ : Dv) n = []) := hide (by unfold signP; rw [if_neg (by dsimp only; decide), if_neg (fun x => absurd x.2.2 (by dsimp only; decide))])
  have hrow : rvC (⟨tx, fl, wd, true, pr, 117⟩ : Dv) kk = #[.bool (decide (45 ∈ fl)), .bool (decide (43 ∈ fl)), .bool (decide (32 ∈ fl)), .bool (decide (48 ∈ fl)), .bool (decide (35 ∈ fl)), .int .i64 (wd : Int), .int .i64 (pr : Int), .int .u8 117, .int .i64 (kk : Int)] := by
    simp only [rvC, show ((117 : UInt8) = 0) = False by decide, if_false]; rfl
  simp only [hrow] at HPN
  rw [hrow]
  have D43 := hide (rfl : decide (43 ∈ fl) = decide (43 ∈ fl))
  obtain ⟨b45, hb45⟩ : ∃ x, decide (45 ∈ fl) = x := ⟨_, rfl⟩
  obtain ⟨b43, hb43⟩ : ∃ x, decide (43 ∈ fl) = x := ⟨_, rfl⟩
  obtain ⟨b32, hb32⟩ : ∃ x, decide (32 ∈ fl) = x := ⟨_, rfl⟩
  obtain ⟨b48, hb48⟩ : ∃ x, decide (48 ∈ fl) = x := ⟨_, rfl⟩
  obtain ⟨b35, hb35⟩ : ∃ x, decide (35 ∈ fl) = x := ⟨_, rfl⟩
  rw [hb45, hb43, hb32, hb48, hb35]
  simp only [hb45, hb43, hb32, hb48, hb35] at HPN
  have B43 := hide hb43
  have B32 := hide hb32
  have B35 := hide hb35
  have hR : (w.alloc (.cells #[.bool b45, .bool b43, .bool b32, .bool b48, .bool b35, .int .i64 (wd : Int), .int .i64 (pr : Int), .int .u8 117, .int .i64 (kk : Int)] 97)).heap[w.heap.size]? = some (.cells #[.bool b45, .bool b43, .bool b32, .bool b48, .bool b35, .int .i64 (wd : Int), .int .i64 (pr : Int), .int .u8 117, .int .i64 (kk : Int)] 97 (0, 0)) := heap_alloc_new w _
  obtain ⟨W, hW⟩ : ∃ W, w.alloc (.cells #[.bool b45, .bool b43, .bool b32, .bool b48, .bool b35, .int .i64 (wd : Int), .int .i64 (pr : Int), .int .u8 117, .int .i64 (kk : Int)] 97) = W := ⟨_, rfl⟩
  have HB : Hid (Below w.heap.size w W) := hide (by rw [← hW]; exact (Below.refl w.heap.size w).alloc (Nat.le_refl _) _)
  rw [hW] at hR
  have y0 : W.cell? ⟨w.heap.size, 0, none⟩ = some (.bool b45) := by rw [Lib.cell_of_heap hR]; rfl
  have y1 : W.cell? ⟨w.heap.size, 1, none⟩ = some (.bool b43) := by rw [Lib.cell_of_heap hR]; rfl
  have y2 : W.cell? ⟨w.heap.size, 2, none⟩ = some (.bool b32) := by rw [Lib.cell_of_heap hR]; rfl
  have y3 : W.cell? ⟨w.heap.size, 3, none⟩ = some (.bool b48) := by rw [Lib.cell_of_heap hR]; rfl
  have y4 : W.cell? ⟨w.heap.size, 4, none⟩ = some (.bool b35) := by rw [Lib.cell_of_heap hR]; rfl
  have y5 : W.cell? ⟨w.heap.size, 5, none⟩ = some (.int .i64 (wd : Int)) := by rw [Lib.cell_of_heap hR]; rfl
  have y6 : W.cell? ⟨w.heap.size, 6, none⟩ = some (.int .i64 (pr : Int)) := by rw [Lib.cell_of_heap hR]; rfl
  have y7 : W.cell? ⟨w.heap.size, 7, none⟩ = some (.int .u8 117) := by rw [Lib.cell_of_heap hR]; rfl
  have y8 : W.cell? ⟨w.heap.size, 8, none⟩ = some (.int .i64 (kk : Int)) := by rw [Lib.cell_of_heap hR]; rfl
  have HWW := hide hW
  have HRW := hide hR
  obtain ⟨qa, hqa⟩ : ∃ qa, mkB a = qa := ⟨_, rfl⟩
  rw [hqa] at HN ⊢
  clear hR hW hqa hrow hb45 hb43 hb32 hb48 hb35 hS hn her ha
  go_enter Tryz.func41, Tryz.ntmps41
  go_wp2_with fail
  rw [HWW.out]
  refine (HN.out _).mono ?_
  rintro e w2 ⟨rfl, hw2⟩
  have hw3 := hw2.symm
  clear hw2
  subst hw3
  by_cases he : er = 0
  case neg =>
    have e1 : (er != 0) = true := by simpa using he
    have HV2 := hide (HV.out.trans (if_neg he))
    clear he
    go_wp2_with fail
    go_ret2
    refine ⟨?_, HB.out⟩
    rw [HV2.out]; rfl
  case pos =>
    have HV2 := hide (HV.out.trans (if_pos he))
    subst he
    have HBA : Hid (∀ W, Calls Tryz.prog 92 #[.int .u64 ((u64N n : Nat) : Int), .int .u64 10, .bool false] W fun e w' => e = .returned (.string (mkB S)) ∧ w' = W) := hide (fun W => by
      have h := based_f (u64N n) 10 W (u64N_lt n) (by omega) (by omega) (by have := basP_len (b := 10) (by omega) 19 (u64N n) (by have := u64N_lt n; omega); omega)
      rw [HA.out]; exact h)
    have HU : Hid (IntKind.u64.wrap n = ((u64N n : Nat) : Int)) := hide (by rw [IntKind.wrap_u64]; unfold u64N; omega)
    obtain ⟨G, hG1, hG⟩ : ∃ G : List UInt8, G = [] ∧ mkB G = (⟨#[]⟩ : ByteArray) := ⟨_, rfl, rfl⟩
    have HSG2 : Hid (signP (⟨tx, fl, wd, true, pr, 117⟩ : Dv) n = G) := hide (by rw [HSG.out, hG1])
    clear hG1
    have hdummy : True := trivial
    all_goals
      have HNB : Hid (nbrP (⟨tx, fl, wd, true, pr, 117⟩ : Dv) n = G ++ zerP (⟨tx, fl, wd, true, pr, 117⟩ : Dv) G.length (digP (⟨tx, fl, wd, true, pr, 117⟩ : Dv) n)) := hide (by unfold nbrP; rw [HSG2.out])
      obtain ⟨g, hg⟩ : ∃ g, mkB G = g := ⟨_, rfl⟩
      have HG2 := hide hg
      have hgz : G.length ≤ 2 := by rw [← HSG2.out]; exact hgl
      have HGL := hide hG
      clear hG
      go_wp2_with fail
      rw [HU.out]
      with_reducible refine (HBA.out _).mono ?_
      rintro e w3 ⟨rfl, hw2⟩
      have hw3 := hw2.symm
      clear hw2
      subst hw3
      obtain ⟨q, hq⟩ : ∃ q, mkB S = q := ⟨_, rfl⟩
      have hqz : q.size = S.length := by rw [← hq, mkB_size]
      have HQQ := hide hq
      rw [hq]
      clear hq
      have hcz : (∃ S0, (if n = 0 ∧ pr = 0 then [] else S) = S0 ∧ S0 = [] ∧ ((pr : Int) == 0) = true ∧ (n == 0) = true ∧ n = 0) ∨ (∃ S0, (if n = 0 ∧ pr = 0 then [] else S) = S0 ∧ S0 = S ∧ ((pr : Int) == 0) = false) ∨ (∃ S0, (if n = 0 ∧ pr = 0 then [] else S) = S0 ∧ S0 = S ∧ ((pr : Int) == 0) = true ∧ (n == 0) = false) := by
        by_cases hp : pr = 0
        · by_cases hn9 : n = 0
          · exact Or.inl ⟨_, if_pos ⟨hn9, hp⟩, rfl, by simp [hp], by simp [hn9], hn9⟩
          · exact Or.inr (Or.inr ⟨_, if_neg (fun x => hn9 x.1), rfl, by simp [hp], by simpa using hn9⟩)
        · exact Or.inr (Or.inl ⟨_, if_neg (fun x => hp x.2), rfl, by simpa using hp⟩)
      rcases hcz with ⟨S0, hS0, hSS, p0, n0, hn9⟩ | ⟨S0, hS0, hSS, p0⟩ | ⟨S0, hS0, hSS, p0, n0⟩
      · first
          | (exfalso; omega)
          | (exfalso; simp [hn9] at hn0; done)
          | skip
        all_goals
          have HE0 : Hid (digP1 (⟨tx, fl, wd, true, pr, 117⟩ : Dv) n S = List.replicate (pr - S0.length) 48 ++ S0) := hide (by unfold digP1; rw [if_pos rfl, hS0])
          have hs0l : S0.length ≤ 24 := by rw [hSS]; simp
          have HT0 : Hid ((⟨#[]⟩ : ByteArray) = mkB (List.replicate 0 48 ++ S0)) := hide (by rw [hSS]; rfl)
          have hz0 : ((⟨#[]⟩ : ByteArray) : ByteArray).size = 0 + S0.length := by rw [hSS]; rfl
          have HZ0 := hide hz0
          clear hSS hS0 hz0
          clear hn9
          go_wp2_with fail
          go_loopw [13] (fun sv wr => ∃ (i : Nat) (t : ByteArray), sv = .string t ∧ t.size = i + S0.length ∧ (i = 0 ∨ i + S0.length ≤ pr) ∧ Hid (t = mkB (List.replicate i 48 ++ S0)) ∧ Hid (wr.heap[w.heap.size]? = some (.cells #[.bool b45, .bool b43, .bool b32, .bool b48, .bool b35, .int .i64 (wd : Int), .int .i64 (pr : Int), .int .u8 117, .int .i64 (kk : Int)] 97 (0, 0))) ∧ Hid (Below w.heap.size w wr)) (fun sv _ => pr - szSu sv)
          case atStart => exact ⟨0, _, rfl, HZ0.out, Or.inl rfl, HT0, by first | exact HRW | exact hide ((heap_alloc_old _ _ (Array.getElem?_eq_some_iff.1 HRW.out).1).trans HRW.out), by first | exact HB | exact hide (HB.out.alloc HB.out.size _)⟩
          case round =>
            obtain ⟨i, t, rfl, htz, hit, HTI, HRQ, HB⟩ := hrel
            clear y0 y1 y2 y3 y4 y5 y6 y7 y8
            have y0 := Lib.cell_of_heap HRQ.out 0
            have y1 := Lib.cell_of_heap HRQ.out 1
            have y2 := Lib.cell_of_heap HRQ.out 2
            have y3 := Lib.cell_of_heap HRQ.out 3
            have y4 := Lib.cell_of_heap HRQ.out 4
            have y5 := Lib.cell_of_heap HRQ.out 5
            have y6 := Lib.cell_of_heap HRQ.out 6
            have y7 := Lib.cell_of_heap HRQ.out 7
            have y8 := Lib.cell_of_heap HRQ.out 8
            simp at y0 y1 y2 y3 y4 y5 y6 y7 y8
            have HTZ := hide htz
            have htb : t.size ≤ 1100 := by omega
            by_cases hlt : t.size < pr
            · have l0 : (t.size : Int) < (pr : Int) := by omega
              have hi2 : i + 1 + S0.length ≤ pr := by omega
              have HT2 : Hid ((⟨#[48]⟩ : ByteArray) ++ t = mkB (List.replicate (i + 1) 48 ++ S0)) := hide (by
                rw [HTI.out, show (⟨#[48]⟩ : ByteArray) = mkB [48] from rfl, mkB_app', List.replicate_succ]; rfl)
              have HZ2 : Hid (((⟨#[48]⟩ : ByteArray) ++ t).size = i + 1 + S0.length) := hide (by rw [HT2.out, mkB_size, List.length_append, List.length_replicate])
              have HME : Hid (pr - szSu (.string ((⟨#[48]⟩ : ByteArray) ++ t)) < pr - szSu (.string t)) := hide (by
                show pr - ((⟨#[48]⟩ : ByteArray) ++ t).size < pr - t.size
                have := HZ2.out
                omega)
              clear htz hit
              go_wp2_with fail
              go_roundw
              case rel => exact ⟨i + 1, _, rfl, HZ2.out, Or.inr hi2, HT2, HRQ, HB⟩
              case measure => exact HME.out
            · have l0 : ¬ (t.size : Int) < (pr : Int) := by omega
              have hii : i = pr - S0.length := by omega
              have HE1 : Hid (digP1 (⟨tx, fl, wd, true, pr, 117⟩ : Dv) n S = List.replicate i 48 ++ S0) := hide (by rw [HE0.out, hii])
              have HTT : Hid (mkB (List.replicate i 48 ++ S0) = t) := hide HTI.out.symm
              have hTl : (List.replicate i 48 ++ S0).length ≤ 1100 := by rw [List.length_append, List.length_replicate]; omega
              clear htz hit hii
              have HDG : Hid (digP (⟨tx, fl, wd, true, pr, 117⟩ : Dv) n = List.replicate i 48 ++ S0) := hide (by rw [HDP.out, HE1.out]; unfold digP2; rw [if_neg (fun x => absurd x.1 (by dsimp only; decide))])
              have HPD := hide (HPN.out G (List.replicate i 48 ++ S0) (by omega) (by omega) wr)
              rw [HGL.out] at HPD
              rw [HTT.out] at HPD
              go_wp2_with fail
              with_reducible refine HPD.out.mono ?_
              rintro e w5 ⟨rfl, hb⟩
              have HB5 := hide (HB.out.trans (hb.mono HB.out.size))
              clear hb
              go_wp2_with fail
              go_ret2
              refine ⟨?_, HB5.out⟩
              rw [HV2.out, HNB.out, HDG.out]
              rfl
      · have HE0 : Hid (digP1 (⟨tx, fl, wd, true, pr, 117⟩ : Dv) n S = List.replicate (pr - S0.length) 48 ++ S0) := hide (by unfold digP1; rw [if_pos rfl, hS0])
        have hs0l : S0.length ≤ 24 := by rw [hSS]; exact hda
        have HT0 : Hid (q = mkB (List.replicate 0 48 ++ S0)) := hide (by rw [hSS]; rw [← HQQ.out]; rfl)
        have hz0 : (q : ByteArray).size = 0 + S0.length := by rw [hSS]; rw [hqz]; omega
        have HZ0 := hide hz0
        clear hSS hS0 hz0
        go_wp2_with fail
        go_loopw [13] (fun sv wr => ∃ (i : Nat) (t : ByteArray), sv = .string t ∧ t.size = i + S0.length ∧ (i = 0 ∨ i + S0.length ≤ pr) ∧ Hid (t = mkB (List.replicate i 48 ++ S0)) ∧ Hid (wr.heap[w.heap.size]? = some (.cells #[.bool b45, .bool b43, .bool b32, .bool b48, .bool b35, .int .i64 (wd : Int), .int .i64 (pr : Int), .int .u8 117, .int .i64 (kk : Int)] 97 (0, 0))) ∧ Hid (Below w.heap.size w wr)) (fun sv _ => pr - szSu sv)
        case atStart => exact ⟨0, _, rfl, HZ0.out, Or.inl rfl, HT0, by first | exact HRW | exact hide ((heap_alloc_old _ _ (Array.getElem?_eq_some_iff.1 HRW.out).1).trans HRW.out), by first | exact HB | exact hide (HB.out.alloc HB.out.size _)⟩
        case round =>
          obtain ⟨i, t, rfl, htz, hit, HTI, HRQ, HB⟩ := hrel
          clear y0 y1 y2 y3 y4 y5 y6 y7 y8
          have y0 := Lib.cell_of_heap HRQ.out 0
          have y1 := Lib.cell_of_heap HRQ.out 1
          have y2 := Lib.cell_of_heap HRQ.out 2
          have y3 := Lib.cell_of_heap HRQ.out 3
          have y4 := Lib.cell_of_heap HRQ.out 4
          have y5 := Lib.cell_of_heap HRQ.out 5
          have y6 := Lib.cell_of_heap HRQ.out 6
          have y7 := Lib.cell_of_heap HRQ.out 7
          have y8 := Lib.cell_of_heap HRQ.out 8
          simp at y0 y1 y2 y3 y4 y5 y6 y7 y8
          have HTZ := hide htz
          have htb : t.size ≤ 1100 := by omega
          by_cases hlt : t.size < pr
          · have l0 : (t.size : Int) < (pr : Int) := by omega
            have hi2 : i + 1 + S0.length ≤ pr := by omega
            have HT2 : Hid ((⟨#[48]⟩ : ByteArray) ++ t = mkB (List.replicate (i + 1) 48 ++ S0)) := hide (by
              rw [HTI.out, show (⟨#[48]⟩ : ByteArray) = mkB [48] from rfl, mkB_app', List.replicate_succ]; rfl)
            have HZ2 : Hid (((⟨#[48]⟩ : ByteArray) ++ t).size = i + 1 + S0.length) := hide (by rw [HT2.out, mkB_size, List.length_append, List.length_replicate])
            have HME : Hid (pr - szSu (.string ((⟨#[48]⟩ : ByteArray) ++ t)) < pr - szSu (.string t)) := hide (by
              show pr - ((⟨#[48]⟩ : ByteArray) ++ t).size < pr - t.size
              have := HZ2.out
              omega)
            clear htz hit
            go_wp2_with fail
            go_roundw
            case rel => exact ⟨i + 1, _, rfl, HZ2.out, Or.inr hi2, HT2, HRQ, HB⟩
            case measure => exact HME.out
          · have l0 : ¬ (t.size : Int) < (pr : Int) := by omega
            have hii : i = pr - S0.length := by omega
            have HE1 : Hid (digP1 (⟨tx, fl, wd, true, pr, 117⟩ : Dv) n S = List.replicate i 48 ++ S0) := hide (by rw [HE0.out, hii])
            have HTT : Hid (mkB (List.replicate i 48 ++ S0) = t) := hide HTI.out.symm
            have hTl : (List.replicate i 48 ++ S0).length ≤ 1100 := by rw [List.length_append, List.length_replicate]; omega
            clear htz hit hii
            have HDG : Hid (digP (⟨tx, fl, wd, true, pr, 117⟩ : Dv) n = List.replicate i 48 ++ S0) := hide (by rw [HDP.out, HE1.out]; unfold digP2; rw [if_neg (fun x => absurd x.1 (by dsimp only; decide))])
            have HPD := hide (HPN.out G (List.replicate i 48 ++ S0) (by omega) (by omega) wr)
            rw [HGL.out] at HPD
            rw [HTT.out] at HPD
            go_wp2_with fail
            with_reducible refine HPD.out.mono ?_
            rintro e w5 ⟨rfl, hb⟩
            have HB5 := hide (HB.out.trans (hb.mono HB.out.size))
            clear hb
            go_wp2_with fail
            go_ret2
            refine ⟨?_, HB5.out⟩
            rw [HV2.out, HNB.out, HDG.out]
            rfl
      · have HE0 : Hid (digP1 (⟨tx, fl, wd, true, pr, 117⟩ : Dv) n S = List.replicate (pr - S0.length) 48 ++ S0) := hide (by unfold digP1; rw [if_pos rfl, hS0])
        have hs0l : S0.length ≤ 24 := by rw [hSS]; exact hda
        have HT0 : Hid (q = mkB (List.replicate 0 48 ++ S0)) := hide (by rw [hSS]; rw [← HQQ.out]; rfl)
        have hz0 : (q : ByteArray).size = 0 + S0.length := by rw [hSS]; rw [hqz]; omega
        have HZ0 := hide hz0
        clear hSS hS0 hz0
        go_wp2_with fail
        go_loopw [13] (fun sv wr => ∃ (i : Nat) (t : ByteArray), sv = .string t ∧ t.size = i + S0.length ∧ (i = 0 ∨ i + S0.length ≤ pr) ∧ Hid (t = mkB (List.replicate i 48 ++ S0)) ∧ Hid (wr.heap[w.heap.size]? = some (.cells #[.bool b45, .bool b43, .bool b32, .bool b48, .bool b35, .int .i64 (wd : Int), .int .i64 (pr : Int), .int .u8 117, .int .i64 (kk : Int)] 97 (0, 0))) ∧ Hid (Below w.heap.size w wr)) (fun sv _ => pr - szSu sv)
        case atStart => exact ⟨0, _, rfl, HZ0.out, Or.inl rfl, HT0, by first | exact HRW | exact hide ((heap_alloc_old _ _ (Array.getElem?_eq_some_iff.1 HRW.out).1).trans HRW.out), by first | exact HB | exact hide (HB.out.alloc HB.out.size _)⟩
        case round =>
          obtain ⟨i, t, rfl, htz, hit, HTI, HRQ, HB⟩ := hrel
          clear y0 y1 y2 y3 y4 y5 y6 y7 y8
          have y0 := Lib.cell_of_heap HRQ.out 0
          have y1 := Lib.cell_of_heap HRQ.out 1
          have y2 := Lib.cell_of_heap HRQ.out 2
          have y3 := Lib.cell_of_heap HRQ.out 3
          have y4 := Lib.cell_of_heap HRQ.out 4
          have y5 := Lib.cell_of_heap HRQ.out 5
          have y6 := Lib.cell_of_heap HRQ.out 6
          have y7 := Lib.cell_of_heap HRQ.out 7
          have y8 := Lib.cell_of_heap HRQ.out 8
          simp at y0 y1 y2 y3 y4 y5 y6 y7 y8
          have HTZ := hide htz
          have htb : t.size ≤ 1100 := by omega
          by_cases hlt : t.size < pr
          · have l0 : (t.size : Int) < (pr : Int) := by omega
            have hi2 : i + 1 + S0.length ≤ pr := by omega
            have HT2 : Hid ((⟨#[48]⟩ : ByteArray) ++ t = mkB (List.replicate (i + 1) 48 ++ S0)) := hide (by
              rw [HTI.out, show (⟨#[48]⟩ : ByteArray) = mkB [48] from rfl, mkB_app', List.replicate_succ]; rfl)
            have HZ2 : Hid (((⟨#[48]⟩ : ByteArray) ++ t).size = i + 1 + S0.length) := hide (by rw [HT2.out, mkB_size, List.length_append, List.length_replicate])
            have HME : Hid (pr - szSu (.string ((⟨#[48]⟩ : ByteArray) ++ t)) < pr - szSu (.string t)) := hide (by
              show pr - ((⟨#[48]⟩ : ByteArray) ++ t).size < pr - t.size
              have := HZ2.out
              omega)
            clear htz hit
            go_wp2_with fail
            go_roundw
            case rel => exact ⟨i + 1, _, rfl, HZ2.out, Or.inr hi2, HT2, HRQ, HB⟩
            case measure => exact HME.out
          · have l0 : ¬ (t.size : Int) < (pr : Int) := by omega
            have hii : i = pr - S0.length := by omega
            have HE1 : Hid (digP1 (⟨tx, fl, wd, true, pr, 117⟩ : Dv) n S = List.replicate i 48 ++ S0) := hide (by rw [HE0.out, hii])
            have HTT : Hid (mkB (List.replicate i 48 ++ S0) = t) := hide HTI.out.symm
            have hTl : (List.replicate i 48 ++ S0).length ≤ 1100 := by rw [List.length_append, List.length_replicate]; omega
            clear htz hit hii
            have HDG : Hid (digP (⟨tx, fl, wd, true, pr, 117⟩ : Dv) n = List.replicate i 48 ++ S0) := hide (by rw [HDP.out, HE1.out]; unfold digP2; rw [if_neg (fun x => absurd x.1 (by dsimp only; decide))])
            have HPD := hide (HPN.out G (List.replicate i 48 ++ S0) (by omega) (by omega) wr)
            rw [HGL.out] at HPD
            rw [HTT.out] at HPD
            go_wp2_with fail
            with_reducible refine HPD.out.mono ?_
            rintro e w5 ⟨rfl, hb⟩
            have HB5 := hide (HB.out.trans (hb.mono HB.out.size))
            clear hb
            go_wp2_with fail
            go_ret2
            refine ⟨?_, HB5.out⟩
            rw [HV2.out, HNB.out, HDG.out]
            rfl
end Go.Proofs.YtifpmigghplmoaaGreatDoor
