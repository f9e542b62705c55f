/- The reference's Numbered. -/
import Derived.Test.YtbelbgfigmbobaaGreatDoorNumbW
set_option linter.unusedVariables false
set_option linter.unusedSimpArgs false
namespace Go.Pw
open Go.RowKit
theorem ext_one (q : ByteArray) : q.extract 1 q.size = mkB (q.data.toList.drop 1) := by
  rw [← mkB_list (q.extract 1 q.size)]
  congr 1
  have h := len_size q
  rw [ByteArray.data_extract, Array.toList_extract, List.extract_eq_take_drop, ← h]
  rw [List.take_of_length_le (by rw [List.length_drop]; omega)]
end Go.Pw
namespace Go.Proofs.YtbelbgfigmbobaaGreatDoor
open Go.RowKit Go.Pw
set_option maxHeartbeats 16000000 in
set_option maxRecDepth 100000 in
theorem numbered_any (o : Nb) (lv : Value) (L : List ByteArray) (w : World) (ho : o.good) (h : Strs w lv L) (hln : L.length ≤ 4096) (hls : ∀ x ∈ L, x.size ≤ 65536) (hT : PowTab w) :
    Calls Tryz.prog 37 #[nbV o, lv] w fun e w' => ∃ v, e = .returned v ∧ OwnS 9 w' (w.heap.size + 1) v (numTo o L L.length).1 ∧ Below w.heap.size w w' := by
  have hbn := (Below.refl w.heap.size w).alloc (Nat.le_refl _) (.cells #[.int .i64 o.start, .int .i64 o.step, .int .i64 o.width, .bool o.zeros, .bool o.empty, .string o.sep] 64)
  have hnn : NbIn (w.alloc (.cells #[.int .i64 o.start, .int .i64 o.step, .int .i64 o.width, .bool o.zeros, .bool o.empty, .string o.sep] 64)) w.heap.size 64 o := heap_alloc_new _ _
  obtain ⟨W1, hW1⟩ : ∃ W1, w.alloc (.cells #[.int .i64 o.start, .int .i64 o.step, .int .i64 o.width, .bool o.zeros, .bool o.empty, .string o.sep] 64) = W1 := ⟨_, rfl⟩
  rw [hW1] at hbn hnn
  have ho' := ho
  obtain ⟨⟨ho1, ho2⟩, ⟨ho3, ho4⟩, ⟨ho5, ho6⟩, ho7⟩ := ho'
  have hz1 : W1.heap.size = w.heap.size + 1 := by rw [← hW1]; simp
  have hst := h.below hbn
  obtain ⟨⟨_, LA, lc, rfl, hcap, hmax, hx⟩, _⟩ := hst
  have HX := hide hx
  unfold maxLen at hmax
  have HIT := hide (fun (n : Int) W (hb : Below w.heap.size w W) h0 h1 => itoa_any n W h0 h1 (hT.below hb))
  have HNN := hide (fun k => numTo_num ho L k)
  have HLS := hide hls
  have HLN := hide hln
  have HB4 := hide hbn
  have HN4 := hide hnn
  have HCz0 : Hid (w.heap.size ≤ W1.heap.size) := hide hbn.size
  have HUL : Hid (w.heap.size < W1.heap.size) := hide hnn.lt
  have HW1 := hide hW1
  have HZ1 := hide hz1
  obtain ⟨d0, d1, d2, d3, d4, d5⟩ := hnn.cells
  unfold nbV
  clear hbn hnn hW1 hz1 hls ho hx h
  go_enter Tryz.func37, Tryz.ntmps37
  go_wp2_with fail
  (try rw [HW1.out])
  clear d0 d1 d2 d3 d4 d5
  go_loopw [5, 6, 15] (fun v nv i wr => NbAt 64 9 o L w W1 nv v i wr) (fun _ _ i _ => L.length - (intOf i).toNat)
  case atStart => exact ⟨0, by omega, rfl, rfl, World.ownsRow_nil _ _ _ _, Below.refl _ _, HB4, HN4⟩
  case round =>
    obtain ⟨k, hk, rfl, rfl, HO, HB, HC, HN⟩ := hrel
    obtain ⟨OA, oc, rfl⟩ := own_slice HO.out
    have hdl := numTo_len o L k
    have hnn := HNN.out k
    by_cases hlt : k < L.length
    · have hd : (k : Int) < (L.length : Int) := by omega
      obtain ⟨b3, o3, rfl, hb3, hj3⟩ := HX.out (by omega)
      have cy : wr.cell? ⟨b3, o3 + k, none⟩ = some (.string L[k]) := (HB.out.cell (p := ⟨b3, o3 + k, none⟩) hb3).trans (hj3 k _ (by simp [hlt]))
      have hys := HLS.out L[k] (List.getElem_mem hlt)
      have HNX : Hid (numTo o L (k + 1) = if (L[k].size == 0) && !o.empty then ((numTo o L k).1 ++ [L[k]], (numTo o L k).2) else ((numTo o L k).1 ++ [numLine o (numTo o L k).2 L[k]], (numTo o L k).2 + o.step)) := hide (by
        conv => lhs; rw [numTo]
        simp [List.getD, hlt])
      obtain ⟨y, hy⟩ : ∃ y, L[k] = y := ⟨_, rfl⟩
      rw [hy] at cy hys HNX
      obtain ⟨D, hD⟩ : ∃ D, (numTo o L k).1 = D := ⟨_, rfl⟩
      obtain ⟨N, hN⟩ : ∃ N, (numTo o L k).2 = N := ⟨_, rfl⟩
      rw [hD] at HO HNX hdl ⊢
      rw [hN] at HNX hnn ⊢
      have HDL : Hid (D.length ≤ 1000000000) := hide (by omega)
      have hzz := HB.out.size
      have hn1 : -5000000000 ≤ N := by omega
      have hn2 : N ≤ 5000000000 := by omega
      clear hj3 hb3 hy hD hN hdl hnn
      obtain ⟨d0, d1, d2, d3, d4, d5⟩ := HN.out.cells
      by_cases hy0 : y.size = 0
      · obtain rfl := empty_of hy0
        rcases Bool.eq_false_or_eq_true o.empty with hem | hem
        · have HNX1 : Hid (numTo o L (k + 1) = (D ++ [numLine o N (⟨#[]⟩ : ByteArray)], N + o.step)) := hide (by rw [HNX.out, hem]; rfl)
          rw [hem] at d4
          clear hem HNX hy0
          have hil := Lib.itoa_length_le N (by omega) (by omega)
          have hip := itoa_pos_len N
          have HIM := hide (HIT.out N wr HC.out (by omega) (by omega))
          have HNX1 : Hid (numTo o L (k + 1) = (D ++ [numLine o N (⟨#[]⟩ : ByteArray)], N + o.step)) := HNX1
          go_wp2_with fail
          refine HIM.out.mono ?_
          rintro e wi ⟨rfl, hbi⟩
          have HO5 : Hid (OwnS 9 wi W1.heap.size (.slice OA D.length oc) D) := hide (own_below HO.out hbi)
          have HB5 := hide (HB.out.trans (hbi.mono HB.out.size))
          have HC5 := hide (HC.out.trans (hbi.mono HC.out.size))
          have HN5 := hide (HN.out.below hbi HN.out.lt)
          have hzz := HB5.out.size
          clear hbi HO HB HC HN d0 d1 d2 d3 d4 d5 cy HIM
          obtain ⟨d0, d1, d2, d3, d4, d5⟩ := HN5.out.cells
          obtain ⟨q, hq⟩ : ∃ q, (⟨(Lib.itoa N).toArray⟩ : ByteArray) = q := ⟨_, rfl⟩
          have hql : q.data.toList = Lib.itoa N := by rw [← hq]
          have HQS : Hid (q.size = (Lib.itoa N).length) := hide (by rw [← hq]; simp [ByteArray.size])
          have hqz : q.size ≤ 21 ∧ 1 ≤ q.size := by rw [HQS.out]; omega
          obtain ⟨hqz1, hqz2⟩ := hqz
          rw [hq]
          clear hq
          rcases Bool.eq_false_or_eq_true o.zeros with hze | hze
          · rw [hze] at d3
            by_cases hneg : N < 0
            · have hq1 : (1 : Int) ≤ (q.size : Int) := by omega
              obtain ⟨B0, hB0⟩ : ∃ B0, (Lib.itoa N).drop 1 = B0 := ⟨_, rfl⟩
              have hB0l : B0.length + 1 = (Lib.itoa N).length := by rw [← hB0, List.length_drop]; omega
              have HEX : Hid (q.extract 1 q.size = mkB B0) := hide (by
                rw [← hB0, ← hql]
                exact ext_one q)
              have HSG : Hid ((⟨#[45]⟩ : ByteArray) ++ mkB (List.replicate (o.width.toNat - (1 + B0.length)) 48 ++ B0) = mkB (fillN N o.width.toNat o.zeros)) := hide (by
                show mkB [45] ++ _ = _
                unfold fillN
                rw [mkB_app', hze, show decide (N < 0) = true by simpa using hneg, show 1 + B0.length = (Lib.itoa N).length by omega, hB0]
                rfl)
              have hdn : decide (N < 0) = true := by simpa using hneg
              have HZE := hide hze
              clear hze hB0 hql
              go_wp2_with fail
              go_quiet (fail)
              have HO5 : Hid (OwnS 9 (wi.drewN nq) W1.heap.size (.slice OA D.length oc) D) := hide HO5.out
              have HB5 := hide (below_drewN HB5.out nq)
              have HC5 := hide (below_drewN HC5.out nq)
              have HN5 : Hid (NbIn (wi.drewN nq) w.heap.size 64 o) := hide HN5.out
              have hd3 : (wi.drewN nq).cell? ⟨w.heap.size, 3, none⟩ = some (.bool true) := d3
              obtain ⟨wj, hwj⟩ : ∃ wj, wi.drewN nq = wj := ⟨_, rfl⟩
              rw [hwj] at HO5 HB5 HC5 HN5 hd3 ⊢
              clear hwj d0 d1 d2 d3 d4 d5
              obtain ⟨d0, d1, d2, _, d4, d5⟩ := HN5.out.cells
              rename wj.cell? ⟨w.heap.size, 3, none⟩ = some (.bool o.zeros) => hd4
              have d3 := hd3
              clear hd3 hd4
              have hzz := HB5.out.size
              rw [HEX.out]
              clear hq1
              go_wp2_with fail
              obtain ⟨M, hM⟩ : ∃ M : Nat, o.width.toNat - (1 + B0.length) = M := ⟨_, rfl⟩
              have hMl : M ≤ 1000 := by omega
              have HZ : Hid (((⟨#[45]⟩ : ByteArray) ++ mkB (List.replicate M 48 ++ B0)) = mkB (fillN N o.width.toNat o.zeros)) := hide (by
                rw [← hM]
                exact HSG.out)
              have hb0 : mkB B0 = mkB (List.replicate 0 48 ++ B0) := rfl
              have hml : ∀ j, (mkB (List.replicate j 48 ++ B0)).size = j + B0.length := fun j => by rw [mkB_size, List.length_append, List.length_replicate]
              have HML := hide hml
              rw [hb0]
              clear hb0 hml
              go_loop [9] (fun sv => ∃ j : Nat, j ≤ M ∧ sv = .string (mkB (List.replicate j 48 ++ B0))) (fun sv => M - (strLen sv - B0.length))
              case atStart => exact ⟨0, by omega, rfl⟩
              case round =>
                obtain ⟨j, hj, rfl⟩ := hrel
                have hsz := HML.out j
                by_cases hjm : j < M
                · have HNXS : Hid ((⟨#[48]⟩ : ByteArray) ++ mkB (List.replicate j 48 ++ B0) = mkB (List.replicate (j + 1) 48 ++ B0)) := hide (by
                    show mkB [48] ++ _ = _
                    rw [mkB_app']; rfl)
                  have hsz2 := HML.out (j + 1)
                  obtain ⟨S, hS⟩ : ∃ S, mkB (List.replicate j 48 ++ B0) = S := ⟨_, rfl⟩
                  rw [hS] at HNXS hsz ⊢
                  have hdw : 1 + (S.size : Int) < o.width := by omega
                  clear hS
                  go_wp2_with fail
                  go_round
                  case rel => exact ⟨j + 1, by omega, by rw [HNXS.out]⟩
                  case measure => simp only [strLen, ByteArray.size_append]; rw [show (⟨#[48]⟩ : ByteArray).size = 1 from rfl]; omega
                · obtain rfl : j = M := by omega
                  obtain ⟨S, hS⟩ : ∃ S, mkB (List.replicate j 48 ++ B0) = S := ⟨_, rfl⟩
                  rw [hS] at HZ hsz ⊢
                  have hdw : ¬ (1 + (S.size : Int) < o.width) := by omega
                  have HNX2 : Hid (numTo o L (k + 1) = (D ++ [(((⟨#[45]⟩ : ByteArray) ++ S) ++ o.sep) ++ (⟨#[]⟩ : ByteArray)], N + o.step)) := hide (by rw [HNX1.out]; unfold numLine; rw [HZ.out])
                  have hss : S.size ≤ 2000 := by omega
                  clear hS
                  go_wp2_with (at_builtin; refine wpList_app_one rfl _ _ rfl W1.heap.size _ _ rfl HO5.out rfl HDL.out hzz ?_)
                  intro A2 c2 w6 ho6 hb6
                  have HO6 := hide ho6
                  have HB6 := hide (HB5.out.trans hb6)
                  have HC6 := hide (HC5.out.trans (hb6.mono HCz0.out))
                  have HN6 := hide (HN5.out.below hb6 HUL.out)
                  clear ho6 hb6 d0 d1 d2 d3 d4 d5
                  obtain ⟨d0, d1, d2, d3, d4, d5⟩ := HN6.out.cells
                  go_wp2_with fail
                  go_roundw
                  case rel => exact ⟨k + 1, by omega, by go_num, by rw [HNX2.out], by rw [HNX2.out]; skip; exact HO6, HB6, HC6, HN6⟩
                  case measure => simp [intOf]; omega
            · have HSG : Hid ((⟨#[]⟩ : ByteArray) ++ mkB (List.replicate (o.width.toNat - (0 + (Lib.itoa N).length)) 48 ++ Lib.itoa N) = mkB (fillN N o.width.toNat o.zeros)) := hide (by
                show mkB [] ++ _ = _
                unfold fillN
                rw [mkB_app', hze, show decide (N < 0) = false by simpa using hneg, Nat.zero_add]
                rfl)
              obtain ⟨B0, hB0⟩ : ∃ B0, Lib.itoa N = B0 := ⟨_, rfl⟩
              rw [hB0] at HSG hil hip HQS hql
              have hqm : q = mkB B0 := by rw [← mkB_list q, hql]
              rw [hqm]
              have hdn : decide (N < 0) = false := by simpa using hneg
              have HZE := hide hze
              clear hze hB0 hql hqm HQS hqz1 hqz2
              go_wp2_with fail
              obtain ⟨M, hM⟩ : ∃ M : Nat, o.width.toNat - (0 + B0.length) = M := ⟨_, rfl⟩
              have hMl : M ≤ 1000 := by omega
              have HZ : Hid (((⟨#[]⟩ : ByteArray) ++ mkB (List.replicate M 48 ++ B0)) = mkB (fillN N o.width.toNat o.zeros)) := hide (by
                rw [← hM]
                exact HSG.out)
              have hb0 : mkB B0 = mkB (List.replicate 0 48 ++ B0) := rfl
              have hml : ∀ j, (mkB (List.replicate j 48 ++ B0)).size = j + B0.length := fun j => by rw [mkB_size, List.length_append, List.length_replicate]
              have HML := hide hml
              rw [hb0]
              clear hb0 hml
              go_loop [9] (fun sv => ∃ j : Nat, j ≤ M ∧ sv = .string (mkB (List.replicate j 48 ++ B0))) (fun sv => M - (strLen sv - B0.length))
              case atStart => exact ⟨0, by omega, rfl⟩
              case round =>
                obtain ⟨j, hj, rfl⟩ := hrel
                have hsz := HML.out j
                by_cases hjm : j < M
                · have HNXS : Hid ((⟨#[48]⟩ : ByteArray) ++ mkB (List.replicate j 48 ++ B0) = mkB (List.replicate (j + 1) 48 ++ B0)) := hide (by
                    show mkB [48] ++ _ = _
                    rw [mkB_app']; rfl)
                  have hsz2 := HML.out (j + 1)
                  obtain ⟨S, hS⟩ : ∃ S, mkB (List.replicate j 48 ++ B0) = S := ⟨_, rfl⟩
                  rw [hS] at HNXS hsz ⊢
                  have hdw : (S.size : Int) < o.width := by omega
                  clear hS
                  go_wp2_with fail
                  go_round
                  case rel => exact ⟨j + 1, by omega, by rw [HNXS.out]⟩
                  case measure => simp only [strLen, ByteArray.size_append]; rw [show (⟨#[48]⟩ : ByteArray).size = 1 from rfl]; omega
                · obtain rfl : j = M := by omega
                  obtain ⟨S, hS⟩ : ∃ S, mkB (List.replicate j 48 ++ B0) = S := ⟨_, rfl⟩
                  rw [hS] at HZ hsz ⊢
                  have hdw : ¬ ((S.size : Int) < o.width) := by omega
                  have HNX2 : Hid (numTo o L (k + 1) = (D ++ [(((⟨#[]⟩ : ByteArray) ++ S) ++ o.sep) ++ (⟨#[]⟩ : ByteArray)], N + o.step)) := hide (by rw [HNX1.out]; unfold numLine; rw [HZ.out])
                  have hss : S.size ≤ 2000 := by omega
                  clear hS
                  go_wp2_with (at_builtin; refine wpList_app_one rfl _ _ rfl W1.heap.size _ _ rfl HO5.out rfl HDL.out hzz ?_)
                  intro A2 c2 w6 ho6 hb6
                  have HO6 := hide ho6
                  have HB6 := hide (HB5.out.trans hb6)
                  have HC6 := hide (HC5.out.trans (hb6.mono HCz0.out))
                  have HN6 := hide (HN5.out.below hb6 HUL.out)
                  clear ho6 hb6 d0 d1 d2 d3 d4 d5
                  obtain ⟨d0, d1, d2, d3, d4, d5⟩ := HN6.out.cells
                  go_wp2_with fail
                  go_roundw
                  case rel => exact ⟨k + 1, by omega, by go_num, by rw [HNX2.out], by rw [HNX2.out]; skip; exact HO6, HB6, HC6, HN6⟩
                  case measure => simp [intOf]; omega
          · rw [hze] at d3
            have HSG : Hid ((⟨#[]⟩ : ByteArray) ++ mkB (List.replicate (o.width.toNat - (0 + (Lib.itoa N).length)) 32 ++ Lib.itoa N) = mkB (fillN N o.width.toNat o.zeros)) := hide (by
              show mkB [] ++ _ = _
              unfold fillN
              rw [mkB_app', hze, Nat.zero_add]
              rfl)
            obtain ⟨B0, hB0⟩ : ∃ B0, Lib.itoa N = B0 := ⟨_, rfl⟩
            rw [hB0] at HSG hil hip HQS hql
            have hqm : q = mkB B0 := by rw [← mkB_list q, hql]
            rw [hqm]
            have HZE := hide hze
            clear hze hB0 hql hqm HQS hqz1 hqz2
            go_wp2_with fail
            obtain ⟨M, hM⟩ : ∃ M : Nat, o.width.toNat - (0 + B0.length) = M := ⟨_, rfl⟩
            have hMl : M ≤ 1000 := by omega
            have HZ : Hid (((⟨#[]⟩ : ByteArray) ++ mkB (List.replicate M 32 ++ B0)) = mkB (fillN N o.width.toNat o.zeros)) := hide (by
              rw [← hM]
              exact HSG.out)
            have hb0 : mkB B0 = mkB (List.replicate 0 32 ++ B0) := rfl
            have hml : ∀ j, (mkB (List.replicate j 32 ++ B0)).size = j + B0.length := fun j => by rw [mkB_size, List.length_append, List.length_replicate]
            have HML := hide hml
            rw [hb0]
            clear hb0 hml
            go_loop [9] (fun sv => ∃ j : Nat, j ≤ M ∧ sv = .string (mkB (List.replicate j 32 ++ B0))) (fun sv => M - (strLen sv - B0.length))
            case atStart => exact ⟨0, by omega, rfl⟩
            case round =>
              obtain ⟨j, hj, rfl⟩ := hrel
              have hsz := HML.out j
              by_cases hjm : j < M
              · have HNXS : Hid ((⟨#[32]⟩ : ByteArray) ++ mkB (List.replicate j 32 ++ B0) = mkB (List.replicate (j + 1) 32 ++ B0)) := hide (by
                  show mkB [32] ++ _ = _
                  rw [mkB_app']; rfl)
                have hsz2 := HML.out (j + 1)
                obtain ⟨S, hS⟩ : ∃ S, mkB (List.replicate j 32 ++ B0) = S := ⟨_, rfl⟩
                rw [hS] at HNXS hsz ⊢
                have hdw : (S.size : Int) < o.width := by omega
                clear hS
                go_wp2_with fail
                go_round
                case rel => exact ⟨j + 1, by omega, by rw [HNXS.out]⟩
                case measure => simp only [strLen, ByteArray.size_append]; rw [show (⟨#[32]⟩ : ByteArray).size = 1 from rfl]; omega
              · obtain rfl : j = M := by omega
                obtain ⟨S, hS⟩ : ∃ S, mkB (List.replicate j 32 ++ B0) = S := ⟨_, rfl⟩
                rw [hS] at HZ hsz ⊢
                have hdw : ¬ ((S.size : Int) < o.width) := by omega
                have HNX2 : Hid (numTo o L (k + 1) = (D ++ [(((⟨#[]⟩ : ByteArray) ++ S) ++ o.sep) ++ (⟨#[]⟩ : ByteArray)], N + o.step)) := hide (by rw [HNX1.out]; unfold numLine; rw [HZ.out])
                have hss : S.size ≤ 2000 := by omega
                clear hS
                go_wp2_with (at_builtin; refine wpList_app_one rfl _ _ rfl W1.heap.size _ _ rfl HO5.out rfl HDL.out hzz ?_)
                intro A2 c2 w6 ho6 hb6
                have HO6 := hide ho6
                have HB6 := hide (HB5.out.trans hb6)
                have HC6 := hide (HC5.out.trans (hb6.mono HCz0.out))
                have HN6 := hide (HN5.out.below hb6 HUL.out)
                clear ho6 hb6 d0 d1 d2 d3 d4 d5
                obtain ⟨d0, d1, d2, d3, d4, d5⟩ := HN6.out.cells
                go_wp2_with fail
                go_roundw
                case rel => exact ⟨k + 1, by omega, by go_num, by rw [HNX2.out], by rw [HNX2.out]; skip; exact HO6, HB6, HC6, HN6⟩
                case measure => simp [intOf]; omega
        · have HNX2 : Hid (numTo o L (k + 1) = (D ++ [(⟨#[]⟩ : ByteArray)], N)) := hide (by rw [HNX.out, hem]; rfl)
          rw [hem] at d4
          clear hem HNX hy0
          go_wp2_with (at_builtin; refine wpList_app_one rfl _ _ rfl W1.heap.size _ _ rfl HO.out rfl HDL.out hzz ?_)
          intro A2 c2 w6 ho6 hb6
          have HO6 := hide ho6
          have HB6 := hide (HB.out.trans hb6)
          have HC6 := hide (HC.out.trans (hb6.mono HCz0.out))
          have HN6 := hide (HN.out.below hb6 HUL.out)
          clear ho6 hb6
          go_wp2_with fail
          go_roundw
          case rel => exact ⟨k + 1, by omega, by go_num, by rw [HNX2.out], by rw [HNX2.out]; exact HO6, HB6, HC6, HN6⟩
          case measure => simp [intOf]; omega
      · have he := isEmpty_of (s := y) (by omega)
        have HNX1 : Hid (numTo o L (k + 1) = (D ++ [numLine o N y], N + o.step)) := hide (by rw [HNX.out, show (y.size == 0) = false by simpa using hy0]; rfl)
        clear HNX hy0
        have hil := Lib.itoa_length_le N (by omega) (by omega)
        have hip := itoa_pos_len N
        have HIM := hide (HIT.out N wr HC.out (by omega) (by omega))
        have HNX1 : Hid (numTo o L (k + 1) = (D ++ [numLine o N y], N + o.step)) := HNX1
        go_wp2_with fail
        refine HIM.out.mono ?_
        rintro e wi ⟨rfl, hbi⟩
        have HO5 : Hid (OwnS 9 wi W1.heap.size (.slice OA D.length oc) D) := hide (own_below HO.out hbi)
        have HB5 := hide (HB.out.trans (hbi.mono HB.out.size))
        have HC5 := hide (HC.out.trans (hbi.mono HC.out.size))
        have HN5 := hide (HN.out.below hbi HN.out.lt)
        have hzz := HB5.out.size
        clear hbi HO HB HC HN d0 d1 d2 d3 d4 d5 cy HIM
        obtain ⟨d0, d1, d2, d3, d4, d5⟩ := HN5.out.cells
        obtain ⟨q, hq⟩ : ∃ q, (⟨(Lib.itoa N).toArray⟩ : ByteArray) = q := ⟨_, rfl⟩
        have hql : q.data.toList = Lib.itoa N := by rw [← hq]
        have HQS : Hid (q.size = (Lib.itoa N).length) := hide (by rw [← hq]; simp [ByteArray.size])
        have hqz : q.size ≤ 21 ∧ 1 ≤ q.size := by rw [HQS.out]; omega
        obtain ⟨hqz1, hqz2⟩ := hqz
        rw [hq]
        clear hq
        rcases Bool.eq_false_or_eq_true o.zeros with hze | hze
        · rw [hze] at d3
          by_cases hneg : N < 0
          · have hq1 : (1 : Int) ≤ (q.size : Int) := by omega
            obtain ⟨B0, hB0⟩ : ∃ B0, (Lib.itoa N).drop 1 = B0 := ⟨_, rfl⟩
            have hB0l : B0.length + 1 = (Lib.itoa N).length := by rw [← hB0, List.length_drop]; omega
            have HEX : Hid (q.extract 1 q.size = mkB B0) := hide (by
              rw [← hB0, ← hql]
              exact ext_one q)
            have HSG : Hid ((⟨#[45]⟩ : ByteArray) ++ mkB (List.replicate (o.width.toNat - (1 + B0.length)) 48 ++ B0) = mkB (fillN N o.width.toNat o.zeros)) := hide (by
              show mkB [45] ++ _ = _
              unfold fillN
              rw [mkB_app', hze, show decide (N < 0) = true by simpa using hneg, show 1 + B0.length = (Lib.itoa N).length by omega, hB0]
              rfl)
            have hdn : decide (N < 0) = true := by simpa using hneg
            have HZE := hide hze
            clear hze hB0 hql
            go_wp2_with fail
            go_quiet (fail)
            have HO5 : Hid (OwnS 9 (wi.drewN nq) W1.heap.size (.slice OA D.length oc) D) := hide HO5.out
            have HB5 := hide (below_drewN HB5.out nq)
            have HC5 := hide (below_drewN HC5.out nq)
            have HN5 : Hid (NbIn (wi.drewN nq) w.heap.size 64 o) := hide HN5.out
            have hd3 : (wi.drewN nq).cell? ⟨w.heap.size, 3, none⟩ = some (.bool true) := d3
            obtain ⟨wj, hwj⟩ : ∃ wj, wi.drewN nq = wj := ⟨_, rfl⟩
            rw [hwj] at HO5 HB5 HC5 HN5 hd3 ⊢
            clear hwj d0 d1 d2 d3 d4 d5
            obtain ⟨d0, d1, d2, _, d4, d5⟩ := HN5.out.cells
            rename wj.cell? ⟨w.heap.size, 3, none⟩ = some (.bool o.zeros) => hd4
            have d3 := hd3
            clear hd3 hd4
            have hzz := HB5.out.size
            rw [HEX.out]
            clear hq1
            go_wp2_with fail
            obtain ⟨M, hM⟩ : ∃ M : Nat, o.width.toNat - (1 + B0.length) = M := ⟨_, rfl⟩
            have hMl : M ≤ 1000 := by omega
            have HZ : Hid (((⟨#[45]⟩ : ByteArray) ++ mkB (List.replicate M 48 ++ B0)) = mkB (fillN N o.width.toNat o.zeros)) := hide (by
              rw [← hM]
              exact HSG.out)
            have hb0 : mkB B0 = mkB (List.replicate 0 48 ++ B0) := rfl
            have hml : ∀ j, (mkB (List.replicate j 48 ++ B0)).size = j + B0.length := fun j => by rw [mkB_size, List.length_append, List.length_replicate]
            have HML := hide hml
            rw [hb0]
            clear hb0 hml
            go_loop [9] (fun sv => ∃ j : Nat, j ≤ M ∧ sv = .string (mkB (List.replicate j 48 ++ B0))) (fun sv => M - (strLen sv - B0.length))
            case atStart => exact ⟨0, by omega, rfl⟩
            case round =>
              obtain ⟨j, hj, rfl⟩ := hrel
              have hsz := HML.out j
              by_cases hjm : j < M
              · have HNXS : Hid ((⟨#[48]⟩ : ByteArray) ++ mkB (List.replicate j 48 ++ B0) = mkB (List.replicate (j + 1) 48 ++ B0)) := hide (by
                  show mkB [48] ++ _ = _
                  rw [mkB_app']; rfl)
                have hsz2 := HML.out (j + 1)
                obtain ⟨S, hS⟩ : ∃ S, mkB (List.replicate j 48 ++ B0) = S := ⟨_, rfl⟩
                rw [hS] at HNXS hsz ⊢
                have hdw : 1 + (S.size : Int) < o.width := by omega
                clear hS
                go_wp2_with fail
                go_round
                case rel => exact ⟨j + 1, by omega, by rw [HNXS.out]⟩
                case measure => simp only [strLen, ByteArray.size_append]; rw [show (⟨#[48]⟩ : ByteArray).size = 1 from rfl]; omega
              · obtain rfl : j = M := by omega
                obtain ⟨S, hS⟩ : ∃ S, mkB (List.replicate j 48 ++ B0) = S := ⟨_, rfl⟩
                rw [hS] at HZ hsz ⊢
                have hdw : ¬ (1 + (S.size : Int) < o.width) := by omega
                have HNX2 : Hid (numTo o L (k + 1) = (D ++ [(((⟨#[45]⟩ : ByteArray) ++ S) ++ o.sep) ++ y], N + o.step)) := hide (by rw [HNX1.out]; unfold numLine; rw [HZ.out])
                have hss : S.size ≤ 2000 := by omega
                clear hS
                go_wp2_with (at_builtin; refine wpList_app_one rfl _ _ rfl W1.heap.size _ _ rfl HO5.out rfl HDL.out hzz ?_)
                intro A2 c2 w6 ho6 hb6
                have HO6 := hide ho6
                have HB6 := hide (HB5.out.trans hb6)
                have HC6 := hide (HC5.out.trans (hb6.mono HCz0.out))
                have HN6 := hide (HN5.out.below hb6 HUL.out)
                clear ho6 hb6 d0 d1 d2 d3 d4 d5
                obtain ⟨d0, d1, d2, d3, d4, d5⟩ := HN6.out.cells
                go_wp2_with fail
                go_roundw
                case rel => exact ⟨k + 1, by omega, by go_num, by rw [HNX2.out], by rw [HNX2.out]; skip; exact HO6, HB6, HC6, HN6⟩
                case measure => simp [intOf]; omega
          · have HSG : Hid ((⟨#[]⟩ : ByteArray) ++ mkB (List.replicate (o.width.toNat - (0 + (Lib.itoa N).length)) 48 ++ Lib.itoa N) = mkB (fillN N o.width.toNat o.zeros)) := hide (by
              show mkB [] ++ _ = _
              unfold fillN
              rw [mkB_app', hze, show decide (N < 0) = false by simpa using hneg, Nat.zero_add]
              rfl)
            obtain ⟨B0, hB0⟩ : ∃ B0, Lib.itoa N = B0 := ⟨_, rfl⟩
            rw [hB0] at HSG hil hip HQS hql
            have hqm : q = mkB B0 := by rw [← mkB_list q, hql]
            rw [hqm]
            have hdn : decide (N < 0) = false := by simpa using hneg
            have HZE := hide hze
            clear hze hB0 hql hqm HQS hqz1 hqz2
            go_wp2_with fail
            obtain ⟨M, hM⟩ : ∃ M : Nat, o.width.toNat - (0 + B0.length) = M := ⟨_, rfl⟩
            have hMl : M ≤ 1000 := by omega
            have HZ : Hid (((⟨#[]⟩ : ByteArray) ++ mkB (List.replicate M 48 ++ B0)) = mkB (fillN N o.width.toNat o.zeros)) := hide (by
              rw [← hM]
              exact HSG.out)
            have hb0 : mkB B0 = mkB (List.replicate 0 48 ++ B0) := rfl
            have hml : ∀ j, (mkB (List.replicate j 48 ++ B0)).size = j + B0.length := fun j => by rw [mkB_size, List.length_append, List.length_replicate]
            have HML := hide hml
            rw [hb0]
            clear hb0 hml
            go_loop [9] (fun sv => ∃ j : Nat, j ≤ M ∧ sv = .string (mkB (List.replicate j 48 ++ B0))) (fun sv => M - (strLen sv - B0.length))
            case atStart => exact ⟨0, by omega, rfl⟩
            case round =>
              obtain ⟨j, hj, rfl⟩ := hrel
              have hsz := HML.out j
              by_cases hjm : j < M
              · have HNXS : Hid ((⟨#[48]⟩ : ByteArray) ++ mkB (List.replicate j 48 ++ B0) = mkB (List.replicate (j + 1) 48 ++ B0)) := hide (by
                  show mkB [48] ++ _ = _
                  rw [mkB_app']; rfl)
                have hsz2 := HML.out (j + 1)
                obtain ⟨S, hS⟩ : ∃ S, mkB (List.replicate j 48 ++ B0) = S := ⟨_, rfl⟩
                rw [hS] at HNXS hsz ⊢
                have hdw : (S.size : Int) < o.width := by omega
                clear hS
                go_wp2_with fail
                go_round
                case rel => exact ⟨j + 1, by omega, by rw [HNXS.out]⟩
                case measure => simp only [strLen, ByteArray.size_append]; rw [show (⟨#[48]⟩ : ByteArray).size = 1 from rfl]; omega
              · obtain rfl : j = M := by omega
                obtain ⟨S, hS⟩ : ∃ S, mkB (List.replicate j 48 ++ B0) = S := ⟨_, rfl⟩
                rw [hS] at HZ hsz ⊢
                have hdw : ¬ ((S.size : Int) < o.width) := by omega
                have HNX2 : Hid (numTo o L (k + 1) = (D ++ [(((⟨#[]⟩ : ByteArray) ++ S) ++ o.sep) ++ y], N + o.step)) := hide (by rw [HNX1.out]; unfold numLine; rw [HZ.out])
                have hss : S.size ≤ 2000 := by omega
                clear hS
                go_wp2_with (at_builtin; refine wpList_app_one rfl _ _ rfl W1.heap.size _ _ rfl HO5.out rfl HDL.out hzz ?_)
                intro A2 c2 w6 ho6 hb6
                have HO6 := hide ho6
                have HB6 := hide (HB5.out.trans hb6)
                have HC6 := hide (HC5.out.trans (hb6.mono HCz0.out))
                have HN6 := hide (HN5.out.below hb6 HUL.out)
                clear ho6 hb6 d0 d1 d2 d3 d4 d5
                obtain ⟨d0, d1, d2, d3, d4, d5⟩ := HN6.out.cells
                go_wp2_with fail
                go_roundw
                case rel => exact ⟨k + 1, by omega, by go_num, by rw [HNX2.out], by rw [HNX2.out]; skip; exact HO6, HB6, HC6, HN6⟩
                case measure => simp [intOf]; omega
        · rw [hze] at d3
          have HSG : Hid ((⟨#[]⟩ : ByteArray) ++ mkB (List.replicate (o.width.toNat - (0 + (Lib.itoa N).length)) 32 ++ Lib.itoa N) = mkB (fillN N o.width.toNat o.zeros)) := hide (by
            show mkB [] ++ _ = _
            unfold fillN
            rw [mkB_app', hze, Nat.zero_add]
            rfl)
          obtain ⟨B0, hB0⟩ : ∃ B0, Lib.itoa N = B0 := ⟨_, rfl⟩
          rw [hB0] at HSG hil hip HQS hql
          have hqm : q = mkB B0 := by rw [← mkB_list q, hql]
          rw [hqm]
          have HZE := hide hze
          clear hze hB0 hql hqm HQS hqz1 hqz2
          go_wp2_with fail
          obtain ⟨M, hM⟩ : ∃ M : Nat, o.width.toNat - (0 + B0.length) = M := ⟨_, rfl⟩
          have hMl : M ≤ 1000 := by omega
          have HZ : Hid (((⟨#[]⟩ : ByteArray) ++ mkB (List.replicate M 32 ++ B0)) = mkB (fillN N o.width.toNat o.zeros)) := hide (by
            rw [← hM]
            exact HSG.out)
          have hb0 : mkB B0 = mkB (List.replicate 0 32 ++ B0) := rfl
          have hml : ∀ j, (mkB (List.replicate j 32 ++ B0)).size = j + B0.length := fun j => by rw [mkB_size, List.length_append, List.length_replicate]
          have HML := hide hml
          rw [hb0]
          clear hb0 hml
          go_loop [9] (fun sv => ∃ j : Nat, j ≤ M ∧ sv = .string (mkB (List.replicate j 32 ++ B0))) (fun sv => M - (strLen sv - B0.length))
          case atStart => exact ⟨0, by omega, rfl⟩
          case round =>
            obtain ⟨j, hj, rfl⟩ := hrel
            have hsz := HML.out j
            by_cases hjm : j < M
            · have HNXS : Hid ((⟨#[32]⟩ : ByteArray) ++ mkB (List.replicate j 32 ++ B0) = mkB (List.replicate (j + 1) 32 ++ B0)) := hide (by
                show mkB [32] ++ _ = _
                rw [mkB_app']; rfl)
              have hsz2 := HML.out (j + 1)
              obtain ⟨S, hS⟩ : ∃ S, mkB (List.replicate j 32 ++ B0) = S := ⟨_, rfl⟩
              rw [hS] at HNXS hsz ⊢
              have hdw : (S.size : Int) < o.width := by omega
              clear hS
              go_wp2_with fail
              go_round
              case rel => exact ⟨j + 1, by omega, by rw [HNXS.out]⟩
              case measure => simp only [strLen, ByteArray.size_append]; rw [show (⟨#[32]⟩ : ByteArray).size = 1 from rfl]; omega
            · obtain rfl : j = M := by omega
              obtain ⟨S, hS⟩ : ∃ S, mkB (List.replicate j 32 ++ B0) = S := ⟨_, rfl⟩
              rw [hS] at HZ hsz ⊢
              have hdw : ¬ ((S.size : Int) < o.width) := by omega
              have HNX2 : Hid (numTo o L (k + 1) = (D ++ [(((⟨#[]⟩ : ByteArray) ++ S) ++ o.sep) ++ y], N + o.step)) := hide (by rw [HNX1.out]; unfold numLine; rw [HZ.out])
              have hss : S.size ≤ 2000 := by omega
              clear hS
              go_wp2_with (at_builtin; refine wpList_app_one rfl _ _ rfl W1.heap.size _ _ rfl HO5.out rfl HDL.out hzz ?_)
              intro A2 c2 w6 ho6 hb6
              have HO6 := hide ho6
              have HB6 := hide (HB5.out.trans hb6)
              have HC6 := hide (HC5.out.trans (hb6.mono HCz0.out))
              have HN6 := hide (HN5.out.below hb6 HUL.out)
              clear ho6 hb6 d0 d1 d2 d3 d4 d5
              obtain ⟨d0, d1, d2, d3, d4, d5⟩ := HN6.out.cells
              go_wp2_with fail
              go_roundw
              case rel => exact ⟨k + 1, by omega, by go_num, by rw [HNX2.out], by rw [HNX2.out]; skip; exact HO6, HB6, HC6, HN6⟩
              case measure => simp [intOf]; omega
    · have hkl : k = L.length := by omega
      have hd : ¬ ((k : Int) < (L.length : Int)) := by omega
      have HDD : Hid ((numTo o L k).1 = (numTo o L L.length).1) := hide (by rw [hkl])
      obtain ⟨N, hN⟩ : ∃ N, (numTo o L k).2 = N := ⟨_, rfl⟩
      rw [hN]
      obtain ⟨D, hD⟩ : ∃ D, (numTo o L k).1 = D := ⟨_, rfl⟩
      rw [hD] at HO HDD hdl ⊢
      clear hkl hN hD hnn hdl
      go_wp2_with fail
      go_ret
      exact ⟨_, rfl, by rw [← HDD.out, ← HZ1.out]; exact HO.out, HC.out⟩
end Go.Proofs.YtbelbgfigmbobaaGreatDoor
