/- Printf, the reference: shown at a text's letter (printed by gen_pfrj.py). -/
import Derived.Test.YtifpmigghplmoaaGreatDoorZPfRg
import Derived.Test.YtifpmigghplmoaaGreatDoorZPfRd
/- PfRjs -/
set_option linter.unusedVariables false
set_option linter.unusedSimpArgs false
namespace Go.Proofs.YtifpmigghplmoaaGreatDoor
open Go.RowKit Go.Pw Go.Shelf
set_option maxHeartbeats 16000000 in
set_option maxRecDepth 100000 in
theorem shown_s_f (tx fl : List UInt8) (wd pr kk : Nat) (hd : DvOk (⟨tx, fl, wd, false, pr, 115⟩ : Dv)) (a : List UInt8) (ha : a.length ≤ 70000) (w : World) :
    Calls Tryz.prog 41 #[.agg (rvC (⟨tx, fl, wd, false, pr, 115⟩ : Dv) kk), .string (mkB a)] w fun e w' => e = .returned (.tuple #[.string (mkB (wrP (⟨tx, fl, wd, false, pr, 115⟩ : Dv) a).1), .int .i64 (wrP (⟨tx, fl, wd, false, pr, 115⟩ : Dv) a).2]) ∧ Below w.heap.size w w' := by
  have HV : Hid (wrP (⟨tx, fl, wd, false, pr, 115⟩ : Dv) a = (padP (⟨tx, fl, wd, false, pr, 115⟩ : Dv) (a), 0)) := hide (by rfl)
  have HPT := hide (fun E hE W => pad_txt (⟨tx, fl, wd, false, pr, 115⟩ : Dv) hd (by dsimp only; decide) kk E hE W)
  have hpr : pr ≤ 999 := hd.2.2
  have hrow : rvC (⟨tx, fl, wd, false, pr, 115⟩ : Dv) kk = #[.bool (decide (45 ∈ fl)), .bool (decide (43 ∈ fl)), .bool (decide (32 ∈ fl)), .bool (decide (48 ∈ fl)), .bool (decide (35 ∈ fl)), .int .i64 (wd : Int), .int .i64 (-1), .int .u8 115, .int .i64 (kk : Int)] := by
    simp only [rvC, show ((115 : UInt8) = 0) = False by decide, if_false]; rfl
  simp only [hrow] at HPT
  rw [hrow]
  obtain ⟨b45, hb45⟩ : ∃ x, decide (45 ∈ fl) = x := ⟨_, rfl⟩
  obtain ⟨b43, hb43⟩ : ∃ x, decide (43 ∈ fl) = x := ⟨_, rfl⟩
  obtain ⟨b32, hb32⟩ : ∃ x, decide (32 ∈ fl) = x := ⟨_, rfl⟩
  obtain ⟨b48, hb48⟩ : ∃ x, decide (48 ∈ fl) = x := ⟨_, rfl⟩
  obtain ⟨b35, hb35⟩ : ∃ x, decide (35 ∈ fl) = x := ⟨_, rfl⟩
  rw [hb45, hb43, hb32, hb48, hb35]
  simp only [hb45, hb43, hb32, hb48, hb35] at HPT
  have hR : (w.alloc (.cells #[.bool b45, .bool b43, .bool b32, .bool b48, .bool b35, .int .i64 (wd : Int), .int .i64 (-1), .int .u8 115, .int .i64 (kk : Int)] 97)).heap[w.heap.size]? = some (.cells #[.bool b45, .bool b43, .bool b32, .bool b48, .bool b35, .int .i64 (wd : Int), .int .i64 (-1), .int .u8 115, .int .i64 (kk : Int)] 97 (0, 0)) := heap_alloc_new w _
  obtain ⟨W, hW⟩ : ∃ W, w.alloc (.cells #[.bool b45, .bool b43, .bool b32, .bool b48, .bool b35, .int .i64 (wd : Int), .int .i64 (-1), .int .u8 115, .int .i64 (kk : Int)] 97) = W := ⟨_, rfl⟩
  have HB : Hid (Below w.heap.size w W) := hide (by rw [← hW]; exact (Below.refl w.heap.size w).alloc (Nat.le_refl _) _)
  rw [hW] at hR
  have HRW := hide hR
  have HWW := hide hW
  have y0 := Lib.cell_of_heap HRW.out 0
  have y1 := Lib.cell_of_heap HRW.out 1
  have y2 := Lib.cell_of_heap HRW.out 2
  have y3 := Lib.cell_of_heap HRW.out 3
  have y4 := Lib.cell_of_heap HRW.out 4
  have y5 := Lib.cell_of_heap HRW.out 5
  have y6 := Lib.cell_of_heap HRW.out 6
  have y7 := Lib.cell_of_heap HRW.out 7
  have y8 := Lib.cell_of_heap HRW.out 8
  simp at y0 y1 y2 y3 y4 y5 y6 y7 y8
  obtain ⟨qa, hqa⟩ : ∃ qa, mkB a = qa := ⟨_, rfl⟩
  have hqz : qa.size = a.length := by rw [← hqa, mkB_size]
  have HQA := hide hqa
  have HQZ := hide hqz
  rw [hqa]
  have hqb : qa.size ≤ 70000 := by omega
  clear hR hW hqa hrow hb45 hb43 hb32 hb48 hb35 hqz hd
  go_enter Tryz.func41, Tryz.ntmps41
  have HEQ : Hid (mkB (a) = qa) := hide (HQA.out)
  have hm1 : ¬ (0 : Int) ≤ -1 := by omega
  have HPD := hide (HPT.out (a) (by omega) W)
  rw [HEQ.out] at HPD
  go_wp2_with fail
  rw [HWW.out]
  with_reducible refine HPD.out.mono ?_
  rintro e w5 ⟨rfl, hb⟩
  have HB5 := hide (HB.out.trans (hb.mono HB.out.size))
  clear hb
  go_wp2_with fail
  go_ret2
  refine ⟨?_, HB5.out⟩
  rw [HV.out]
  rfl
set_option maxHeartbeats 16000000 in
set_option maxRecDepth 100000 in
theorem shown_s_t (tx fl : List UInt8) (wd pr kk : Nat) (hd : DvOk (⟨tx, fl, wd, true, pr, 115⟩ : Dv)) (a : List UInt8) (ha : a.length ≤ 70000) (w : World) :
    Calls Tryz.prog 41 #[.agg (rvC (⟨tx, fl, wd, true, pr, 115⟩ : Dv) kk), .string (mkB a)] w fun e w' => e = .returned (.tuple #[.string (mkB (wrP (⟨tx, fl, wd, true, pr, 115⟩ : Dv) a).1), .int .i64 (wrP (⟨tx, fl, wd, true, pr, 115⟩ : Dv) a).2]) ∧ Below w.heap.size w w' := by
  have HV : Hid (wrP (⟨tx, fl, wd, true, pr, 115⟩ : Dv) a = (padP (⟨tx, fl, wd, true, pr, 115⟩ : Dv) ((a).take pr), 0)) := hide (by rfl)
  have HPT := hide (fun E hE W => pad_txt (⟨tx, fl, wd, true, pr, 115⟩ : Dv) hd (by dsimp only; decide) kk E hE W)
  have hpr : pr ≤ 999 := hd.2.2
  have hrow : rvC (⟨tx, fl, wd, true, pr, 115⟩ : Dv) kk = #[.bool (decide (45 ∈ fl)), .bool (decide (43 ∈ fl)), .bool (decide (32 ∈ fl)), .bool (decide (48 ∈ fl)), .bool (decide (35 ∈ fl)), .int .i64 (wd : Int), .int .i64 (pr : Int), .int .u8 115, .int .i64 (kk : Int)] := by
    simp only [rvC, show ((115 : UInt8) = 0) = False by decide, if_false]; rfl
  simp only [hrow] at HPT
  rw [hrow]
  obtain ⟨b45, hb45⟩ : ∃ x, decide (45 ∈ fl) = x := ⟨_, rfl⟩
  obtain ⟨b43, hb43⟩ : ∃ x, decide (43 ∈ fl) = x := ⟨_, rfl⟩
  obtain ⟨b32, hb32⟩ : ∃ x, decide (32 ∈ fl) = x := ⟨_, rfl⟩
  obtain ⟨b48, hb48⟩ : ∃ x, decide (48 ∈ fl) = x := ⟨_, rfl⟩
  obtain ⟨b35, hb35⟩ : ∃ x, decide (35 ∈ fl) = x := ⟨_, rfl⟩
  rw [hb45, hb43, hb32, hb48, hb35]
  simp only [hb45, hb43, hb32, hb48, hb35] at HPT
  have hR : (w.alloc (.cells #[.bool b45, .bool b43, .bool b32, .bool b48, .bool b35, .int .i64 (wd : Int), .int .i64 (pr : Int), .int .u8 115, .int .i64 (kk : Int)] 97)).heap[w.heap.size]? = some (.cells #[.bool b45, .bool b43, .bool b32, .bool b48, .bool b35, .int .i64 (wd : Int), .int .i64 (pr : Int), .int .u8 115, .int .i64 (kk : Int)] 97 (0, 0)) := heap_alloc_new w _
  obtain ⟨W, hW⟩ : ∃ W, w.alloc (.cells #[.bool b45, .bool b43, .bool b32, .bool b48, .bool b35, .int .i64 (wd : Int), .int .i64 (pr : Int), .int .u8 115, .int .i64 (kk : Int)] 97) = W := ⟨_, rfl⟩
  have HB : Hid (Below w.heap.size w W) := hide (by rw [← hW]; exact (Below.refl w.heap.size w).alloc (Nat.le_refl _) _)
  rw [hW] at hR
  have HRW := hide hR
  have HWW := hide hW
  have y0 := Lib.cell_of_heap HRW.out 0
  have y1 := Lib.cell_of_heap HRW.out 1
  have y2 := Lib.cell_of_heap HRW.out 2
  have y3 := Lib.cell_of_heap HRW.out 3
  have y4 := Lib.cell_of_heap HRW.out 4
  have y5 := Lib.cell_of_heap HRW.out 5
  have y6 := Lib.cell_of_heap HRW.out 6
  have y7 := Lib.cell_of_heap HRW.out 7
  have y8 := Lib.cell_of_heap HRW.out 8
  simp at y0 y1 y2 y3 y4 y5 y6 y7 y8
  obtain ⟨qa, hqa⟩ : ∃ qa, mkB a = qa := ⟨_, rfl⟩
  have hqz : qa.size = a.length := by rw [← hqa, mkB_size]
  have HQA := hide hqa
  have HQZ := hide hqz
  rw [hqa]
  have hqb : qa.size ≤ 70000 := by omega
  clear hR hW hqa hrow hb45 hb43 hb32 hb48 hb35 hqz hd
  go_enter Tryz.func41, Tryz.ntmps41
  have hpp : (0 : Int) ≤ (pr : Int) := by omega
  by_cases hlt : pr < qa.size
  · have l0 : (pr : Int) < (qa.size : Int) := by omega
    have l1 : (pr : Int) ≤ (qa.size : Int) := by omega
    have l2 : pr ≤ qa.size := by omega
    have HEQ : Hid (mkB ((a).take pr) = qa.extract 0 pr) := hide (by rw [extract_take, show qa.data.toList = a by rw [← show mkB (a) = qa from HQA.out, mkB_data2]])
    have HPD := hide (HPT.out ((a).take pr) (by rw [List.length_take]; have : (a).length ≤ 70000 := (by omega); omega) W)
    rw [HEQ.out] at HPD
    go_wp2_with fail
    rw [HWW.out]
    with_reducible refine HPD.out.mono ?_
    rintro e w5 ⟨rfl, hb⟩
    have HB5 := hide (HB.out.trans (hb.mono HB.out.size))
    clear hb
    go_wp2_with fail
    go_ret2
    refine ⟨?_, HB5.out⟩
    rw [HV.out]
    rfl
  · have l0 : ¬ (pr : Int) < (qa.size : Int) := by omega
    have HEQ : Hid (mkB ((a).take pr) = qa) := hide (by rw [List.take_of_length_le (by have h := congrArg ByteArray.size (show mkB (a) = qa from HQA.out); rw [mkB_size] at h; omega)]; exact HQA.out)
    have HPD := hide (HPT.out ((a).take pr) (by rw [List.length_take]; have : (a).length ≤ 70000 := (by omega); omega) W)
    rw [HEQ.out] at HPD
    go_wp2_with fail
    rw [HWW.out]
    with_reducible refine HPD.out.mono ?_
    rintro e w5 ⟨rfl, hb⟩
    have HB5 := hide (HB.out.trans (hb.mono HB.out.size))
    clear hb
    go_wp2_with fail
    go_ret2
    refine ⟨?_, HB5.out⟩
    rw [HV.out]
    rfl
end Go.Proofs.YtifpmigghplmoaaGreatDoor

/- PfRjb -/
set_option linter.unusedVariables false
set_option linter.unusedSimpArgs false
namespace Go.Proofs.YtifpmigghplmoaaGreatDoor
open Go.RowKit Go.Pw Go.Shelf
set_option maxHeartbeats 16000000 in
set_option maxRecDepth 100000 in
theorem shown_b_f (tx fl : List UInt8) (wd pr kk : Nat) (hd : DvOk (⟨tx, fl, wd, false, pr, 98⟩ : Dv)) (a : List UInt8) (ha : a.length ≤ 70000) (w : World) :
    Calls Tryz.prog 41 #[.agg (rvC (⟨tx, fl, wd, false, pr, 98⟩ : Dv) kk), .string (mkB a)] w fun e w' => e = .returned (.tuple #[.string (mkB (wrP (⟨tx, fl, wd, false, pr, 98⟩ : Dv) a).1), .int .i64 (wrP (⟨tx, fl, wd, false, pr, 98⟩ : Dv) a).2]) ∧ Below w.heap.size w w' := by
  have HV : Hid (wrP (⟨tx, fl, wd, false, pr, 98⟩ : Dv) a = (padP (⟨tx, fl, wd, false, pr, 98⟩ : Dv) (unP a), 0)) := hide (by rfl)
  have HPT := hide (fun E hE W => pad_txt (⟨tx, fl, wd, false, pr, 98⟩ : Dv) hd (by dsimp only; decide) kk E hE W)
  have hpr : pr ≤ 999 := hd.2.2
  have hrow : rvC (⟨tx, fl, wd, false, pr, 98⟩ : Dv) kk = #[.bool (decide (45 ∈ fl)), .bool (decide (43 ∈ fl)), .bool (decide (32 ∈ fl)), .bool (decide (48 ∈ fl)), .bool (decide (35 ∈ fl)), .int .i64 (wd : Int), .int .i64 (-1), .int .u8 98, .int .i64 (kk : Int)] := by
    simp only [rvC, show ((98 : UInt8) = 0) = False by decide, if_false]; rfl
  simp only [hrow] at HPT
  rw [hrow]
  obtain ⟨b45, hb45⟩ : ∃ x, decide (45 ∈ fl) = x := ⟨_, rfl⟩
  obtain ⟨b43, hb43⟩ : ∃ x, decide (43 ∈ fl) = x := ⟨_, rfl⟩
  obtain ⟨b32, hb32⟩ : ∃ x, decide (32 ∈ fl) = x := ⟨_, rfl⟩
  obtain ⟨b48, hb48⟩ : ∃ x, decide (48 ∈ fl) = x := ⟨_, rfl⟩
  obtain ⟨b35, hb35⟩ : ∃ x, decide (35 ∈ fl) = x := ⟨_, rfl⟩
  rw [hb45, hb43, hb32, hb48, hb35]
  simp only [hb45, hb43, hb32, hb48, hb35] at HPT
  have hR : (w.alloc (.cells #[.bool b45, .bool b43, .bool b32, .bool b48, .bool b35, .int .i64 (wd : Int), .int .i64 (-1), .int .u8 98, .int .i64 (kk : Int)] 97)).heap[w.heap.size]? = some (.cells #[.bool b45, .bool b43, .bool b32, .bool b48, .bool b35, .int .i64 (wd : Int), .int .i64 (-1), .int .u8 98, .int .i64 (kk : Int)] 97 (0, 0)) := heap_alloc_new w _
  obtain ⟨W, hW⟩ : ∃ W, w.alloc (.cells #[.bool b45, .bool b43, .bool b32, .bool b48, .bool b35, .int .i64 (wd : Int), .int .i64 (-1), .int .u8 98, .int .i64 (kk : Int)] 97) = W := ⟨_, rfl⟩
  have HB : Hid (Below w.heap.size w W) := hide (by rw [← hW]; exact (Below.refl w.heap.size w).alloc (Nat.le_refl _) _)
  rw [hW] at hR
  have HRW := hide hR
  have HWW := hide hW
  have y0 := Lib.cell_of_heap HRW.out 0
  have y1 := Lib.cell_of_heap HRW.out 1
  have y2 := Lib.cell_of_heap HRW.out 2
  have y3 := Lib.cell_of_heap HRW.out 3
  have y4 := Lib.cell_of_heap HRW.out 4
  have y5 := Lib.cell_of_heap HRW.out 5
  have y6 := Lib.cell_of_heap HRW.out 6
  have y7 := Lib.cell_of_heap HRW.out 7
  have y8 := Lib.cell_of_heap HRW.out 8
  simp at y0 y1 y2 y3 y4 y5 y6 y7 y8
  obtain ⟨qa, hqa⟩ : ∃ qa, mkB a = qa := ⟨_, rfl⟩
  have hqz : qa.size = a.length := by rw [← hqa, mkB_size]
  have HQA := hide hqa
  have HQZ := hide hqz
  rw [hqa]
  have hqb : qa.size ≤ 70000 := by omega
  clear hR hW hqa hrow hb45 hb43 hb32 hb48 hb35 hqz hd
  go_enter Tryz.func41, Tryz.ntmps41
  go_wp2_with fail
  rw [HWW.out]
  go_loopw [6, 7] (fun sv iv wr => ∃ (i : Nat) (out : List UInt8), sv = .string (mkB out) ∧ iv = .int .i64 (i : Int) ∧ i ≤ qa.size ∧ Hid (UnAt a i out) ∧ Hid (wr.heap[w.heap.size]? = some (.cells #[.bool b45, .bool b43, .bool b32, .bool b48, .bool b35, .int .i64 (wd : Int), .int .i64 (-1), .int .u8 98, .int .i64 (kk : Int)] 97 (0, 0))) ∧ Hid (Below w.heap.size w wr)) (fun _ iv _ => qa.size - (intOf iv).toNat)
  case atStart => exact ⟨0, [], rfl, rfl, by omega, hide (UnAt.start _), HRW, HB⟩
  case round =>
    obtain ⟨i, out, rfl, rfl, hi, HUN, HRQ, HBQ⟩ := hrel
    have hol : out.length ≤ 70000 := by have := HUN.out.1; omega
    have hoz : (mkB out).size ≤ 70000 := by rw [mkB_size]; exact hol
    clear y0 y1 y2 y3 y4 y5 y6 y7 y8
    have y0 := Lib.cell_of_heap HRQ.out 0
    have y1 := Lib.cell_of_heap HRQ.out 1
    have y2 := Lib.cell_of_heap HRQ.out 2
    have y3 := Lib.cell_of_heap HRQ.out 3
    have y4 := Lib.cell_of_heap HRQ.out 4
    have y5 := Lib.cell_of_heap HRQ.out 5
    have y6 := Lib.cell_of_heap HRQ.out 6
    have y7 := Lib.cell_of_heap HRQ.out 7
    have y8 := Lib.cell_of_heap HRQ.out 8
    simp at y0 y1 y2 y3 y4 y5 y6 y7 y8
    by_cases hlt : i < qa.size
    case pos =>
      have d0 : (i : Int) < (qa.size : Int) := by omega
      have d1 : (i : Int) ≤ (qa.size : Int) := by omega
      have hal : i < a.length := by rw [← HQZ.out]; exact hlt
      obtain ⟨c, hc⟩ : ∃ c, qa[i]'hlt = c := ⟨_, rfl⟩
      have HC := hide hc
      have HDR : Hid (a.drop i = c :: a.drop (i + 1)) := hide (by
        rw [List.drop_eq_getElem_cons hal, ← hc]
        congr 1
        have h9 := HQA.out
        subst h9
        rfl)
      have HON : Hid (qa.extract i (i + 1) = mkB [c]) := hide (by rw [one_cut qa i hlt, hc])
      by_cases h92 : c = 92
      case pos =>
        have f92 : (((qa[i]'hlt).toNat : Int) == 92) = true := by rw [hc, h92]; rfl
        have HES := hide (escapeR_any (qa.extract i qa.size) wr (by rw [ByteArray.size_extract]; omega))
        have hx1 : (qa.extract i qa.size).data.toList.drop 1 = a.drop (i + 1) := by
          rw [extract_drop, mkB_data2, show qa.data.toList = a by rw [← HQA.out, mkB_data2], HDR.out]; rfl
        simp only [hx1] at HES
        unfold escQ at HES
        clear hx1
        cases he : escP (a.drop (i + 1)) with
        | none =>
          simp only [he] at HES
          have HU2 := hide (HUN.out.step (k' := i + 1) (x := 92) (by omega) (by omega) (by rw [HDR.out, h92]; exact unP_esc_no he))
          have HAP : Hid (mkB out ++ qa.extract i (i + 1) = mkB (out ++ [92])) := hide (by rw [HON.out, mkB_app', h92])
          clear he hc h92
          go_wp2_with fail
          refine HES.out.mono ?_
          rintro e w2 ⟨rfl, hb⟩
          have HB2 := hide (HBQ.out.trans (hb.mono HBQ.out.size))
          have HR2 := hide ((hb.block _ (Array.getElem?_eq_some_iff.1 HRQ.out).1).trans HRQ.out)
          clear hb
          go_wp2_with fail
          go_roundw
          case rel => exact ⟨i + 1, out ++ [92], by rw [← HAP.out], by first | go_num | (simp; omega), by omega, HU2, HR2, HB2⟩
          case measure => simp [intOf]; omega
        | some x =>
          obtain ⟨x, k⟩ := x
          obtain ⟨hk1, hk2⟩ := escP_k he
          rw [List.length_drop] at hk1
          simp only [he] at HES
          have HU2 := hide (HUN.out.step (k' := i + (k + 1)) (x := x) (by omega) (by omega) (by rw [HDR.out, h92, unP_esc he, List.drop_drop]; congr 3; omega))
          have hk3 : (0 : Int) < (k : Int) + 1 := by omega
          have hkz : i + (k + 1) ≤ qa.size := by rw [HQZ.out]; omega
          have HAP : Hid (mkB out ++ (⟨#[x]⟩ : ByteArray) = mkB (out ++ [x])) := hide (by rw [show (⟨#[x]⟩ : ByteArray) = mkB [x] from rfl, mkB_app'])
          clear he hc h92
          go_wp2_with fail
          refine HES.out.mono ?_
          rintro e w2 ⟨rfl, hb⟩
          have HB2 := hide (HBQ.out.trans (hb.mono HBQ.out.size))
          have HR2 := hide ((hb.block _ (Array.getElem?_eq_some_iff.1 HRQ.out).1).trans HRQ.out)
          clear hb
          have hone := one_string w2 x
          have HB3 := hide (HB2.out.alloc HB2.out.size (.cells #[.int .u8 (x.toNat : Int)] 5))
          have HR3 := hide ((heap_alloc_old w2 (.cells #[.int .u8 (x.toNat : Int)] 5) (Array.getElem?_eq_some_iff.1 HR2.out).1).trans HR2.out)
          go_wp2_with fail
          go_roundw
          case rel => exact ⟨i + (k + 1), out ++ [x], by rw [← HAP.out], by first | go_num | (simp; omega), hkz, HU2, HR3, HB3⟩
          case measure => simp [intOf]; omega
      case neg =>
        have f92 : (((qa[i]'hlt).toNat : Int) == 92) = false := by rw [hc]; exact u8_neN h92
        have HU2 := hide (HUN.out.step (k' := i + 1) (x := c) (by omega) (by omega) (by rw [HDR.out]; exact unP_txt h92))
        have HAP : Hid (mkB out ++ qa.extract i (i + 1) = mkB (out ++ [c])) := hide (by rw [HON.out, mkB_app'])
        clear hc h92
        go_wp2_with fail
        go_roundw
        case rel => exact ⟨i + 1, out ++ [c], by rw [← HAP.out], by first | go_num | (simp; omega), by omega, HU2, HRQ, HBQ⟩
        case measure => simp [intOf]; omega
    case neg =>
      have d0 : ¬ (i : Int) < (qa.size : Int) := by omega
      have HDN : Hid (unP a = out) := hide (HUN.out.done (by rw [← HQZ.out]; exact hlt))
      rw [HDN.out] at HV
      obtain ⟨qo, hqo⟩ : ∃ qo, mkB out = qo := ⟨_, rfl⟩
      rw [hqo] at hoz ⊢
      have HQO := hide hqo
      clear hqo
      have HEQ : Hid (mkB (out) = qo) := hide (HQO.out)
      have hm1 : ¬ (0 : Int) ≤ -1 := by omega
      have HPD := hide (HPT.out (out) (by omega) wr)
      rw [HEQ.out] at HPD
      go_wp2_with fail
      with_reducible refine HPD.out.mono ?_
      rintro e w5 ⟨rfl, hb⟩
      have HB5 := hide (HBQ.out.trans (hb.mono HBQ.out.size))
      clear hb
      go_wp2_with fail
      go_ret2
      refine ⟨?_, HB5.out⟩
      rw [HV.out]
      rfl
set_option maxHeartbeats 16000000 in
set_option maxRecDepth 100000 in
theorem shown_b_t (tx fl : List UInt8) (wd pr kk : Nat) (hd : DvOk (⟨tx, fl, wd, true, pr, 98⟩ : Dv)) (a : List UInt8) (ha : a.length ≤ 70000) (w : World) :
    Calls Tryz.prog 41 #[.agg (rvC (⟨tx, fl, wd, true, pr, 98⟩ : Dv) kk), .string (mkB a)] w fun e w' => e = .returned (.tuple #[.string (mkB (wrP (⟨tx, fl, wd, true, pr, 98⟩ : Dv) a).1), .int .i64 (wrP (⟨tx, fl, wd, true, pr, 98⟩ : Dv) a).2]) ∧ Below w.heap.size w w' := by
  have HV : Hid (wrP (⟨tx, fl, wd, true, pr, 98⟩ : Dv) a = (padP (⟨tx, fl, wd, true, pr, 98⟩ : Dv) ((unP a).take pr), 0)) := hide (by rfl)
  have HPT := hide (fun E hE W => pad_txt (⟨tx, fl, wd, true, pr, 98⟩ : Dv) hd (by dsimp only; decide) kk E hE W)
  have hpr : pr ≤ 999 := hd.2.2
  have hrow : rvC (⟨tx, fl, wd, true, pr, 98⟩ : Dv) kk = #[.bool (decide (45 ∈ fl)), .bool (decide (43 ∈ fl)), .bool (decide (32 ∈ fl)), .bool (decide (48 ∈ fl)), .bool (decide (35 ∈ fl)), .int .i64 (wd : Int), .int .i64 (pr : Int), .int .u8 98, .int .i64 (kk : Int)] := by
    simp only [rvC, show ((98 : UInt8) = 0) = False by decide, if_false]; rfl
  simp only [hrow] at HPT
  rw [hrow]
  obtain ⟨b45, hb45⟩ : ∃ x, decide (45 ∈ fl) = x := ⟨_, rfl⟩
  obtain ⟨b43, hb43⟩ : ∃ x, decide (43 ∈ fl) = x := ⟨_, rfl⟩
  obtain ⟨b32, hb32⟩ : ∃ x, decide (32 ∈ fl) = x := ⟨_, rfl⟩
  obtain ⟨b48, hb48⟩ : ∃ x, decide (48 ∈ fl) = x := ⟨_, rfl⟩
  obtain ⟨b35, hb35⟩ : ∃ x, decide (35 ∈ fl) = x := ⟨_, rfl⟩
  rw [hb45, hb43, hb32, hb48, hb35]
  simp only [hb45, hb43, hb32, hb48, hb35] at HPT
  have hR : (w.alloc (.cells #[.bool b45, .bool b43, .bool b32, .bool b48, .bool b35, .int .i64 (wd : Int), .int .i64 (pr : Int), .int .u8 98, .int .i64 (kk : Int)] 97)).heap[w.heap.size]? = some (.cells #[.bool b45, .bool b43, .bool b32, .bool b48, .bool b35, .int .i64 (wd : Int), .int .i64 (pr : Int), .int .u8 98, .int .i64 (kk : Int)] 97 (0, 0)) := heap_alloc_new w _
  obtain ⟨W, hW⟩ : ∃ W, w.alloc (.cells #[.bool b45, .bool b43, .bool b32, .bool b48, .bool b35, .int .i64 (wd : Int), .int .i64 (pr : Int), .int .u8 98, .int .i64 (kk : Int)] 97) = W := ⟨_, rfl⟩
  have HB : Hid (Below w.heap.size w W) := hide (by rw [← hW]; exact (Below.refl w.heap.size w).alloc (Nat.le_refl _) _)
  rw [hW] at hR
  have HRW := hide hR
  have HWW := hide hW
  have y0 := Lib.cell_of_heap HRW.out 0
  have y1 := Lib.cell_of_heap HRW.out 1
  have y2 := Lib.cell_of_heap HRW.out 2
  have y3 := Lib.cell_of_heap HRW.out 3
  have y4 := Lib.cell_of_heap HRW.out 4
  have y5 := Lib.cell_of_heap HRW.out 5
  have y6 := Lib.cell_of_heap HRW.out 6
  have y7 := Lib.cell_of_heap HRW.out 7
  have y8 := Lib.cell_of_heap HRW.out 8
  simp at y0 y1 y2 y3 y4 y5 y6 y7 y8
  obtain ⟨qa, hqa⟩ : ∃ qa, mkB a = qa := ⟨_, rfl⟩
  have hqz : qa.size = a.length := by rw [← hqa, mkB_size]
  have HQA := hide hqa
  have HQZ := hide hqz
  rw [hqa]
  have hqb : qa.size ≤ 70000 := by omega
  clear hR hW hqa hrow hb45 hb43 hb32 hb48 hb35 hqz hd
  go_enter Tryz.func41, Tryz.ntmps41
  go_wp2_with fail
  rw [HWW.out]
  go_loopw [6, 7] (fun sv iv wr => ∃ (i : Nat) (out : List UInt8), sv = .string (mkB out) ∧ iv = .int .i64 (i : Int) ∧ i ≤ qa.size ∧ Hid (UnAt a i out) ∧ Hid (wr.heap[w.heap.size]? = some (.cells #[.bool b45, .bool b43, .bool b32, .bool b48, .bool b35, .int .i64 (wd : Int), .int .i64 (pr : Int), .int .u8 98, .int .i64 (kk : Int)] 97 (0, 0))) ∧ Hid (Below w.heap.size w wr)) (fun _ iv _ => qa.size - (intOf iv).toNat)
  case atStart => exact ⟨0, [], rfl, rfl, by omega, hide (UnAt.start _), HRW, HB⟩
  case round =>
    obtain ⟨i, out, rfl, rfl, hi, HUN, HRQ, HBQ⟩ := hrel
    have hol : out.length ≤ 70000 := by have := HUN.out.1; omega
    have hoz : (mkB out).size ≤ 70000 := by rw [mkB_size]; exact hol
    clear y0 y1 y2 y3 y4 y5 y6 y7 y8
    have y0 := Lib.cell_of_heap HRQ.out 0
    have y1 := Lib.cell_of_heap HRQ.out 1
    have y2 := Lib.cell_of_heap HRQ.out 2
    have y3 := Lib.cell_of_heap HRQ.out 3
    have y4 := Lib.cell_of_heap HRQ.out 4
    have y5 := Lib.cell_of_heap HRQ.out 5
    have y6 := Lib.cell_of_heap HRQ.out 6
    have y7 := Lib.cell_of_heap HRQ.out 7
    have y8 := Lib.cell_of_heap HRQ.out 8
    simp at y0 y1 y2 y3 y4 y5 y6 y7 y8
    by_cases hlt : i < qa.size
    case pos =>
      have d0 : (i : Int) < (qa.size : Int) := by omega
      have d1 : (i : Int) ≤ (qa.size : Int) := by omega
      have hal : i < a.length := by rw [← HQZ.out]; exact hlt
      obtain ⟨c, hc⟩ : ∃ c, qa[i]'hlt = c := ⟨_, rfl⟩
      have HC := hide hc
      have HDR : Hid (a.drop i = c :: a.drop (i + 1)) := hide (by
        rw [List.drop_eq_getElem_cons hal, ← hc]
        congr 1
        have h9 := HQA.out
        subst h9
        rfl)
      have HON : Hid (qa.extract i (i + 1) = mkB [c]) := hide (by rw [one_cut qa i hlt, hc])
      by_cases h92 : c = 92
      case pos =>
        have f92 : (((qa[i]'hlt).toNat : Int) == 92) = true := by rw [hc, h92]; rfl
        have HES := hide (escapeR_any (qa.extract i qa.size) wr (by rw [ByteArray.size_extract]; omega))
        have hx1 : (qa.extract i qa.size).data.toList.drop 1 = a.drop (i + 1) := by
          rw [extract_drop, mkB_data2, show qa.data.toList = a by rw [← HQA.out, mkB_data2], HDR.out]; rfl
        simp only [hx1] at HES
        unfold escQ at HES
        clear hx1
        cases he : escP (a.drop (i + 1)) with
        | none =>
          simp only [he] at HES
          have HU2 := hide (HUN.out.step (k' := i + 1) (x := 92) (by omega) (by omega) (by rw [HDR.out, h92]; exact unP_esc_no he))
          have HAP : Hid (mkB out ++ qa.extract i (i + 1) = mkB (out ++ [92])) := hide (by rw [HON.out, mkB_app', h92])
          clear he hc h92
          go_wp2_with fail
          refine HES.out.mono ?_
          rintro e w2 ⟨rfl, hb⟩
          have HB2 := hide (HBQ.out.trans (hb.mono HBQ.out.size))
          have HR2 := hide ((hb.block _ (Array.getElem?_eq_some_iff.1 HRQ.out).1).trans HRQ.out)
          clear hb
          go_wp2_with fail
          go_roundw
          case rel => exact ⟨i + 1, out ++ [92], by rw [← HAP.out], by first | go_num | (simp; omega), by omega, HU2, HR2, HB2⟩
          case measure => simp [intOf]; omega
        | some x =>
          obtain ⟨x, k⟩ := x
          obtain ⟨hk1, hk2⟩ := escP_k he
          rw [List.length_drop] at hk1
          simp only [he] at HES
          have HU2 := hide (HUN.out.step (k' := i + (k + 1)) (x := x) (by omega) (by omega) (by rw [HDR.out, h92, unP_esc he, List.drop_drop]; congr 3; omega))
          have hk3 : (0 : Int) < (k : Int) + 1 := by omega
          have hkz : i + (k + 1) ≤ qa.size := by rw [HQZ.out]; omega
          have HAP : Hid (mkB out ++ (⟨#[x]⟩ : ByteArray) = mkB (out ++ [x])) := hide (by rw [show (⟨#[x]⟩ : ByteArray) = mkB [x] from rfl, mkB_app'])
          clear he hc h92
          go_wp2_with fail
          refine HES.out.mono ?_
          rintro e w2 ⟨rfl, hb⟩
          have HB2 := hide (HBQ.out.trans (hb.mono HBQ.out.size))
          have HR2 := hide ((hb.block _ (Array.getElem?_eq_some_iff.1 HRQ.out).1).trans HRQ.out)
          clear hb
          have hone := one_string w2 x
          have HB3 := hide (HB2.out.alloc HB2.out.size (.cells #[.int .u8 (x.toNat : Int)] 5))
          have HR3 := hide ((heap_alloc_old w2 (.cells #[.int .u8 (x.toNat : Int)] 5) (Array.getElem?_eq_some_iff.1 HR2.out).1).trans HR2.out)
          go_wp2_with fail
          go_roundw
          case rel => exact ⟨i + (k + 1), out ++ [x], by rw [← HAP.out], by first | go_num | (simp; omega), hkz, HU2, HR3, HB3⟩
          case measure => simp [intOf]; omega
      case neg =>
        have f92 : (((qa[i]'hlt).toNat : Int) == 92) = false := by rw [hc]; exact u8_neN h92
        have HU2 := hide (HUN.out.step (k' := i + 1) (x := c) (by omega) (by omega) (by rw [HDR.out]; exact unP_txt h92))
        have HAP : Hid (mkB out ++ qa.extract i (i + 1) = mkB (out ++ [c])) := hide (by rw [HON.out, mkB_app'])
        clear hc h92
        go_wp2_with fail
        go_roundw
        case rel => exact ⟨i + 1, out ++ [c], by rw [← HAP.out], by first | go_num | (simp; omega), by omega, HU2, HRQ, HBQ⟩
        case measure => simp [intOf]; omega
    case neg =>
      have d0 : ¬ (i : Int) < (qa.size : Int) := by omega
      have HDN : Hid (unP a = out) := hide (HUN.out.done (by rw [← HQZ.out]; exact hlt))
      rw [HDN.out] at HV
      obtain ⟨qo, hqo⟩ : ∃ qo, mkB out = qo := ⟨_, rfl⟩
      rw [hqo] at hoz ⊢
      have HQO := hide hqo
      clear hqo
      have hpp : (0 : Int) ≤ (pr : Int) := by omega
      by_cases hlt : pr < qo.size
      · have l0 : (pr : Int) < (qo.size : Int) := by omega
        have l1 : (pr : Int) ≤ (qo.size : Int) := by omega
        have l2 : pr ≤ qo.size := by omega
        have HEQ : Hid (mkB ((out).take pr) = qo.extract 0 pr) := hide (by rw [extract_take, show qo.data.toList = out by rw [← show mkB (out) = qo from HQO.out, mkB_data2]])
        have HPD := hide (HPT.out ((out).take pr) (by rw [List.length_take]; have : (out).length ≤ 70000 := (by omega); omega) wr)
        rw [HEQ.out] at HPD
        go_wp2_with fail
        with_reducible refine HPD.out.mono ?_
        rintro e w5 ⟨rfl, hb⟩
        have HB5 := hide (HBQ.out.trans (hb.mono HBQ.out.size))
        clear hb
        go_wp2_with fail
        go_ret2
        refine ⟨?_, HB5.out⟩
        rw [HV.out]
        rfl
      · have l0 : ¬ (pr : Int) < (qo.size : Int) := by omega
        have HEQ : Hid (mkB ((out).take pr) = qo) := hide (by rw [List.take_of_length_le (by have h := congrArg ByteArray.size (show mkB (out) = qo from HQO.out); rw [mkB_size] at h; omega)]; exact HQO.out)
        have HPD := hide (HPT.out ((out).take pr) (by rw [List.length_take]; have : (out).length ≤ 70000 := (by omega); omega) wr)
        rw [HEQ.out] at HPD
        go_wp2_with fail
        with_reducible refine HPD.out.mono ?_
        rintro e w5 ⟨rfl, hb⟩
        have HB5 := hide (HBQ.out.trans (hb.mono HBQ.out.size))
        clear hb
        go_wp2_with fail
        go_ret2
        refine ⟨?_, HB5.out⟩
        rw [HV.out]
        rfl
end Go.Proofs.YtifpmigghplmoaaGreatDoor

/- PfRjc -/
set_option linter.unusedVariables false
set_option linter.unusedSimpArgs false
namespace Go.Proofs.YtifpmigghplmoaaGreatDoor
open Go.RowKit Go.Pw Go.Shelf
set_option maxHeartbeats 16000000 in
set_option maxRecDepth 100000 in
theorem shown_c_f (tx fl : List UInt8) (wd pr kk : Nat) (hd : DvOk (⟨tx, fl, wd, false, pr, 99⟩ : Dv)) (a : List UInt8) (ha : a.length ≤ 70000) (w : World) :
    Calls Tryz.prog 41 #[.agg (rvC (⟨tx, fl, wd, false, pr, 99⟩ : Dv) kk), .string (mkB a)] w fun e w' => e = .returned (.tuple #[.string (mkB (wrP (⟨tx, fl, wd, false, pr, 99⟩ : Dv) a).1), .int .i64 (wrP (⟨tx, fl, wd, false, pr, 99⟩ : Dv) a).2]) ∧ Below w.heap.size w w' := by
  have HV : Hid (wrP (⟨tx, fl, wd, false, pr, 99⟩ : Dv) a = (padP (⟨tx, fl, wd, false, pr, 99⟩ : Dv) (a.take 1), 0)) := hide (by rfl)
  have HPT := hide (fun E hE W => pad_txt (⟨tx, fl, wd, false, pr, 99⟩ : Dv) hd (by dsimp only; decide) kk E hE W)
  have hpr : pr ≤ 999 := hd.2.2
  have hrow : rvC (⟨tx, fl, wd, false, pr, 99⟩ : Dv) kk = #[.bool (decide (45 ∈ fl)), .bool (decide (43 ∈ fl)), .bool (decide (32 ∈ fl)), .bool (decide (48 ∈ fl)), .bool (decide (35 ∈ fl)), .int .i64 (wd : Int), .int .i64 (-1), .int .u8 99, .int .i64 (kk : Int)] := by
    simp only [rvC, show ((99 : UInt8) = 0) = False by decide, if_false]; rfl
  simp only [hrow] at HPT
  rw [hrow]
  obtain ⟨b45, hb45⟩ : ∃ x, decide (45 ∈ fl) = x := ⟨_, rfl⟩
  obtain ⟨b43, hb43⟩ : ∃ x, decide (43 ∈ fl) = x := ⟨_, rfl⟩
  obtain ⟨b32, hb32⟩ : ∃ x, decide (32 ∈ fl) = x := ⟨_, rfl⟩
  obtain ⟨b48, hb48⟩ : ∃ x, decide (48 ∈ fl) = x := ⟨_, rfl⟩
  obtain ⟨b35, hb35⟩ : ∃ x, decide (35 ∈ fl) = x := ⟨_, rfl⟩
  rw [hb45, hb43, hb32, hb48, hb35]
  simp only [hb45, hb43, hb32, hb48, hb35] at HPT
  have hR : (w.alloc (.cells #[.bool b45, .bool b43, .bool b32, .bool b48, .bool b35, .int .i64 (wd : Int), .int .i64 (-1), .int .u8 99, .int .i64 (kk : Int)] 97)).heap[w.heap.size]? = some (.cells #[.bool b45, .bool b43, .bool b32, .bool b48, .bool b35, .int .i64 (wd : Int), .int .i64 (-1), .int .u8 99, .int .i64 (kk : Int)] 97 (0, 0)) := heap_alloc_new w _
  obtain ⟨W, hW⟩ : ∃ W, w.alloc (.cells #[.bool b45, .bool b43, .bool b32, .bool b48, .bool b35, .int .i64 (wd : Int), .int .i64 (-1), .int .u8 99, .int .i64 (kk : Int)] 97) = W := ⟨_, rfl⟩
  have HB : Hid (Below w.heap.size w W) := hide (by rw [← hW]; exact (Below.refl w.heap.size w).alloc (Nat.le_refl _) _)
  rw [hW] at hR
  have HRW := hide hR
  have HWW := hide hW
  have y0 := Lib.cell_of_heap HRW.out 0
  have y1 := Lib.cell_of_heap HRW.out 1
  have y2 := Lib.cell_of_heap HRW.out 2
  have y3 := Lib.cell_of_heap HRW.out 3
  have y4 := Lib.cell_of_heap HRW.out 4
  have y5 := Lib.cell_of_heap HRW.out 5
  have y6 := Lib.cell_of_heap HRW.out 6
  have y7 := Lib.cell_of_heap HRW.out 7
  have y8 := Lib.cell_of_heap HRW.out 8
  simp at y0 y1 y2 y3 y4 y5 y6 y7 y8
  obtain ⟨qa, hqa⟩ : ∃ qa, mkB a = qa := ⟨_, rfl⟩
  have hqz : qa.size = a.length := by rw [← hqa, mkB_size]
  have HQA := hide hqa
  have HQZ := hide hqz
  rw [hqa]
  have hqb : qa.size ≤ 70000 := by omega
  clear hR hW hqa hrow hb45 hb43 hb32 hb48 hb35 hqz hd
  go_enter Tryz.func41, Tryz.ntmps41
  have hpp : (0 : Int) ≤ (1 : Int) := by omega
  by_cases hlt : 1 < qa.size
  · have l0 : (1 : Int) < (qa.size : Int) := by omega
    have l1 : (1 : Int) ≤ (qa.size : Int) := by omega
    have l2 : 1 ≤ qa.size := by omega
    have HEQ : Hid (mkB ((a).take 1) = qa.extract 0 1) := hide (by rw [extract_take, show qa.data.toList = a by rw [← show mkB (a) = qa from HQA.out, mkB_data2]])
    have HPD := hide (HPT.out ((a).take 1) (by rw [List.length_take]; have : (a).length ≤ 70000 := (by omega); omega) W)
    rw [HEQ.out] at HPD
    go_wp2_with fail
    rw [HWW.out]
    with_reducible refine HPD.out.mono ?_
    rintro e w5 ⟨rfl, hb⟩
    have HB5 := hide (HB.out.trans (hb.mono HB.out.size))
    clear hb
    go_wp2_with fail
    go_ret2
    refine ⟨?_, HB5.out⟩
    rw [HV.out]
    rfl
  · have l0 : ¬ (1 : Int) < (qa.size : Int) := by omega
    have HEQ : Hid (mkB ((a).take 1) = qa) := hide (by rw [List.take_of_length_le (by have h := congrArg ByteArray.size (show mkB (a) = qa from HQA.out); rw [mkB_size] at h; omega)]; exact HQA.out)
    have HPD := hide (HPT.out ((a).take 1) (by rw [List.length_take]; have : (a).length ≤ 70000 := (by omega); omega) W)
    rw [HEQ.out] at HPD
    go_wp2_with fail
    rw [HWW.out]
    with_reducible refine HPD.out.mono ?_
    rintro e w5 ⟨rfl, hb⟩
    have HB5 := hide (HB.out.trans (hb.mono HB.out.size))
    clear hb
    go_wp2_with fail
    go_ret2
    refine ⟨?_, HB5.out⟩
    rw [HV.out]
    rfl
set_option maxHeartbeats 16000000 in
set_option maxRecDepth 100000 in
theorem shown_c_t (tx fl : List UInt8) (wd pr kk : Nat) (hd : DvOk (⟨tx, fl, wd, true, pr, 99⟩ : Dv)) (a : List UInt8) (ha : a.length ≤ 70000) (w : World) :
    Calls Tryz.prog 41 #[.agg (rvC (⟨tx, fl, wd, true, pr, 99⟩ : Dv) kk), .string (mkB a)] w fun e w' => e = .returned (.tuple #[.string (mkB (wrP (⟨tx, fl, wd, true, pr, 99⟩ : Dv) a).1), .int .i64 (wrP (⟨tx, fl, wd, true, pr, 99⟩ : Dv) a).2]) ∧ Below w.heap.size w w' := by
  have HV : Hid (wrP (⟨tx, fl, wd, true, pr, 99⟩ : Dv) a = (padP (⟨tx, fl, wd, true, pr, 99⟩ : Dv) (a.take 1), 0)) := hide (by rfl)
  have HPT := hide (fun E hE W => pad_txt (⟨tx, fl, wd, true, pr, 99⟩ : Dv) hd (by dsimp only; decide) kk E hE W)
  have hpr : pr ≤ 999 := hd.2.2
  have hrow : rvC (⟨tx, fl, wd, true, pr, 99⟩ : Dv) kk = #[.bool (decide (45 ∈ fl)), .bool (decide (43 ∈ fl)), .bool (decide (32 ∈ fl)), .bool (decide (48 ∈ fl)), .bool (decide (35 ∈ fl)), .int .i64 (wd : Int), .int .i64 (pr : Int), .int .u8 99, .int .i64 (kk : Int)] := by
    simp only [rvC, show ((99 : UInt8) = 0) = False by decide, if_false]; rfl
  simp only [hrow] at HPT
  rw [hrow]
  obtain ⟨b45, hb45⟩ : ∃ x, decide (45 ∈ fl) = x := ⟨_, rfl⟩
  obtain ⟨b43, hb43⟩ : ∃ x, decide (43 ∈ fl) = x := ⟨_, rfl⟩
  obtain ⟨b32, hb32⟩ : ∃ x, decide (32 ∈ fl) = x := ⟨_, rfl⟩
  obtain ⟨b48, hb48⟩ : ∃ x, decide (48 ∈ fl) = x := ⟨_, rfl⟩
  obtain ⟨b35, hb35⟩ : ∃ x, decide (35 ∈ fl) = x := ⟨_, rfl⟩
  rw [hb45, hb43, hb32, hb48, hb35]
  simp only [hb45, hb43, hb32, hb48, hb35] at HPT
  have hR : (w.alloc (.cells #[.bool b45, .bool b43, .bool b32, .bool b48, .bool b35, .int .i64 (wd : Int), .int .i64 (pr : Int), .int .u8 99, .int .i64 (kk : Int)] 97)).heap[w.heap.size]? = some (.cells #[.bool b45, .bool b43, .bool b32, .bool b48, .bool b35, .int .i64 (wd : Int), .int .i64 (pr : Int), .int .u8 99, .int .i64 (kk : Int)] 97 (0, 0)) := heap_alloc_new w _
  obtain ⟨W, hW⟩ : ∃ W, w.alloc (.cells #[.bool b45, .bool b43, .bool b32, .bool b48, .bool b35, .int .i64 (wd : Int), .int .i64 (pr : Int), .int .u8 99, .int .i64 (kk : Int)] 97) = W := ⟨_, rfl⟩
  have HB : Hid (Below w.heap.size w W) := hide (by rw [← hW]; exact (Below.refl w.heap.size w).alloc (Nat.le_refl _) _)
  rw [hW] at hR
  have HRW := hide hR
  have HWW := hide hW
  have y0 := Lib.cell_of_heap HRW.out 0
  have y1 := Lib.cell_of_heap HRW.out 1
  have y2 := Lib.cell_of_heap HRW.out 2
  have y3 := Lib.cell_of_heap HRW.out 3
  have y4 := Lib.cell_of_heap HRW.out 4
  have y5 := Lib.cell_of_heap HRW.out 5
  have y6 := Lib.cell_of_heap HRW.out 6
  have y7 := Lib.cell_of_heap HRW.out 7
  have y8 := Lib.cell_of_heap HRW.out 8
  simp at y0 y1 y2 y3 y4 y5 y6 y7 y8
  obtain ⟨qa, hqa⟩ : ∃ qa, mkB a = qa := ⟨_, rfl⟩
  have hqz : qa.size = a.length := by rw [← hqa, mkB_size]
  have HQA := hide hqa
  have HQZ := hide hqz
  rw [hqa]
  have hqb : qa.size ≤ 70000 := by omega
  clear hR hW hqa hrow hb45 hb43 hb32 hb48 hb35 hqz hd
  go_enter Tryz.func41, Tryz.ntmps41
  have hpp : (0 : Int) ≤ (1 : Int) := by omega
  by_cases hlt : 1 < qa.size
  · have l0 : (1 : Int) < (qa.size : Int) := by omega
    have l1 : (1 : Int) ≤ (qa.size : Int) := by omega
    have l2 : 1 ≤ qa.size := by omega
    have HEQ : Hid (mkB ((a).take 1) = qa.extract 0 1) := hide (by rw [extract_take, show qa.data.toList = a by rw [← show mkB (a) = qa from HQA.out, mkB_data2]])
    have HPD := hide (HPT.out ((a).take 1) (by rw [List.length_take]; have : (a).length ≤ 70000 := (by omega); omega) W)
    rw [HEQ.out] at HPD
    go_wp2_with fail
    rw [HWW.out]
    with_reducible refine HPD.out.mono ?_
    rintro e w5 ⟨rfl, hb⟩
    have HB5 := hide (HB.out.trans (hb.mono HB.out.size))
    clear hb
    go_wp2_with fail
    go_ret2
    refine ⟨?_, HB5.out⟩
    rw [HV.out]
    rfl
  · have l0 : ¬ (1 : Int) < (qa.size : Int) := by omega
    have HEQ : Hid (mkB ((a).take 1) = qa) := hide (by rw [List.take_of_length_le (by have h := congrArg ByteArray.size (show mkB (a) = qa from HQA.out); rw [mkB_size] at h; omega)]; exact HQA.out)
    have HPD := hide (HPT.out ((a).take 1) (by rw [List.length_take]; have : (a).length ≤ 70000 := (by omega); omega) W)
    rw [HEQ.out] at HPD
    go_wp2_with fail
    rw [HWW.out]
    with_reducible refine HPD.out.mono ?_
    rintro e w5 ⟨rfl, hb⟩
    have HB5 := hide (HB.out.trans (hb.mono HB.out.size))
    clear hb
    go_wp2_with fail
    go_ret2
    refine ⟨?_, HB5.out⟩
    rw [HV.out]
    rfl
end Go.Proofs.YtifpmigghplmoaaGreatDoor
