/- Printf: the program's written at one letter (printed by gen_pfw.py). -/
import Derived.Test.YtifpmigghplmoaaGreatDoorZPrK
import Derived.Test.YtifpmigghplmoaaGreatDoorZPfE
/- PfWs -/
set_option linter.unusedVariables false
set_option linter.unusedSimpArgs false
namespace Go.Proofs.YtifpmigghplmoaaGreatDoor
open Go.RowKit Go.Pw Go.Shelf
set_option maxHeartbeats 16000000 in
set_option maxRecDepth 100000 in
theorem written_s_f (tx fl : List UInt8) (wd pr : Nat) (hd : DvOk (⟨tx, fl, wd, false, pr, 115⟩ : Dv)) (a : List UInt8) (ha : a.length ≤ 900000) (w : World) (hE : ErrT w) :
    Calls Tryz.prog 35 #[dvV (⟨tx, fl, wd, false, pr, 115⟩ : Dv), .string (mkB a)] w fun e w' => e = .returned (.tuple #[.string (mkB (wrP (⟨tx, fl, wd, false, pr, 115⟩ : Dv) a).1), .int .i64 (wrP (⟨tx, fl, wd, false, pr, 115⟩ : Dv) a).2]) ∧ Below w.heap.size w w' := by
  have HR0 : Hid (DvRow 89 w.heap.size (⟨tx, fl, wd, false, pr, 115⟩ : Dv) (w.alloc (.cells #[.string (mkB tx), .string (mkB fl), .int .i64 (wd : Int), .bool false, .int .i64 (pr : Int), .int .u8 115] 89))) := hide (heap_alloc_new w _)
  have HB0 := hide ((Below.refl w.heap.size w).alloc (Nat.le_refl _) (.cells #[.string (mkB tx), .string (mkB fl), .int .i64 (wd : Int), .bool false, .int .i64 (pr : Int), .int .u8 115] 89))
  have HV : Hid (wrP (⟨tx, fl, wd, false, pr, 115⟩ : Dv) a = (padP (⟨tx, fl, wd, false, pr, 115⟩ : Dv) (a), 0)) := hide (by rfl)
  have hwd : wd ≤ 999 := hd.2.1
  have hpr : pr ≤ 999 := hd.2.2
  have hBl : a.length ≤ 900000 := by exact ha
  obtain ⟨q, hq⟩ : ∃ q, mkB a = q := ⟨_, rfl⟩
  have hqz : q.size ≤ 900000 := by rw [← hq, mkB_size]; exact hBl
  have HZ : Hid (mkB a = q) := hide hq
  have HYL : Hid (a.length = q.size) := hide (by rw [← hq, mkB_size])
  rw [hq]
  obtain ⟨c, hc⟩ : ∃ c : Nat, max ((wd : Int) - (q.size : Int)) 0 = (c : Int) := ⟨(max ((wd : Int) - (q.size : Int)) 0).toNat, by omega⟩
  have HRP := hide (fun W => repeatOne_any 32 c W (by omega))
  have hcz : (mkB (List.replicate c 32)).size ≤ 1000 := by rw [mkB_size, List.length_replicate]; omega
  have hCN : Hid (c = wd - (a).length) := hide (by rw [HYL.out]; omega)
  obtain ⟨p, hp⟩ : ∃ p, mkB (List.replicate c 32) = p := ⟨_, rfl⟩
  rw [hp] at hcz
  simp only [hp] at HRP
  have HF1 : Hid (45 ∈ fl → mkB (padP (⟨tx, fl, wd, false, pr, 115⟩ : Dv) (a)) = q ++ p) := hide (fun h => by unfold padP; rw [if_pos h, ← hCN.out, ← HZ.out, ← hp, mkB_app'])
  have HF2 : Hid (¬ 45 ∈ fl → mkB (padP (⟨tx, fl, wd, false, pr, 115⟩ : Dv) (a)) = p ++ q) := hide (fun h => by unfold padP; rw [if_neg h, ← hCN.out, ← HZ.out, ← hp, mkB_app'])
  have H45 := hide (fun W => has_any (⟨tx, fl, wd, false, pr, 115⟩ : Dv) 45 W)
  clear hp hq hd hE ha hBl
  show Calls Tryz.prog _ #[.agg #[.string (mkB tx), .string (mkB fl), .int .i64 (wd : Int), .bool false, .int .i64 (pr : Int), .int .u8 115], .string q] w _
  go_enter Tryz.func35, Tryz.ntmps35
  go_wp2_with fail
  have R := HR0
  have HB2 := HB0
  refine (HRP.out _).mono ?_
  rintro e w5 ⟨rfl, hb⟩
  have R5 := hide (R.out.keep hb)
  have HB5 := hide (HB2.out.trans (hb.mono HB2.out.size))
  clear hb
  obtain ⟨⟨z0, z1, z2⟩, z3, z4, z5⟩ := R5.out.cells
  go_wp2_with fail
  refine (H45.out _).mono ?_
  rintro e w8 ⟨rfl, hb⟩
  have HB8 := hide (HB5.out.trans (hb.mono HB5.out.size))
  clear hb
  by_cases h45 : 45 ∈ fl
  · have HFIN := hide (HF1.out h45)
    rw [decide_eq_true h45]
    clear h45
    go_wp2_with fail
    go_ret2
    refine ⟨?_, HB8.out⟩
    rw [HV.out]
    simp only [HFIN.out]
    rfl
  · have HFIN := hide (HF2.out h45)
    rw [decide_eq_false h45]
    clear h45
    go_wp2_with fail
    go_ret2
    refine ⟨?_, HB8.out⟩
    rw [HV.out]
    simp only [HFIN.out]
    rfl
set_option maxHeartbeats 16000000 in
set_option maxRecDepth 100000 in
theorem written_s_t (tx fl : List UInt8) (wd pr : Nat) (hd : DvOk (⟨tx, fl, wd, true, pr, 115⟩ : Dv)) (a : List UInt8) (ha : a.length ≤ 900000) (w : World) (hE : ErrT w) :
    Calls Tryz.prog 35 #[dvV (⟨tx, fl, wd, true, pr, 115⟩ : Dv), .string (mkB a)] w fun e w' => e = .returned (.tuple #[.string (mkB (wrP (⟨tx, fl, wd, true, pr, 115⟩ : Dv) a).1), .int .i64 (wrP (⟨tx, fl, wd, true, pr, 115⟩ : Dv) a).2]) ∧ Below w.heap.size w w' := by
  have HR0 : Hid (DvRow 89 w.heap.size (⟨tx, fl, wd, true, pr, 115⟩ : Dv) (w.alloc (.cells #[.string (mkB tx), .string (mkB fl), .int .i64 (wd : Int), .bool true, .int .i64 (pr : Int), .int .u8 115] 89))) := hide (heap_alloc_new w _)
  have HB0 := hide ((Below.refl w.heap.size w).alloc (Nat.le_refl _) (.cells #[.string (mkB tx), .string (mkB fl), .int .i64 (wd : Int), .bool true, .int .i64 (pr : Int), .int .u8 115] 89))
  have HV : Hid (wrP (⟨tx, fl, wd, true, pr, 115⟩ : Dv) a = (padP (⟨tx, fl, wd, true, pr, 115⟩ : Dv) ((a).take pr), 0)) := hide (by rfl)
  have hwd : wd ≤ 999 := hd.2.1
  have hpr : pr ≤ 999 := hd.2.2
  have hBl : a.length ≤ 900000 := by exact ha
  obtain ⟨q, hq⟩ : ∃ q, mkB a = q := ⟨_, rfl⟩
  have hqz : q.size ≤ 900000 := by rw [← hq, mkB_size]; exact hBl
  obtain ⟨k, hk⟩ : ∃ k, min pr q.size = k := ⟨_, rfl⟩
  have hkz : k ≤ q.size := by omega
  have k0 : (0 : Int) ≤ (k : Int) := by omega
  have k1 : (k : Int) ≤ (q.size : Int) := by omega
  have emin : min (pr : Int) (q.size : Int) = (k : Int) := by omega
  have HQX : Hid (q.extract 0 k = mkB (a.take pr)) := hide (by
    rw [extract_take q k, ← hq, mkB_data2]
    congr 1
    have hl : a.length = q.size := by rw [← hq, mkB_size]
    by_cases h : pr ≤ a.length
    · rw [show k = pr by omega]
    · rw [List.take_of_length_le (by omega), List.take_of_length_le (by omega)])
  obtain ⟨z, hz⟩ : ∃ z, mkB (a.take pr) = z := ⟨_, rfl⟩
  have hzz : z.size = k := by rw [← hz, ← HQX.out, ByteArray.size_extract]; omega
  have HYL : Hid ((a.take pr).length = k) := hide (by rw [← hzz, ← hz, mkB_size])
  have HZ : Hid (mkB (a.take pr) = q.extract 0 k) := hide HQX.out.symm
  clear hk hz hzz
  rw [hq]
  obtain ⟨c, hc⟩ : ∃ c : Nat, max ((wd : Int) - (k : Int)) 0 = (c : Int) := ⟨(max ((wd : Int) - (k : Int)) 0).toNat, by omega⟩
  have HRP := hide (fun W => repeatOne_any 32 c W (by omega))
  have hcz : (mkB (List.replicate c 32)).size ≤ 1000 := by rw [mkB_size, List.length_replicate]; omega
  have hCN : Hid (c = wd - (a.take pr).length) := hide (by rw [HYL.out]; omega)
  obtain ⟨p, hp⟩ : ∃ p, mkB (List.replicate c 32) = p := ⟨_, rfl⟩
  rw [hp] at hcz
  simp only [hp] at HRP
  have HF1 : Hid (45 ∈ fl → mkB (padP (⟨tx, fl, wd, true, pr, 115⟩ : Dv) (a.take pr)) = q.extract 0 k ++ p) := hide (fun h => by unfold padP; rw [if_pos h, ← hCN.out, ← HZ.out, ← hp, mkB_app'])
  have HF2 : Hid (¬ 45 ∈ fl → mkB (padP (⟨tx, fl, wd, true, pr, 115⟩ : Dv) (a.take pr)) = p ++ q.extract 0 k) := hide (fun h => by unfold padP; rw [if_neg h, ← hCN.out, ← HZ.out, ← hp, mkB_app'])
  have H45 := hide (fun W => has_any (⟨tx, fl, wd, true, pr, 115⟩ : Dv) 45 W)
  clear hp hq hd hE ha hBl
  show Calls Tryz.prog _ #[.agg #[.string (mkB tx), .string (mkB fl), .int .i64 (wd : Int), .bool true, .int .i64 (pr : Int), .int .u8 115], .string q] w _
  go_enter Tryz.func35, Tryz.ntmps35
  go_wp2_with fail
  have R := HR0
  have HB2 := HB0
  refine (HRP.out _).mono ?_
  rintro e w5 ⟨rfl, hb⟩
  have R5 := hide (R.out.keep hb)
  have HB5 := hide (HB2.out.trans (hb.mono HB2.out.size))
  clear hb
  obtain ⟨⟨z0, z1, z2⟩, z3, z4, z5⟩ := R5.out.cells
  go_wp2_with fail
  refine (H45.out _).mono ?_
  rintro e w8 ⟨rfl, hb⟩
  have HB8 := hide (HB5.out.trans (hb.mono HB5.out.size))
  clear hb
  by_cases h45 : 45 ∈ fl
  · have HFIN := hide (HF1.out h45)
    rw [decide_eq_true h45]
    clear h45
    go_wp2_with fail
    go_ret2
    refine ⟨?_, HB8.out⟩
    rw [HV.out]
    simp only [HFIN.out]
    rfl
  · have HFIN := hide (HF2.out h45)
    rw [decide_eq_false h45]
    clear h45
    go_wp2_with fail
    go_ret2
    refine ⟨?_, HB8.out⟩
    rw [HV.out]
    simp only [HFIN.out]
    rfl
end Go.Proofs.YtifpmigghplmoaaGreatDoor

/- PfWb -/
set_option linter.unusedVariables false
set_option linter.unusedSimpArgs false
namespace Go.Proofs.YtifpmigghplmoaaGreatDoor
open Go.RowKit Go.Pw Go.Shelf
set_option maxHeartbeats 16000000 in
set_option maxRecDepth 100000 in
theorem written_b_f (tx fl : List UInt8) (wd pr : Nat) (hd : DvOk (⟨tx, fl, wd, false, pr, 98⟩ : Dv)) (a : List UInt8) (ha : a.length ≤ 900000) (w : World) (hE : ErrT w) :
    Calls Tryz.prog 35 #[dvV (⟨tx, fl, wd, false, pr, 98⟩ : Dv), .string (mkB a)] w fun e w' => e = .returned (.tuple #[.string (mkB (wrP (⟨tx, fl, wd, false, pr, 98⟩ : Dv) a).1), .int .i64 (wrP (⟨tx, fl, wd, false, pr, 98⟩ : Dv) a).2]) ∧ Below w.heap.size w w' := by
  have HR0 : Hid (DvRow 89 w.heap.size (⟨tx, fl, wd, false, pr, 98⟩ : Dv) (w.alloc (.cells #[.string (mkB tx), .string (mkB fl), .int .i64 (wd : Int), .bool false, .int .i64 (pr : Int), .int .u8 98] 89))) := hide (heap_alloc_new w _)
  have HB0 := hide ((Below.refl w.heap.size w).alloc (Nat.le_refl _) (.cells #[.string (mkB tx), .string (mkB fl), .int .i64 (wd : Int), .bool false, .int .i64 (pr : Int), .int .u8 98] 89))
  have HV : Hid (wrP (⟨tx, fl, wd, false, pr, 98⟩ : Dv) a = (padP (⟨tx, fl, wd, false, pr, 98⟩ : Dv) (unP a), 0)) := hide (by rfl)
  have hwd : wd ≤ 999 := hd.2.1
  have hpr : pr ≤ 999 := hd.2.2
  obtain ⟨B, hB⟩ : ∃ B, unP a = B := ⟨_, rfl⟩
  have hBl : B.length ≤ 900000 := by rw [← hB]; have := unP_len a; omega
  obtain ⟨q, hq⟩ : ∃ q, mkB B = q := ⟨_, rfl⟩
  have hqz : q.size ≤ 900000 := by rw [← hq, mkB_size]; exact hBl
  have HUN := hide (unescaped_any (mkB a) (w.alloc (.cells #[.string (mkB tx), .string (mkB fl), .int .i64 (wd : Int), .bool false, .int .i64 (pr : Int), .int .u8 98] 89)) (by rw [mkB_size]; exact ha) (hE.below HB0.out))
  rw [mkB_data2, hB, hq] at HUN
  rw [hB] at HV
  have HZ : Hid (mkB B = q) := hide hq
  have HYL : Hid (B.length = q.size) := hide (by rw [← hq, mkB_size])
  obtain ⟨qa, hqa⟩ : ∃ qa, mkB a = qa := ⟨_, rfl⟩
  rw [hqa] at HUN ⊢
  clear hqa hB
  obtain ⟨c, hc⟩ : ∃ c : Nat, max ((wd : Int) - (q.size : Int)) 0 = (c : Int) := ⟨(max ((wd : Int) - (q.size : Int)) 0).toNat, by omega⟩
  have HRP := hide (fun W => repeatOne_any 32 c W (by omega))
  have hcz : (mkB (List.replicate c 32)).size ≤ 1000 := by rw [mkB_size, List.length_replicate]; omega
  have hCN : Hid (c = wd - (B).length) := hide (by rw [HYL.out]; omega)
  obtain ⟨p, hp⟩ : ∃ p, mkB (List.replicate c 32) = p := ⟨_, rfl⟩
  rw [hp] at hcz
  simp only [hp] at HRP
  have HF1 : Hid (45 ∈ fl → mkB (padP (⟨tx, fl, wd, false, pr, 98⟩ : Dv) (B)) = q ++ p) := hide (fun h => by unfold padP; rw [if_pos h, ← hCN.out, ← HZ.out, ← hp, mkB_app'])
  have HF2 : Hid (¬ 45 ∈ fl → mkB (padP (⟨tx, fl, wd, false, pr, 98⟩ : Dv) (B)) = p ++ q) := hide (fun h => by unfold padP; rw [if_neg h, ← hCN.out, ← HZ.out, ← hp, mkB_app'])
  have H45 := hide (fun W => has_any (⟨tx, fl, wd, false, pr, 98⟩ : Dv) 45 W)
  clear hp hq hd hE ha hBl
  show Calls Tryz.prog _ #[.agg #[.string (mkB tx), .string (mkB fl), .int .i64 (wd : Int), .bool false, .int .i64 (pr : Int), .int .u8 98], .string qa] w _
  go_enter Tryz.func35, Tryz.ntmps35
  go_wp2_with fail
  refine HUN.out.mono ?_
  rintro e w2 ⟨rfl, hb⟩
  have R := hide (HR0.out.keep hb)
  have HB2 := hide (HB0.out.trans (hb.mono HB0.out.size))
  clear hb
  obtain ⟨⟨y0, y1, y2⟩, y3, y4, y5⟩ := R.out.cells
  go_wp2_with fail
  refine (HRP.out _).mono ?_
  rintro e w5 ⟨rfl, hb⟩
  have R5 := hide (R.out.keep hb)
  have HB5 := hide (HB2.out.trans (hb.mono HB2.out.size))
  clear hb
  obtain ⟨⟨z0, z1, z2⟩, z3, z4, z5⟩ := R5.out.cells
  go_wp2_with fail
  refine (H45.out _).mono ?_
  rintro e w8 ⟨rfl, hb⟩
  have HB8 := hide (HB5.out.trans (hb.mono HB5.out.size))
  clear hb
  by_cases h45 : 45 ∈ fl
  · have HFIN := hide (HF1.out h45)
    rw [decide_eq_true h45]
    clear h45
    go_wp2_with fail
    go_ret2
    refine ⟨?_, HB8.out⟩
    rw [HV.out]
    simp only [HFIN.out]
    rfl
  · have HFIN := hide (HF2.out h45)
    rw [decide_eq_false h45]
    clear h45
    go_wp2_with fail
    go_ret2
    refine ⟨?_, HB8.out⟩
    rw [HV.out]
    simp only [HFIN.out]
    rfl
set_option maxHeartbeats 16000000 in
set_option maxRecDepth 100000 in
theorem written_b_t (tx fl : List UInt8) (wd pr : Nat) (hd : DvOk (⟨tx, fl, wd, true, pr, 98⟩ : Dv)) (a : List UInt8) (ha : a.length ≤ 900000) (w : World) (hE : ErrT w) :
    Calls Tryz.prog 35 #[dvV (⟨tx, fl, wd, true, pr, 98⟩ : Dv), .string (mkB a)] w fun e w' => e = .returned (.tuple #[.string (mkB (wrP (⟨tx, fl, wd, true, pr, 98⟩ : Dv) a).1), .int .i64 (wrP (⟨tx, fl, wd, true, pr, 98⟩ : Dv) a).2]) ∧ Below w.heap.size w w' := by
  have HR0 : Hid (DvRow 89 w.heap.size (⟨tx, fl, wd, true, pr, 98⟩ : Dv) (w.alloc (.cells #[.string (mkB tx), .string (mkB fl), .int .i64 (wd : Int), .bool true, .int .i64 (pr : Int), .int .u8 98] 89))) := hide (heap_alloc_new w _)
  have HB0 := hide ((Below.refl w.heap.size w).alloc (Nat.le_refl _) (.cells #[.string (mkB tx), .string (mkB fl), .int .i64 (wd : Int), .bool true, .int .i64 (pr : Int), .int .u8 98] 89))
  have HV : Hid (wrP (⟨tx, fl, wd, true, pr, 98⟩ : Dv) a = (padP (⟨tx, fl, wd, true, pr, 98⟩ : Dv) ((unP a).take pr), 0)) := hide (by rfl)
  have hwd : wd ≤ 999 := hd.2.1
  have hpr : pr ≤ 999 := hd.2.2
  obtain ⟨B, hB⟩ : ∃ B, unP a = B := ⟨_, rfl⟩
  have hBl : B.length ≤ 900000 := by rw [← hB]; have := unP_len a; omega
  obtain ⟨q, hq⟩ : ∃ q, mkB B = q := ⟨_, rfl⟩
  have hqz : q.size ≤ 900000 := by rw [← hq, mkB_size]; exact hBl
  have HUN := hide (unescaped_any (mkB a) (w.alloc (.cells #[.string (mkB tx), .string (mkB fl), .int .i64 (wd : Int), .bool true, .int .i64 (pr : Int), .int .u8 98] 89)) (by rw [mkB_size]; exact ha) (hE.below HB0.out))
  rw [mkB_data2, hB, hq] at HUN
  rw [hB] at HV
  obtain ⟨k, hk⟩ : ∃ k, min pr q.size = k := ⟨_, rfl⟩
  have hkz : k ≤ q.size := by omega
  have k0 : (0 : Int) ≤ (k : Int) := by omega
  have k1 : (k : Int) ≤ (q.size : Int) := by omega
  have emin : min (pr : Int) (q.size : Int) = (k : Int) := by omega
  have HQX : Hid (q.extract 0 k = mkB (B.take pr)) := hide (by
    rw [extract_take q k, ← hq, mkB_data2]
    congr 1
    have hl : B.length = q.size := by rw [← hq, mkB_size]
    by_cases h : pr ≤ B.length
    · rw [show k = pr by omega]
    · rw [List.take_of_length_le (by omega), List.take_of_length_le (by omega)])
  obtain ⟨z, hz⟩ : ∃ z, mkB (B.take pr) = z := ⟨_, rfl⟩
  have hzz : z.size = k := by rw [← hz, ← HQX.out, ByteArray.size_extract]; omega
  have HYL : Hid ((B.take pr).length = k) := hide (by rw [← hzz, ← hz, mkB_size])
  have HZ : Hid (mkB (B.take pr) = q.extract 0 k) := hide HQX.out.symm
  clear hk hz hzz
  obtain ⟨qa, hqa⟩ : ∃ qa, mkB a = qa := ⟨_, rfl⟩
  rw [hqa] at HUN ⊢
  clear hqa hB
  obtain ⟨c, hc⟩ : ∃ c : Nat, max ((wd : Int) - (k : Int)) 0 = (c : Int) := ⟨(max ((wd : Int) - (k : Int)) 0).toNat, by omega⟩
  have HRP := hide (fun W => repeatOne_any 32 c W (by omega))
  have hcz : (mkB (List.replicate c 32)).size ≤ 1000 := by rw [mkB_size, List.length_replicate]; omega
  have hCN : Hid (c = wd - (B.take pr).length) := hide (by rw [HYL.out]; omega)
  obtain ⟨p, hp⟩ : ∃ p, mkB (List.replicate c 32) = p := ⟨_, rfl⟩
  rw [hp] at hcz
  simp only [hp] at HRP
  have HF1 : Hid (45 ∈ fl → mkB (padP (⟨tx, fl, wd, true, pr, 98⟩ : Dv) (B.take pr)) = q.extract 0 k ++ p) := hide (fun h => by unfold padP; rw [if_pos h, ← hCN.out, ← HZ.out, ← hp, mkB_app'])
  have HF2 : Hid (¬ 45 ∈ fl → mkB (padP (⟨tx, fl, wd, true, pr, 98⟩ : Dv) (B.take pr)) = p ++ q.extract 0 k) := hide (fun h => by unfold padP; rw [if_neg h, ← hCN.out, ← HZ.out, ← hp, mkB_app'])
  have H45 := hide (fun W => has_any (⟨tx, fl, wd, true, pr, 98⟩ : Dv) 45 W)
  clear hp hq hd hE ha hBl
  show Calls Tryz.prog _ #[.agg #[.string (mkB tx), .string (mkB fl), .int .i64 (wd : Int), .bool true, .int .i64 (pr : Int), .int .u8 98], .string qa] w _
  go_enter Tryz.func35, Tryz.ntmps35
  go_wp2_with fail
  refine HUN.out.mono ?_
  rintro e w2 ⟨rfl, hb⟩
  have R := hide (HR0.out.keep hb)
  have HB2 := hide (HB0.out.trans (hb.mono HB0.out.size))
  clear hb
  obtain ⟨⟨y0, y1, y2⟩, y3, y4, y5⟩ := R.out.cells
  go_wp2_with fail
  refine (HRP.out _).mono ?_
  rintro e w5 ⟨rfl, hb⟩
  have R5 := hide (R.out.keep hb)
  have HB5 := hide (HB2.out.trans (hb.mono HB2.out.size))
  clear hb
  obtain ⟨⟨z0, z1, z2⟩, z3, z4, z5⟩ := R5.out.cells
  go_wp2_with fail
  refine (H45.out _).mono ?_
  rintro e w8 ⟨rfl, hb⟩
  have HB8 := hide (HB5.out.trans (hb.mono HB5.out.size))
  clear hb
  by_cases h45 : 45 ∈ fl
  · have HFIN := hide (HF1.out h45)
    rw [decide_eq_true h45]
    clear h45
    go_wp2_with fail
    go_ret2
    refine ⟨?_, HB8.out⟩
    rw [HV.out]
    simp only [HFIN.out]
    rfl
  · have HFIN := hide (HF2.out h45)
    rw [decide_eq_false h45]
    clear h45
    go_wp2_with fail
    go_ret2
    refine ⟨?_, HB8.out⟩
    rw [HV.out]
    simp only [HFIN.out]
    rfl
end Go.Proofs.YtifpmigghplmoaaGreatDoor

/- PfWc -/
set_option linter.unusedVariables false
set_option linter.unusedSimpArgs false
namespace Go.Proofs.YtifpmigghplmoaaGreatDoor
open Go.RowKit Go.Pw Go.Shelf
set_option maxHeartbeats 16000000 in
set_option maxRecDepth 100000 in
theorem written_c_f (tx fl : List UInt8) (wd pr : Nat) (hd : DvOk (⟨tx, fl, wd, false, pr, 99⟩ : Dv)) (a : List UInt8) (ha : a.length ≤ 900000) (w : World) (hE : ErrT w) :
    Calls Tryz.prog 35 #[dvV (⟨tx, fl, wd, false, pr, 99⟩ : Dv), .string (mkB a)] w fun e w' => e = .returned (.tuple #[.string (mkB (wrP (⟨tx, fl, wd, false, pr, 99⟩ : Dv) a).1), .int .i64 (wrP (⟨tx, fl, wd, false, pr, 99⟩ : Dv) a).2]) ∧ Below w.heap.size w w' := by
  have HR0 : Hid (DvRow 89 w.heap.size (⟨tx, fl, wd, false, pr, 99⟩ : Dv) (w.alloc (.cells #[.string (mkB tx), .string (mkB fl), .int .i64 (wd : Int), .bool false, .int .i64 (pr : Int), .int .u8 99] 89))) := hide (heap_alloc_new w _)
  have HB0 := hide ((Below.refl w.heap.size w).alloc (Nat.le_refl _) (.cells #[.string (mkB tx), .string (mkB fl), .int .i64 (wd : Int), .bool false, .int .i64 (pr : Int), .int .u8 99] 89))
  have HV : Hid (wrP (⟨tx, fl, wd, false, pr, 99⟩ : Dv) a = (padP (⟨tx, fl, wd, false, pr, 99⟩ : Dv) ((a).take 1), 0)) := hide (by rfl)
  have hwd : wd ≤ 999 := hd.2.1
  have hpr : pr ≤ 999 := hd.2.2
  have hBl : a.length ≤ 900000 := by exact ha
  obtain ⟨q, hq⟩ : ∃ q, mkB a = q := ⟨_, rfl⟩
  have hqz : q.size ≤ 900000 := by rw [← hq, mkB_size]; exact hBl
  obtain ⟨k, hk⟩ : ∃ k, min 1 q.size = k := ⟨_, rfl⟩
  have hkz : k ≤ q.size := by omega
  have k0 : (0 : Int) ≤ (k : Int) := by omega
  have k1 : (k : Int) ≤ (q.size : Int) := by omega
  have emin : min 1 (q.size : Int) = (k : Int) := by omega
  have HQX : Hid (q.extract 0 k = mkB (a.take 1)) := hide (by
    rw [extract_take q k, ← hq, mkB_data2]
    congr 1
    have hl : a.length = q.size := by rw [← hq, mkB_size]
    by_cases h : 1 ≤ a.length
    · rw [show k = 1 by omega]
    · rw [List.take_of_length_le (by omega), List.take_of_length_le (by omega)])
  obtain ⟨z, hz⟩ : ∃ z, mkB (a.take 1) = z := ⟨_, rfl⟩
  have hzz : z.size = k := by rw [← hz, ← HQX.out, ByteArray.size_extract]; omega
  have HYL : Hid ((a.take 1).length = k) := hide (by rw [← hzz, ← hz, mkB_size])
  have HZ : Hid (mkB (a.take 1) = q.extract 0 k) := hide HQX.out.symm
  clear hk hz hzz
  rw [hq]
  obtain ⟨c, hc⟩ : ∃ c : Nat, max ((wd : Int) - (k : Int)) 0 = (c : Int) := ⟨(max ((wd : Int) - (k : Int)) 0).toNat, by omega⟩
  have HRP := hide (fun W => repeatOne_any 32 c W (by omega))
  have hcz : (mkB (List.replicate c 32)).size ≤ 1000 := by rw [mkB_size, List.length_replicate]; omega
  have hCN : Hid (c = wd - (a.take 1).length) := hide (by rw [HYL.out]; omega)
  obtain ⟨p, hp⟩ : ∃ p, mkB (List.replicate c 32) = p := ⟨_, rfl⟩
  rw [hp] at hcz
  simp only [hp] at HRP
  have HF1 : Hid (45 ∈ fl → mkB (padP (⟨tx, fl, wd, false, pr, 99⟩ : Dv) (a.take 1)) = q.extract 0 k ++ p) := hide (fun h => by unfold padP; rw [if_pos h, ← hCN.out, ← HZ.out, ← hp, mkB_app'])
  have HF2 : Hid (¬ 45 ∈ fl → mkB (padP (⟨tx, fl, wd, false, pr, 99⟩ : Dv) (a.take 1)) = p ++ q.extract 0 k) := hide (fun h => by unfold padP; rw [if_neg h, ← hCN.out, ← HZ.out, ← hp, mkB_app'])
  have H45 := hide (fun W => has_any (⟨tx, fl, wd, false, pr, 99⟩ : Dv) 45 W)
  clear hp hq hd hE ha hBl
  show Calls Tryz.prog _ #[.agg #[.string (mkB tx), .string (mkB fl), .int .i64 (wd : Int), .bool false, .int .i64 (pr : Int), .int .u8 99], .string q] w _
  go_enter Tryz.func35, Tryz.ntmps35
  go_wp2_with fail
  have R := HR0
  have HB2 := HB0
  refine (HRP.out _).mono ?_
  rintro e w5 ⟨rfl, hb⟩
  have R5 := hide (R.out.keep hb)
  have HB5 := hide (HB2.out.trans (hb.mono HB2.out.size))
  clear hb
  obtain ⟨⟨z0, z1, z2⟩, z3, z4, z5⟩ := R5.out.cells
  go_wp2_with fail
  refine (H45.out _).mono ?_
  rintro e w8 ⟨rfl, hb⟩
  have HB8 := hide (HB5.out.trans (hb.mono HB5.out.size))
  clear hb
  by_cases h45 : 45 ∈ fl
  · have HFIN := hide (HF1.out h45)
    rw [decide_eq_true h45]
    clear h45
    go_wp2_with fail
    go_ret2
    refine ⟨?_, HB8.out⟩
    rw [HV.out]
    simp only [HFIN.out]
    rfl
  · have HFIN := hide (HF2.out h45)
    rw [decide_eq_false h45]
    clear h45
    go_wp2_with fail
    go_ret2
    refine ⟨?_, HB8.out⟩
    rw [HV.out]
    simp only [HFIN.out]
    rfl
set_option maxHeartbeats 16000000 in
set_option maxRecDepth 100000 in
theorem written_c_t (tx fl : List UInt8) (wd pr : Nat) (hd : DvOk (⟨tx, fl, wd, true, pr, 99⟩ : Dv)) (a : List UInt8) (ha : a.length ≤ 900000) (w : World) (hE : ErrT w) :
    Calls Tryz.prog 35 #[dvV (⟨tx, fl, wd, true, pr, 99⟩ : Dv), .string (mkB a)] w fun e w' => e = .returned (.tuple #[.string (mkB (wrP (⟨tx, fl, wd, true, pr, 99⟩ : Dv) a).1), .int .i64 (wrP (⟨tx, fl, wd, true, pr, 99⟩ : Dv) a).2]) ∧ Below w.heap.size w w' := by
  have HR0 : Hid (DvRow 89 w.heap.size (⟨tx, fl, wd, true, pr, 99⟩ : Dv) (w.alloc (.cells #[.string (mkB tx), .string (mkB fl), .int .i64 (wd : Int), .bool true, .int .i64 (pr : Int), .int .u8 99] 89))) := hide (heap_alloc_new w _)
  have HB0 := hide ((Below.refl w.heap.size w).alloc (Nat.le_refl _) (.cells #[.string (mkB tx), .string (mkB fl), .int .i64 (wd : Int), .bool true, .int .i64 (pr : Int), .int .u8 99] 89))
  have HV : Hid (wrP (⟨tx, fl, wd, true, pr, 99⟩ : Dv) a = (padP (⟨tx, fl, wd, true, pr, 99⟩ : Dv) ((a).take 1), 0)) := hide (by rfl)
  have hwd : wd ≤ 999 := hd.2.1
  have hpr : pr ≤ 999 := hd.2.2
  have hBl : a.length ≤ 900000 := by exact ha
  obtain ⟨q, hq⟩ : ∃ q, mkB a = q := ⟨_, rfl⟩
  have hqz : q.size ≤ 900000 := by rw [← hq, mkB_size]; exact hBl
  obtain ⟨k, hk⟩ : ∃ k, min 1 q.size = k := ⟨_, rfl⟩
  have hkz : k ≤ q.size := by omega
  have k0 : (0 : Int) ≤ (k : Int) := by omega
  have k1 : (k : Int) ≤ (q.size : Int) := by omega
  have emin : min 1 (q.size : Int) = (k : Int) := by omega
  have HQX : Hid (q.extract 0 k = mkB (a.take 1)) := hide (by
    rw [extract_take q k, ← hq, mkB_data2]
    congr 1
    have hl : a.length = q.size := by rw [← hq, mkB_size]
    by_cases h : 1 ≤ a.length
    · rw [show k = 1 by omega]
    · rw [List.take_of_length_le (by omega), List.take_of_length_le (by omega)])
  obtain ⟨z, hz⟩ : ∃ z, mkB (a.take 1) = z := ⟨_, rfl⟩
  have hzz : z.size = k := by rw [← hz, ← HQX.out, ByteArray.size_extract]; omega
  have HYL : Hid ((a.take 1).length = k) := hide (by rw [← hzz, ← hz, mkB_size])
  have HZ : Hid (mkB (a.take 1) = q.extract 0 k) := hide HQX.out.symm
  clear hk hz hzz
  rw [hq]
  obtain ⟨c, hc⟩ : ∃ c : Nat, max ((wd : Int) - (k : Int)) 0 = (c : Int) := ⟨(max ((wd : Int) - (k : Int)) 0).toNat, by omega⟩
  have HRP := hide (fun W => repeatOne_any 32 c W (by omega))
  have hcz : (mkB (List.replicate c 32)).size ≤ 1000 := by rw [mkB_size, List.length_replicate]; omega
  have hCN : Hid (c = wd - (a.take 1).length) := hide (by rw [HYL.out]; omega)
  obtain ⟨p, hp⟩ : ∃ p, mkB (List.replicate c 32) = p := ⟨_, rfl⟩
  rw [hp] at hcz
  simp only [hp] at HRP
  have HF1 : Hid (45 ∈ fl → mkB (padP (⟨tx, fl, wd, true, pr, 99⟩ : Dv) (a.take 1)) = q.extract 0 k ++ p) := hide (fun h => by unfold padP; rw [if_pos h, ← hCN.out, ← HZ.out, ← hp, mkB_app'])
  have HF2 : Hid (¬ 45 ∈ fl → mkB (padP (⟨tx, fl, wd, true, pr, 99⟩ : Dv) (a.take 1)) = p ++ q.extract 0 k) := hide (fun h => by unfold padP; rw [if_neg h, ← hCN.out, ← HZ.out, ← hp, mkB_app'])
  have H45 := hide (fun W => has_any (⟨tx, fl, wd, true, pr, 99⟩ : Dv) 45 W)
  clear hp hq hd hE ha hBl
  show Calls Tryz.prog _ #[.agg #[.string (mkB tx), .string (mkB fl), .int .i64 (wd : Int), .bool true, .int .i64 (pr : Int), .int .u8 99], .string q] w _
  go_enter Tryz.func35, Tryz.ntmps35
  go_wp2_with fail
  have R := HR0
  have HB2 := HB0
  refine (HRP.out _).mono ?_
  rintro e w5 ⟨rfl, hb⟩
  have R5 := hide (R.out.keep hb)
  have HB5 := hide (HB2.out.trans (hb.mono HB2.out.size))
  clear hb
  obtain ⟨⟨z0, z1, z2⟩, z3, z4, z5⟩ := R5.out.cells
  go_wp2_with fail
  refine (H45.out _).mono ?_
  rintro e w8 ⟨rfl, hb⟩
  have HB8 := hide (HB5.out.trans (hb.mono HB5.out.size))
  clear hb
  by_cases h45 : 45 ∈ fl
  · have HFIN := hide (HF1.out h45)
    rw [decide_eq_true h45]
    clear h45
    go_wp2_with fail
    go_ret2
    refine ⟨?_, HB8.out⟩
    rw [HV.out]
    simp only [HFIN.out]
    rfl
  · have HFIN := hide (HF2.out h45)
    rw [decide_eq_false h45]
    clear h45
    go_wp2_with fail
    go_ret2
    refine ⟨?_, HB8.out⟩
    rw [HV.out]
    simp only [HFIN.out]
    rfl
end Go.Proofs.YtifpmigghplmoaaGreatDoor
