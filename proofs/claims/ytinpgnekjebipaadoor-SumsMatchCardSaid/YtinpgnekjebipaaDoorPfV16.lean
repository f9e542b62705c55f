/- Printf: internal/strconv.formatBits at the base 16 (printed by gen_pfv.py). -/
import Derived.Test.YtinpgnekjebipaaDoorPfV
import Derived.Test.YtinpgnekjebipaaDoorTextW
import Derived.Laws.BitsAll
set_option linter.unusedVariables false
set_option linter.unusedSimpArgs false
namespace Go.Proofs.YtinpgnekjebipaaDoor
open Go.RowKit Go.Pw Go.Shelf
set_option maxHeartbeats 8000000 in
set_option maxRecDepth 100000 in
theorem pow2_16 (W : World) : Calls Tryd.prog 108 #[.int .i64 16] W fun e w' => e = .returned (.bool true) ∧ w' = W := by
  go_enter Tryd.func108, Tryd.ntmps108
  go_wp2_with fail
  go_ret
  exact ⟨rfl, rfl⟩
set_option maxHeartbeats 8000000 in
set_option maxRecDepth 100000 in
theorem tz64_16 (W : World) (hT : TzT W) : Calls Tryd.prog 121 #[.int .u64 16] W fun e w' => e = .returned (.int .i64 4) ∧ w' = W := by
  have hx : (IntKind.u64.wrap (bits BinOp.and IntKind.u64 16 (IntKind.u64.wrap (-16)) * 285870213051353865) / 288230376151711744).toNat = 15 := by decide
  have hc : W.cell? ⟨5, (IntKind.u64.wrap (bits BinOp.and IntKind.u64 16 (IntKind.u64.wrap (-16)) * 285870213051353865) / 288230376151711744).toNat, none⟩ = some (.int .u8 4) := by rw [hx]; exact hT.c16
  clear hx
  go_enter Tryd.func121, Tryd.ntmps121
  go_wp2_with fail
  go_ret
  exact ⟨rfl, rfl⟩
set_option maxHeartbeats 8000000 in
set_option maxRecDepth 100000 in
theorem tz_16 (W : World) (hT : TzT W) : Calls Tryd.prog 109 #[.int .u64 16] W fun e w' => e = .returned (.int .i64 4) ∧ w' = W := by
  have H := hide (tz64_16 W hT)
  clear hT
  go_enter Tryd.func109, Tryd.ntmps109
  go_wp2_with fail
  refine H.out.mono ?_
  rintro e w' ⟨rfl, rfl⟩
  go_wp2_with fail
  go_ret
  exact ⟨rfl, rfl⟩
set_option maxHeartbeats 16000000 in
set_option maxRecDepth 100000 in
theorem fmtBits_16 (u : Nat) (hu : u < 18446744073709551616) (w : World) (hT : TzT w) :
    Calls Tryd.prog 90 #[.slice none 0 0, .int .u64 (u : Int), .int .i64 16, .bool false, .bool false] w fun e w' => e = .returned (.tuple #[.slice none 0 0, .string (mkB (basP 16 u))]) ∧ Below w.heap.size w w' := by
  have HP2 := hide (fun W => pow2_16 W)
  have HTZ := hide (tz_16 (w.alloc (.cells zeros65 147)) (hT.below ((Below.refl _ w).alloc (Nat.le_refl _) _)))
  have HBL : Hid ((basP 16 u).length ≤ 16) := hide (basP_len (b := 16) (by omega) 15 u (by omega))
  have HAND : Hid (∀ v : Nat, v < 18446744073709551616 → bits BinOp.and .u64 (v : Int) 15 = ((v % 16 : Nat) : Int)) := hide (by intro v hv; exact and_m15 v hv)
  have hal : Tryd.prog.arrayLen 147 = 65 := by simp [Program.arrayLen, Tryd.underlying147]
  have HSL : Hid (∀ (m : Nat) W, m < 65 → (Instr.sliceAt 147 (.pointer (some ⟨w.heap.size, 0, none⟩)) (some (.int .i64 (m : Int))) none none).run Tryd.prog W = .ok (.slice (some ⟨w.heap.size, m, none⟩) (65 - m) (65 - m)) W) := hide (fun m W hm => by
    rw [run_sliceAt_array_l W 147 ⟨w.heap.size, 0, none⟩ (by simp [Program.arrayLen, Program.elem, Tryd.underlying147]) .i64 (m : Int) (by omega) (by rw [hal]; omega)]
    go_simp
    try omega)
  have HW0 : Hid (FbW w [] 65 (w.alloc (.cells zeros65 147))) := hide (FbW.start w _)
  clear hal hT
  go_enter Tryd.func90, Tryd.ntmps90
  go_wp2_with fail
  refine (HP2.out _).mono ?_
  rintro e w1 ⟨rfl, rfl⟩
  go_wp2_with fail
  refine HTZ.out.mono ?_
  rintro e w1 ⟨rfl, rfl⟩
  go_wp2_with fail
  go_loopw [1, 13] (fun uv iv wr => ∃ (v m : Nat) (s : List UInt8), uv = .int .u64 (v : Int) ∧ iv = .int .i64 ((m : Int) + 1) ∧ v < 18446744073709551616 ∧ s.length + m = 64 ∧ Hid (basP 16 u = basP 16 v ++ s) ∧ Hid (FbW w s (m + 1) wr)) (fun uv _ _ => (intOf uv).toNat)
  case atStart => exact ⟨u, 64, [], rfl, rfl, hu, by simp, hide (by simp), HW0⟩
  case round =>
    obtain ⟨v, m, s, rfl, rfl, hv, hsm, HE, HW⟩ := hrel
    have hm44 : 40 ≤ m := by
      have h1 := HBL.out
      rw [HE.out, List.length_append] at h1
      omega
    have m0 : (0 : Int) ≤ (m : Int) := by omega
    have m1 : (m : Int) < 65 := by omega
    obtain ⟨old, hcell⟩ := HW.out.cell m (by omega)
    have hfro : wr.frozen? ⟨w.heap.size, m, none⟩ = false := HW.out.frozen m
    by_cases hd : (16 : Int) ≤ (v : Int)
    · have hand := HAND.out v hv
      obtain ⟨r, hr⟩ : ∃ r, v % 16 = r := ⟨_, rfl⟩
      rw [hr] at hand
      have r0 : (0 : Int) ≤ (r : Int) := by omega
      have r1 : (r : Int) < 16 := by omega
      have r2 : (r : Int) < 36 := by omega
      have HR := hide hr
      clear hr
      go_wp2_with fail
      go_roundw
      case rel =>
        refine ⟨v / 16, m - 1, dgc r :: s, ?_, ?_, by omega, by simp; omega, ?_, ?_⟩
        · simp
        · congr 1; omega
        · refine hide ?_
          rw [HE.out, basP_big (b := 16) (by omega) (by omega), HR.out]; simp
        · refine hide ?_
          rw [show m - 1 + 1 = m by omega, digs_at r (by omega)]
          exact HW.out.step (dgc r) (by omega)
      case measure => simp [intOf]; omega
    · have hsl := fun W => HSL.out m W (by omega)
      have v0 : (0 : Int) ≤ (v : Int) := by omega
      have v1 : (v : Int) < 16 := by omega
      have v2 : (v : Int) < 36 := by omega
      have v3 : v < 36 := by omega
      have HW2 := HW.out.step (dgc v) (by omega)
      have hcv : (convert 78 9 (.slice (some ⟨w.heap.size, m, none⟩) (65 - m) (65 - m))).run Tryd.prog (wr.setCell ⟨w.heap.size, m, none⟩ (.int .u8 (((⟨#[48, 49, 50, 51, 52, 53, 54, 55, 56, 57, 97, 98, 99, 100, 101, 102, 103, 104, 105, 106, 107, 108, 109, 110, 111, 112, 113, 114, 115, 116, 117, 118, 119, 120, 121, 122]⟩ : ByteArray)[v]'v3).toNat : Int))) = .ok (.string (mkB (dgc v :: s))) (wr.setCell ⟨w.heap.size, m, none⟩ (.int .u8 (((⟨#[48, 49, 50, 51, 52, 53, 54, 55, 56, 57, 97, 98, 99, 100, 101, 102, 103, 104, 105, 106, 107, 108, 109, 110, 111, 112, 113, 114, 115, 116, 117, 118, 119, 120, 121, 122]⟩ : ByteArray)[v]'v3).toNat : Int))) := by
        rw [digs_at v (by omega)]
        have h := run_convert_bytes_back (P := Tryd.prog) (wr.setCell ⟨w.heap.size, m, none⟩ (.int .u8 ((dgc v).toNat : Int))) 78 9 5 ⟨w.heap.size, m, none⟩ (65 - m) (dgc v :: s) Tryd.underlying78 Tryd.underlying5 Tryd.underlying9 (fun j hj => by
          rw [Lib.add_plain]
          exact HW2.reads j hj)
        rw [List.length_cons, show s.length + 1 = 65 - m by omega] at h
        exact h
      have HB := hide HW2.bel
      have HV : Hid (basP 16 u = dgc v :: s) := hide (by rw [HE.out, basP_small (by omega)]; rfl)
      clear HW2
      go_wp2_with fail
      go_ret2
      refine ⟨by rw [HV.out]; rfl, ?_⟩
      rw [digs_at v (by omega)]
      exact HB.out
set_option maxHeartbeats 8000000 in
set_option maxRecDepth 100000 in
theorem fmtUint_16 (u : Nat) (hu : u < 18446744073709551616) (w : World) (hT : TzT w) :
    Calls Tryd.prog 67 #[.int .u64 (u : Int), .int .i64 16] w fun e w' => e = .returned (.string (mkB (basP 16 u))) ∧ Below w.heap.size w w' := by
  have H := hide (fmtBits_16 u hu w hT)
  clear hT
  go_enter Tryd.func67, Tryd.ntmps67
  go_wp2_with fail
  refine H.out.mono ?_
  rintro e w' ⟨rfl, hb⟩
  have HB := hide hb
  clear hb
  go_wp2_with fail
  go_ret
  exact ⟨rfl, HB.out⟩
end Go.Proofs.YtinpgnekjebipaaDoor
