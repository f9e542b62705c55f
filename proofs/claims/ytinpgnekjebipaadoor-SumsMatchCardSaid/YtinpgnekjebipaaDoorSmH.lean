/- Hexadecimal digits: delta.hex and the reference's hex. -/
import Derived.Test.YtinpgnekjebipaaDoorSmC
import Derived.Test.YtinpgnekjebipaaDoorPfV16
import Derived.Test.YtinpgnekjebipaaDoorFill
set_option linter.unusedVariables false
set_option linter.unusedSimpArgs false
namespace Go.Proofs.YtinpgnekjebipaaDoor
open Go.RowKit Go.Pw Go.Shelf
theorem pubFmt_any (b : Int) (u : Int) (s : List UInt8) (w : World)
    (H : Calls Tryd.prog 67 #[.int .u64 u, .int .i64 b] w fun e w' => e = .returned (.string (mkB s)) ∧ Below w.heap.size w w') :
    Calls Tryd.prog 52 #[.int .u64 u, .int .i64 b] w fun e w' => e = .returned (.string (mkB s)) ∧ Below w.heap.size w w' := by
  have HH := hide H
  clear H
  go_enter Tryd.func52, Tryd.ntmps52
  go_wp2_with fail
  refine HH.out.mono ?_
  rintro e w' ⟨rfl, hb⟩
  have HB := hide hb
  clear hb
  go_wp2_with fail
  go_ret
  exact ⟨rfl, HB.out⟩
set_option maxHeartbeats 4000000 in
set_option maxRecDepth 100000 in
theorem hexD_any (v : Nat) (w : World) (hv : v < 4294967296) (hT : TzT w) : Calls Tryd.prog 36 #[.int .u64 (v : Int), .int .i64 8] w fun e w' => e = .returned (.string (mkB (hexN 8 v))) ∧ Below w.heap.size w w' := by
  have HF := hide (pubFmt_any 16 (v : Int) (basP 16 v) w (fmtUint_16 v (by omega) w hT))
  have hl := basP_len (b := 16) (by omega) 7 v (by omega)
  have HP := hide (hexN_pad 7 v (by omega))
  obtain ⟨l, hL⟩ : ∃ l, basP 16 v = l := ⟨_, rfl⟩
  rw [hL] at HF hl HP
  obtain ⟨c, hc⟩ : ∃ c, 8 - l.length = c := ⟨_, rfl⟩
  have hc8 : c ≤ 8 := by omega
  have hsz : (mkB l).size = l.length := by simp [mkB, ByteArray.size]
  have hmx : max (8 - ((mkB l).size : Int)) 0 = (c : Int) := by rw [hsz]; omega
  have HCAT : Hid (mkB (List.replicate c 48) ++ mkB l = mkB (hexN 8 v)) := hide (by rw [mkB_app', ← HP.out, ← hc])
  have hss : ¬ (9223372036854775807 < (mkB (List.replicate c 48)).size + (mkB l).size) := by
    have h2 : (mkB (List.replicate c 48)).size = c := by simp [mkB, ByteArray.size]
    rw [h2, hsz]; omega
  obtain ⟨S, hS⟩ : ∃ S, mkB l = S := ⟨_, rfl⟩
  have HRP := hide (fun W => repeatOne_any 48 c W (by omega))
  obtain ⟨Z, hZ⟩ : ∃ Z, mkB (List.replicate c 48) = Z := ⟨_, rfl⟩
  rw [hS] at hmx HCAT hss HF hsz
  rw [hZ] at HCAT hss HRP
  have hS8 : S.size ≤ 8 := by omega
  clear hL hc hS hZ hT hsz
  go_enter Tryd.func36, Tryd.ntmps36
  go_wp2_with fail
  refine HF.out.mono ?_
  rintro e w1 ⟨rfl, hb1⟩
  go_wp2_with fail
  refine (HRP.out _).mono ?_
  rintro e w2 ⟨rfl, hb2⟩
  have HB := hide (hb1.trans (hb2.mono hb1.size))
  clear hb1 hb2
  go_wp2_with fail
  go_ret
  exact ⟨by rw [← HCAT.out]; rfl, HB.out⟩
theorem crcText_any (v : Nat) (w : World) (hv : v < 4294967296) (hT : TzT w) : Calls Tryd.prog 16 #[.int .u32 (v : Int)] w fun e w' => e = .returned (.string (mkB (hexN 8 v))) ∧ Below w.heap.size w w' := by
  have HF := hide (hexD_any v w hv hT)
  have hw : IntKind.u64.wrap (v : Int) = (v : Int) := IntWalk.u64_in _ (by omega)
  clear hT
  go_enter Tryd.func16, Tryd.ntmps16
  go_wp2_with fail
  refine HF.out.mono ?_
  rintro e w1 ⟨rfl, hb1⟩
  go_wp2_with fail
  go_ret
  exact ⟨rfl, hb1⟩
theorem hex_cut : ∀ r : Fin 16, (⟨#[48, 49, 50, 51, 52, 53, 54, 55, 56, 57, 97, 98, 99, 100, 101, 102]⟩ : ByteArray).extract r.val (r.val + 1) = mkB [dgc r.val] := by decide
set_option maxHeartbeats 4000000 in
set_option maxRecDepth 100000 in
theorem hexR_any (v many : Nat) (w : World) (hv : v < 4294967296) (hm : many ≤ 8) : Calls Tryd.prog 22 #[.int .u32 (v : Int), .int .i64 (many : Int)] w fun e w' => e = .returned (.string (mkB (hexN many v))) ∧ w = w' := by
  go_enter Tryd.func22, Tryd.ntmps22
  go_wp2_with fail
  go_loop [0, 5, 7] (fun nv sv iv => ∃ (k u : Nat) (l : List UInt8), nv = .int .u32 (u : Int) ∧ sv = .string (mkB l) ∧ iv = .int .i64 (k : Int) ∧ k ≤ many ∧ l.length = k ∧ u < 4294967296 ∧ Hid (hexN many v = hexN (many - k) u ++ l)) (fun _ _ iv => many - (intOf iv).toNat)
  case atStart => exact ⟨0, v, [], rfl, rfl, rfl, by omega, rfl, hv, hide (by simp)⟩
  case round =>
    obtain ⟨k, u, l, rfl, rfl, rfl, hk, hl, hu, HE⟩ := hrel
    by_cases hkm : k < many
    · have h1 : (k : Int) < (many : Int) := by omega
      obtain ⟨r, hr⟩ : ∃ r : Nat, u % 16 = r := ⟨_, rfl⟩
      have hr16 : r < 16 := by omega
      have hrI : (u : Int) % 16 = (r : Int) := by omega
      have w1 : IntKind.u32.wrap ((r : Int) + 1) = (r : Int) + 1 := by rw [IntKind.wrap_u32']; omega
      have hsl : ∀ W, (Instr.slice 9 (.string ⟨#[48, 49, 50, 51, 52, 53, 54, 55, 56, 57, 97, 98, 99, 100, 101, 102]⟩) (some (.int .u32 (r : Int))) (some (.int .u32 ((r : Int) + 1))) none).run Tryd.prog W = .ok (.string (mkB [dgc r])) W := fun W => by
        rw [← hex_cut ⟨r, hr16⟩]
        have h2 : (r : Int) + 1 ≤ 16 := by omega
        simp [go_sem, h2]
        first | omega | (rw [if_pos (by omega), if_pos (by omega)]) | (rw [if_pos (by omega)])
      have hcat := mkB_app' [dgc r] l
      have hss : ¬ (9223372036854775807 < (mkB [dgc r]).size + (mkB l).size) := by simp [mkB, ByteArray.size]; omega
      obtain ⟨S, hS⟩ : ∃ S, mkB l = S := ⟨_, rfl⟩
      obtain ⟨D, hD⟩ : ∃ D, mkB [dgc r] = D := ⟨_, rfl⟩
      rw [hS, hD] at hcat hss
      rw [hS]
      rw [hD] at hsl
      have HE2 : Hid (hexN many v = hexN (many - (k + 1)) (u / 16) ++ ([dgc r] ++ l)) := hide (by
        rw [HE.out, show many - k = (many - (k + 1)) + 1 by omega, hexN, List.append_assoc, hr])
      have HCAT := hide hcat
      clear hcat hS hD hr
      go_wp2_with fail
      go_round
      case rel => exact ⟨k + 1, u / 16, [dgc r] ++ l, by go_num, by rw [← HCAT.out], by go_num, by omega, by simp; omega, by omega, HE2⟩
      case measure => simp [intOf]; omega
    · obtain rfl : k = many := by omega
      have hkk : ¬ (k : Int) < (k : Int) := by omega
      have HE2 : Hid (hexN k v = l) := hide (by rw [HE.out, Nat.sub_self]; rfl)
      go_wp2_with fail
      go_ret
      exact ⟨by rw [HE2.out]; rfl, rfl⟩
end Go.Proofs.YtinpgnekjebipaaDoor
