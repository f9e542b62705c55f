/- Printf, the reference: based (printed by gen_pfrb.py). -/
import Derived.Test.YtifpmigghplmoaaGreatDoorZPrL
set_option linter.unusedVariables false
set_option linter.unusedSimpArgs false
namespace Go.Pw
open Go.RowKit
def capL (cap : Bool) (l : List UInt8) : List UInt8 := if cap then Lib.toUpperA l else l
theorem low_fin : ∀ r : Fin 16, ((⟨#[48, 49, 50, 51, 52, 53, 54, 55, 56, 57, 97, 98, 99, 100, 101, 102]⟩ : ByteArray).extract r.val (r.val + 1)) = mkB (capL false [dgc r.val]) := by decide +kernel
theorem up_fin : ∀ r : Fin 16, ((⟨#[48, 49, 50, 51, 52, 53, 54, 55, 56, 57, 65, 66, 67, 68, 69, 70]⟩ : ByteArray).extract r.val (r.val + 1)) = mkB (capL true [dgc r.val]) := by decide +kernel
theorem cap_cons (cap : Bool) (c : UInt8) (l : List UInt8) : capL cap [c] ++ capL cap l = capL cap (c :: l) := by cases cap <;> rfl
theorem cap_len (cap : Bool) (l : List UInt8) : (capL cap l).length = l.length := by cases cap <;> simp [capL, Lib.toUpperA]
end Go.Pw
namespace Go.Proofs.YtifpmigghplmoaaGreatDoor
open Go.RowKit Go.Pw Go.Shelf
set_option maxHeartbeats 8000000 in
set_option maxRecDepth 100000 in
theorem based_f (u b : Nat) (w : World) (hu : u < 18446744073709551616) (hb : 2 ≤ b) (hb16 : b ≤ 16) (hl : (basP b u).length ≤ 64) :
    Calls Tryz.prog 92 #[.int .u64 (u : Int), .int .u64 (b : Int), .bool false] w fun e w' => e = .returned (.string (mkB (capL false (basP b u)))) ∧ w' = w := by
  have HL := hide hl
  clear hl
  have b0 : (0 : Int) < (b : Int) := by omega
  have b1 : ((b : Int) == 0) = false := by simp; omega
  have b2 : ¬ (b : Int) = 0 := by omega
  go_enter Tryz.func92, Tryz.ntmps92
  go_wp2_with fail
  go_loopw [0, 8] (fun vv sv wr => ∃ (v : Nat) (s : List UInt8) (q : ByteArray), vv = .int .u64 (v : Int) ∧ sv = .string q ∧ v < 18446744073709551616 ∧ q.size ≤ 64 ∧ Hid (BsAt b u v s) ∧ Hid (q = mkB (capL false s)) ∧ wr = w) (fun vv _ _ => (intOf vv).toNat)
  case atStart => exact ⟨u, [], ⟨#[]⟩, rfl, rfl, hu, by simp [ByteArray.size], hide (BsAt.start _ _), hide (show (⟨#[]⟩ : ByteArray) = mkB (capL false []) from rfl), rfl⟩
  case round =>
    obtain ⟨v, s, q, rfl, rfl, hv, hq, HAT, HQ, rfl⟩ := hrel
    by_cases h0 : 0 < v
    · have g0 : (0 : Int) < (v : Int) := by omega
      have hm : v % b < 16 := by have := Nat.mod_lt v (y := b) (by omega); omega
      obtain ⟨r, hr⟩ : ∃ r, v % b = r := ⟨_, rfl⟩
      have hmr : (v : Int) % (b : Int) = (r : Int) := by rw [← hr]; omega
      obtain ⟨v2, hv2⟩ : ∃ v2, v / b = v2 := ⟨_, rfl⟩
      have hdv : (v : Int) / (b : Int) = (v2 : Int) := by rw [← hv2]; omega
      have hvl : v2 < v := by rw [← hv2]; exact Nat.div_lt_self h0 (by omega)
      rw [hr] at hm
      have r0 : (0 : Int) ≤ (r : Int) := by omega
      have r1 : (r : Int) + 1 ≤ 16 := by omega
      have HAT2 := hide (HAT.out.step hb h0)
      rw [hv2, hr] at HAT2
      have HSL := hide (HAT2.out.len hb HL.out)
      have HEX := hide (low_fin ⟨r, hm⟩)
      have HCC := hide (cap_cons false (dgc r) s)
      clear hr hv2
      go_wp2_with fail
      go_roundw
      case rel =>
        refine ⟨v2, dgc r :: s, _, rfl, rfl, by omega, ?_, HAT2, ?_, by first | rfl | trivial⟩
        · have := HSL.out
          have h2 := HEX.out
          simp only at h2
          rw [h2, HQ.out, mkB_app', mkB_size, HCC.out, cap_len]
          exact this
        · refine hide ?_
          have h2 := HEX.out
          simp only at h2
          rw [h2, HQ.out, mkB_app', HCC.out]
      case measure => simp [intOf]; omega
    · have g0 : ¬ (0 : Int) < (v : Int) := by omega
      have HD := hide (HAT.out.done hb (by omega))
      cases s with
      | nil =>
        have hqe : q = ⟨#[]⟩ := HQ.out
        subst hqe
        rw [if_pos rfl] at HD
        go_wp2_with fail
        go_ret
        exact ⟨by rw [HD.out]; rfl, by first | rfl | trivial⟩
      | cons x y =>
        rw [if_neg (by simp)] at HD
        have hne : q.toList.isEmpty = false := by
          rw [HQ.out, Lib.toList_data, mkB_data2]
          cases h : capL false (x :: y) with
          | nil => have := cap_len false (x :: y); rw [h] at this; simp at this
          | cons a b => rfl
        go_wp2_with fail
        go_ret
        exact ⟨by rw [HD.out, ← HQ.out]; rfl, by first | rfl | trivial⟩
set_option maxHeartbeats 8000000 in
set_option maxRecDepth 100000 in
theorem based_t (u b : Nat) (w : World) (hu : u < 18446744073709551616) (hb : 2 ≤ b) (hb16 : b ≤ 16) (hl : (basP b u).length ≤ 64) :
    Calls Tryz.prog 92 #[.int .u64 (u : Int), .int .u64 (b : Int), .bool true] w fun e w' => e = .returned (.string (mkB (capL true (basP b u)))) ∧ w' = w := by
  have HL := hide hl
  clear hl
  have b0 : (0 : Int) < (b : Int) := by omega
  have b1 : ((b : Int) == 0) = false := by simp; omega
  have b2 : ¬ (b : Int) = 0 := by omega
  go_enter Tryz.func92, Tryz.ntmps92
  go_wp2_with fail
  go_loopw [0, 8] (fun vv sv wr => ∃ (v : Nat) (s : List UInt8) (q : ByteArray), vv = .int .u64 (v : Int) ∧ sv = .string q ∧ v < 18446744073709551616 ∧ q.size ≤ 64 ∧ Hid (BsAt b u v s) ∧ Hid (q = mkB (capL true s)) ∧ wr = w) (fun vv _ _ => (intOf vv).toNat)
  case atStart => exact ⟨u, [], ⟨#[]⟩, rfl, rfl, hu, by simp [ByteArray.size], hide (BsAt.start _ _), hide (show (⟨#[]⟩ : ByteArray) = mkB (capL true []) from rfl), rfl⟩
  case round =>
    obtain ⟨v, s, q, rfl, rfl, hv, hq, HAT, HQ, rfl⟩ := hrel
    by_cases h0 : 0 < v
    · have g0 : (0 : Int) < (v : Int) := by omega
      have hm : v % b < 16 := by have := Nat.mod_lt v (y := b) (by omega); omega
      obtain ⟨r, hr⟩ : ∃ r, v % b = r := ⟨_, rfl⟩
      have hmr : (v : Int) % (b : Int) = (r : Int) := by rw [← hr]; omega
      obtain ⟨v2, hv2⟩ : ∃ v2, v / b = v2 := ⟨_, rfl⟩
      have hdv : (v : Int) / (b : Int) = (v2 : Int) := by rw [← hv2]; omega
      have hvl : v2 < v := by rw [← hv2]; exact Nat.div_lt_self h0 (by omega)
      rw [hr] at hm
      have r0 : (0 : Int) ≤ (r : Int) := by omega
      have r1 : (r : Int) + 1 ≤ 16 := by omega
      have HAT2 := hide (HAT.out.step hb h0)
      rw [hv2, hr] at HAT2
      have HSL := hide (HAT2.out.len hb HL.out)
      have HEX := hide (up_fin ⟨r, hm⟩)
      have HCC := hide (cap_cons true (dgc r) s)
      clear hr hv2
      go_wp2_with fail
      go_roundw
      case rel =>
        refine ⟨v2, dgc r :: s, _, rfl, rfl, by omega, ?_, HAT2, ?_, by first | rfl | trivial⟩
        · have := HSL.out
          have h2 := HEX.out
          simp only at h2
          rw [h2, HQ.out, mkB_app', mkB_size, HCC.out, cap_len]
          exact this
        · refine hide ?_
          have h2 := HEX.out
          simp only at h2
          rw [h2, HQ.out, mkB_app', HCC.out]
      case measure => simp [intOf]; omega
    · have g0 : ¬ (0 : Int) < (v : Int) := by omega
      have HD := hide (HAT.out.done hb (by omega))
      cases s with
      | nil =>
        have hqe : q = ⟨#[]⟩ := HQ.out
        subst hqe
        rw [if_pos rfl] at HD
        go_wp2_with fail
        go_ret
        exact ⟨by rw [HD.out]; rfl, by first | rfl | trivial⟩
      | cons x y =>
        rw [if_neg (by simp)] at HD
        have hne : q.toList.isEmpty = false := by
          rw [HQ.out, Lib.toList_data, mkB_data2]
          cases h : capL true (x :: y) with
          | nil => have := cap_len true (x :: y); rw [h] at this; simp at this
          | cons a b => rfl
        go_wp2_with fail
        go_ret
        exact ⟨by rw [HD.out, ← HQ.out]; rfl, by first | rfl | trivial⟩
end Go.Proofs.YtifpmigghplmoaaGreatDoor
