/- The reference's natRoot and fraction. -/
import Derived.Test.YtinpgnekjebipaaDoorSmD
import Derived.Laws.BitsAll
set_option linter.unusedVariables false
set_option linter.unusedSimpArgs false
namespace Go.Pw
open Go.RowKit
theorem canon_lt {l : List UInt8} {k : Nat} (h : Canon l) (hv : valL l < 10 ^ k) : l.length ≤ k := by
  apply Nat.le_of_not_lt
  intro hl
  have h1 := valL_ge h (by omega)
  have h2 : 10 ^ k ≤ 10 ^ (l.length - 1) := Nat.pow_le_pow_right (by omega) (by omega)
  omega
theorem step_val (k : Nat) : valL (49 :: List.replicate k 48) = 10 ^ k := by
  rw [valL, valL_zeros, List.length_replicate]
  simp
theorem step_dig (k : Nat) : DigL (49 :: List.replicate k 48) := fun c hc => by
  rcases List.mem_cons.1 hc with rfl | hc
  · decide
  · rw [List.eq_of_mem_replicate hc]; decide
theorem canon_32 : Canon [52, 50, 57, 52, 57, 54, 55, 50, 57, 54] := by
  refine ⟨?_, fun h => ?_⟩
  · have : ∀ c ∈ [52, 50, 57, 52, 57, 54, 55, 50, 57, (54 : UInt8)], 48 ≤ c.toNat ∧ c.toNat ≤ 57 := by decide
    exact this
  · simp
theorem valL_take_le (l : List UInt8) (k : Nat) : valL (l.take k) ≤ valL l := by
  conv => rhs; rw [← List.take_append_drop k l, valL_append]
  have : valL (l.take k) * 1 ≤ valL (l.take k) * 10 ^ (l.drop k).length := Nat.mul_le_mul_left _ (pow_pos10 _)
  omega
theorem pow_two (x : Nat) : x ^ 2 = x * x := by rw [Nat.pow_succ, Nat.pow_one]
theorem pow_three (x : Nat) : x ^ 3 = x * x * x := by rw [Nat.pow_succ, pow_two]
end Go.Pw
namespace Go.Proofs.YtinpgnekjebipaaDoor
open Go.RowKit Go.Pw
set_option maxHeartbeats 8000000 in
set_option maxRecDepth 100000 in
theorem natRoot_any (s : ByteArray) (p : Nat) (hp : p = 2 ∨ p = 3) (w : World) (hs : Canon s.data.toList) (hsz : s.size ≤ 100) (hN : valL s.data.toList < (0 + 10 ^ 26) ^ p) :
    Calls Tryd.prog 62 #[.string s, .int .i64 (p : Int)] w fun e w' => (∃ r : ByteArray, e = .returned (.string r) ∧ Canon r.data.toList ∧ valL r.data.toList ^ p ≤ valL s.data.toList ∧ valL s.data.toList < (valL r.data.toList + 1) ^ p) ∧ Below w.heap.size w w' := by
  obtain ⟨N, hNv⟩ : ∃ N, valL s.data.toList = N := ⟨_, rfl⟩
  have hN100 : N < 10 ^ 100 := by
    have h1 := valL_lt _ hs.1
    rw [len_size, hNv] at h1
    exact Nat.lt_of_lt_of_le h1 (Nat.pow_le_pow_right (by omega) hsz)
  rw [hNv] at hN ⊢
  have HS := hide hs
  have HNV := hide hNv
  have HNB := hide hN
  have HN100 := hide hN100
  have HP := hide hp
  clear hs hNv hN hN100
  go_enter Tryd.func62, Tryd.ntmps62
  go_wp2_with fail
  go_loopw [5, 6] (fun rv kv wr => ∃ (kk : Nat) (r : ByteArray), rv = .string r ∧ kv = .int .i64 ((kk : Int) - 1) ∧ kk ≤ 26 ∧ Hid (Canon r.data.toList) ∧ Hid (valL r.data.toList ^ p ≤ N) ∧ Hid (N < (valL r.data.toList + 10 ^ kk) ^ p) ∧ Hid (Below w.heap.size w wr)) (fun _ kv _ => (intOf kv + 1).toNat)
  case atStart => exact ⟨26, ⟨#[]⟩, rfl, rfl, by omega, hide canon_nil, hide (by rcases hp with rfl | rfl <;> exact Nat.zero_le _), HNB, hide (Below.refl _ _)⟩
  case round =>
    obtain ⟨kk, r, rfl, rfl, hkk, HC, HLE, HLT, HB⟩ := hrel
    rcases Nat.eq_zero_or_pos kk with h0 | h0
    · subst h0
      have HF : Hid (N < (valL r.data.toList + 1) ^ p) := HLT
      go_wp2_with fail
      go_ret
      exact ⟨⟨r, rfl, HC.out, HLE.out, HF.out⟩, HB.out⟩
    · obtain ⟨k, rfl⟩ : ∃ k, kk = k + 1 := ⟨kk - 1, by omega⟩
      have hki : ((k + 1 : Nat) : Int) - 1 = (k : Int) := by omega
      rw [hki]
      have hk0 : (0 : Int) ≤ (k : Int) := by omega
      clear hki h0
      go_wp2_with fail
      go_loopw [7, 15] (fun sv jv wx => ∃ j : Nat, j ≤ k ∧ sv = .string (mkB (49 :: List.replicate j 48)) ∧ jv = .int .i64 (j : Int) ∧ wx = wr) (fun _ jv _ => k - (intOf jv).toNat)
      case atStart => exact ⟨0, by omega, rfl, rfl, rfl⟩
      case round =>
        obtain ⟨j, hj, rfl, rfl, rfl⟩ := hrel
        by_cases hjk : j < k
        · have h1 : (j : Int) < (k : Int) := by omega
          have hq : mkB (49 :: List.replicate j 48) ++ ⟨#[48]⟩ = mkB (49 :: List.replicate (j + 1) 48) := by
            have := mkB_app' (49 :: List.replicate j 48) [48]
            rw [List.replicate_succ', ← List.cons_append, ← this]; rfl
          have hsz2 : ¬ (9223372036854775807 < (mkB (49 :: List.replicate j 48)).size + (⟨#[48]⟩ : ByteArray).size) := by
            simp [mkB, ByteArray.size]; omega
          obtain ⟨sj, hsj⟩ : ∃ sj, mkB (49 :: List.replicate j 48) = sj := ⟨_, rfl⟩
          rw [hsj] at hq hsz2 ⊢
          have HQ := hide hq
          clear hq hsj
          go_wp2_with fail
          go_roundw
          case rel => exact ⟨j + 1, by omega, by rw [← HQ.out], by go_num, by trivial⟩
          case measure => simp [intOf]; omega
        · obtain rfl : j = k := by omega
          have hjj : ¬ (j : Int) < (j : Int) := by omega
          obtain ⟨st, hst⟩ : ∃ st, mkB (49 :: List.replicate j 48) = st := ⟨_, rfl⟩
          have hst1 : DigL st.data.toList := by rw [← hst]; exact step_dig j
          have hst2 : valL st.data.toList = 10 ^ j := by rw [← hst]; exact step_val j
          have hst3 : st.size ≤ 26 := by rw [← hst]; simp [mkB, ByteArray.size]; omega
          rw [hst]
          have HST1 := hide hst1
          have HST2 := hide hst2
          clear hst hst1 hst2
          go_wp2_with fail
          go_loopw [5] (fun rv wx => ∃ r : ByteArray, rv = .string r ∧ Hid (Canon r.data.toList) ∧ Hid (valL r.data.toList ^ p ≤ N) ∧ Hid (Below w.heap.size w wx)) (fun rv _ => match rv with | .string r => N - valL r.data.toList | _ => 0)
          case atStart => exact ⟨r, rfl, HC, HLE, HB⟩
          case round =>
            clear HC HLE HLT HB
            obtain ⟨r, rfl, HC, HLE, HB⟩ := hrel
            have hp1 : 1 ≤ p := by rcases HP.out with rfl | rfl <;> omega
            have hrN : valL r.data.toList ≤ N := root_le hp1 HLE.out
            have hrs : r.size ≤ 100 := by
              have := canon_lt HC.out (Nat.lt_of_le_of_lt hrN HN100.out)
              rw [len_size] at this
              exact this
            have HAD := hide (fun W => natAdd_any r st W HC.out.1 HST1.out (by omega) (by omega))
            have HRN := hide hrN
            clear hrN
            go_wp2_with fail
            refine (HAD.out _).mono ?_
            rintro e w1 ⟨⟨m, rfl, hmc, hmv⟩, hb1⟩
            rw [HST2.out] at hmv
            have HB1 := hide (HB.out.trans (hb1.mono HB.out.size))
            have hms : m.size ≤ 101 := by
              have h1 : 10 ^ j ≤ 10 ^ 25 := Nat.pow_le_pow_right (by omega) (by omega)
              have h2 := HN100.out
              have h3 := HRN.out
              have h4 : (10 : Nat) ^ 100 + 10 ^ 25 ≤ 10 ^ 101 := by decide
              have := canon_lt (k := 101) hmc (by rw [hmv]; omega)
              rw [len_size] at this
              exact this
            have HMC := hide hmc
            have HMV := hide hmv
            have HMU := hide (fun W => natMul_any m m W hmc.1 hmc.1 (by omega) (by omega))
            clear hb1 hmc hmv HAD
            go_wp2_with fail
            refine (HMU.out _).mono ?_
            rintro e w2 ⟨⟨x, rfl, hxc, hxv⟩, hb2⟩
            have HB2 := hide (HB1.out.trans (hb2.mono HB1.out.size))
            have hxs : x.size ≤ 202 := by
              have h1 := mul_lt_ten HMC.out.1 HMC.out.1
              rw [← hxv, len_size] at h1
              have := canon_lt hxc h1
              rw [len_size] at this
              omega
            have HXC := hide hxc
            have HXV := hide hxv
            clear hb2 hxc hxv
            rcases HP.out with hp2 | hp3
            · have hpI : ((p : Int) == 3) = false := by rw [hp2]; rfl
              have HP2 := hide hp2
              clear hp2
              have HCM := hide (fun W => natCmp_any x s W HXC.out HS.out (by omega) (by omega))
              rw [HXV.out, HNV.out] at HCM
              by_cases hgt : N < valL m.data.toList * valL m.data.toList
              · have hcv : Lib.compareInt ((valL m.data.toList * valL m.data.toList : Nat) : Int) (N : Int) = 1 := by
                  unfold Lib.compareInt
                  rw [if_neg (by omega), if_pos (by omega)]
                have HF : Hid (N < (valL r.data.toList + 10 ^ j) ^ p) := hide (by rw [HP2.out, ← HMV.out, pow_two]; exact hgt)
                rw [hcv] at HCM
                clear hcv hgt
                go_wp2_with fail
                refine (HCM.out _).mono ?_
                rintro e w3 ⟨rfl, hb3⟩
                have HB3 := hide (HB2.out.trans (hb3.mono HB2.out.size))
                clear hb3
                go_wp2_with fail
                go_roundw
                case rel => exact ⟨j, r, rfl, by go_num, by omega, HC, HLE, HF, HB3⟩
                case measure => simp [intOf]
              · obtain ⟨cv, hcv⟩ : ∃ cv, Lib.compareInt ((valL m.data.toList * valL m.data.toList : Nat) : Int) (N : Int) = cv := ⟨_, rfl⟩
                have hc0 : ¬ (0 : Int) < cv := by
                  rw [← hcv]; unfold Lib.compareInt
                  by_cases h : valL m.data.toList * valL m.data.toList < N
                  · rw [if_pos (by omega)]; omega
                  · rw [if_neg (by omega), if_neg (by omega)]; omega
                have HF : Hid (valL m.data.toList ^ p ≤ N) := hide (by rw [HP2.out, pow_two]; omega)
                have HMLT : Hid (valL r.data.toList < valL m.data.toList ∧ valL m.data.toList ≤ N) := hide ⟨by rw [HMV.out]; have := pow_pos10 j; omega, root_le hp1 HF.out⟩
                rw [hcv] at HCM
                clear hcv hgt
                go_wp2_with fail
                refine (HCM.out _).mono ?_
                rintro e w3 ⟨rfl, hb3⟩
                have HB3 := hide (HB2.out.trans (hb3.mono HB2.out.size))
                clear hb3
                go_wp2_with fail
                go_roundw
                case rel => exact ⟨m, rfl, HMC, HF, HB3⟩
                case measure => have := HMLT.out; simp; omega
            · have hpI : ((p : Int) == 3) = true := by rw [hp3]; rfl
              have HP3 := hide hp3
              clear hp3
              have HMU3 := hide (fun W => natMul_any x m W HXC.out.1 HMC.out.1 (by omega) (by omega))
              go_wp2_with fail
              refine (HMU3.out _).mono ?_
              rintro e w2b ⟨⟨y, rfl, hyc, hyv⟩, hb2⟩
              have HB2b := hide (HB2.out.trans (hb2.mono HB2.out.size))
              rw [HXV.out] at hyv
              have hys : y.size ≤ 400 := by
                have h1 := mul_lt_ten HXC.out.1 HMC.out.1
                rw [HXV.out, ← hyv, len_size, len_size] at h1
                have := canon_lt hyc h1
                rw [len_size] at this
                omega
              have HCM := hide (fun W => natCmp_any y s W hyc HS.out (by omega) (by omega))
              rw [hyv, HNV.out] at HCM
              clear hb2 hyc hyv HMU3
              by_cases hgt : N < valL m.data.toList * valL m.data.toList * valL m.data.toList
              · have hcv : Lib.compareInt ((valL m.data.toList * valL m.data.toList * valL m.data.toList : Nat) : Int) (N : Int) = 1 := by
                  unfold Lib.compareInt
                  rw [if_neg (by omega), if_pos (by omega)]
                have HF : Hid (N < (valL r.data.toList + 10 ^ j) ^ p) := hide (by rw [HP3.out, ← HMV.out, pow_three]; exact hgt)
                rw [hcv] at HCM
                clear hcv hgt
                go_wp2_with fail
                refine (HCM.out _).mono ?_
                rintro e w3 ⟨rfl, hb3⟩
                have HB3 := hide (HB2b.out.trans (hb3.mono HB2b.out.size))
                clear hb3
                go_wp2_with fail
                go_roundw
                case rel => exact ⟨j, r, rfl, by go_num, by omega, HC, HLE, HF, HB3⟩
                case measure => simp [intOf]
              · obtain ⟨cv, hcv⟩ : ∃ cv, Lib.compareInt ((valL m.data.toList * valL m.data.toList * valL m.data.toList : Nat) : Int) (N : Int) = cv := ⟨_, rfl⟩
                have hc0 : ¬ (0 : Int) < cv := by
                  rw [← hcv]; unfold Lib.compareInt
                  by_cases h : valL m.data.toList * valL m.data.toList * valL m.data.toList < N
                  · rw [if_pos (by omega)]; omega
                  · rw [if_neg (by omega), if_neg (by omega)]; omega
                have HF : Hid (valL m.data.toList ^ p ≤ N) := hide (by rw [HP3.out, pow_three]; omega)
                have HMLT : Hid (valL r.data.toList < valL m.data.toList ∧ valL m.data.toList ≤ N) := hide ⟨by rw [HMV.out]; have := pow_pos10 j; omega, root_le hp1 HF.out⟩
                rw [hcv] at HCM
                clear hcv hgt
                go_wp2_with fail
                refine (HCM.out _).mono ?_
                rintro e w3 ⟨rfl, hb3⟩
                have HB3 := hide (HB2b.out.trans (hb3.mono HB2b.out.size))
                clear hb3
                go_wp2_with fail
                go_roundw
                case rel => exact ⟨m, rfl, HMC, HF, HB3⟩
                case measure => have := HMLT.out; simp; omega
theorem field_whole (b : Bool) (s : ByteArray) (c : Int) (W : World) : (Instr.field 98 (.agg #[.bool b, .string s, .int .i64 c]) 1).run Tryd.prog W = .ok (.string s) W := by
  first
    | kernel_rfl
    | (unfold Instr.field; simp [go_sem, run_underlying Tryd.underlying98])
set_option maxHeartbeats 8000000 in
set_option maxRecDepth 100000 in
theorem fraction_any (n p : Nat) (hp : p = 2 ∨ p = 3) (w : World) (hn : n ≤ 311) :
    Calls Tryd.prog 43 #[.int .i64 (n : Int), .int .i64 (p : Int)] w fun e w' => (∃ R : Nat, e = .returned (.int .u32 ((R % 4294967296 : Nat) : Int)) ∧ R ^ p ≤ n * 2 ^ (32 * p) ∧ n * 2 ^ (32 * p) < (R + 1) ^ p) ∧ Below w.heap.size w w' := by
  obtain ⟨q, hq⟩ : ∃ q, 32 * p = q := ⟨_, rfl⟩
  have hqI : (32 : Int) * (p : Int) = (q : Int) := by omega
  have hq96 : 1 ≤ q ∧ q ≤ 96 := by rcases hp with rfl | rfl <;> omega
  rw [hq]
  have hbig : ∀ j, j ≤ q → n * 2 ^ j < 10 ^ 32 := fun j hj => by
    have h1 : 2 ^ j ≤ 2 ^ 96 := Nat.pow_le_pow_right (by omega) (by omega)
    have h2 : n * 2 ^ j ≤ 311 * 2 ^ 96 := Nat.mul_le_mul hn h1
    have h3 : 311 * 2 ^ 96 < 10 ^ 32 := by decide
    omega
  have HBIG := hide hbig
  have HNB : Hid (n * 2 ^ q < (0 + 10 ^ 26) ^ p) := hide (by
    rcases hp with rfl | rfl
    · have h2 : n * 2 ^ q ≤ 311 * 2 ^ 64 := Nat.mul_le_mul hn (Nat.pow_le_pow_right (by omega) (by omega))
      have h3 : 311 * 2 ^ 64 < (0 + 10 ^ 26) ^ 2 := by decide
      omega
    · have h2 := hbig q (Nat.le_refl _)
      have h3 : (10 : Nat) ^ 32 < (0 + 10 ^ 26) ^ 3 := by decide
      omega)
  have HP := hide hp
  clear hp hq hbig
  go_enter Tryd.func43, Tryd.ntmps43
  go_wp2_with fail
  refine (decInt_any n w (by omega)).mono ?_
  rintro e w0 ⟨rfl, hb0⟩
  have HB0 := hide hb0
  have hns := natS_dig n
  have hnl := natS_len 3 n (Nat.lt_of_le_of_lt hn (by decide))
  obtain ⟨s0, hs0⟩ : ∃ s0, mkB (natS n) = s0 := ⟨_, rfl⟩
  have e0 : natS n = s0.data.toList := by rw [← hs0]; rfl
  rw [e0] at hns hnl
  rw [len_size] at hnl
  rw [hs0]
  have HNS := hide hns
  have hfl := fun W => field_whole false s0 0 W
  clear hb0 hns e0 hs0
  go_wp2_with fail
  clear hfl
  go_loopw [5, 15] (fun sv jv wx => ∃ (j : Nat) (s : ByteArray), sv = .string s ∧ jv = .int .i64 (j : Int) ∧ j ≤ q ∧ s.size ≤ 100 ∧ Hid (DigL s.data.toList) ∧ Hid (0 < j → Canon s.data.toList) ∧ Hid (valL s.data.toList = n * 2 ^ j) ∧ Hid (Below w.heap.size w wx)) (fun _ jv _ => q - (intOf jv).toNat)
  case atStart => exact ⟨0, s0, rfl, rfl, by omega, by omega, hide HNS.out.1, hide (fun h => by omega), hide (by rw [HNS.out.2]; simp), HB0⟩
  case round =>
    clear HB0 HNS hnl
    obtain ⟨j, s, rfl, rfl, hj, hss, HD, HC, HV, HB⟩ := hrel
    by_cases hjq : j < q
    · have h1 : (j : Int) < (q : Int) := by omega
      have HAD := hide (fun W => natAdd_any s s W HD.out HD.out (by omega) (by omega))
      go_wp2_with fail
      refine (HAD.out _).mono ?_
      rintro e w1 ⟨⟨m, rfl, hmc, hmv⟩, hb1⟩
      have HB1 := hide (HB.out.trans (hb1.mono HB.out.size))
      have hmv2 : valL m.data.toList = n * 2 ^ (j + 1) := by rw [hmv, HV.out, Nat.pow_succ, ← Nat.mul_assoc]; omega
      have hms : m.size ≤ 100 := by
        have h2 := HBIG.out (j + 1) (by omega)
        have := canon_lt (k := 32) hmc (by rw [hmv2]; exact h2)
        rw [len_size] at this
        omega
      have HMC := hide hmc
      have HMV := hide hmv2
      clear hb1 hmc hmv hmv2 HAD
      go_wp2_with fail
      go_roundw
      case rel => exact ⟨j + 1, m, rfl, by go_num, by omega, hms, hide HMC.out.1, hide (fun _ => HMC.out), HMV, HB1⟩
      case measure => simp [intOf]; omega
    · obtain rfl : j = q := by omega
      have hjj : ¬ (j : Int) < (j : Int) := by omega
      have hC := HC.out (by omega)
      have HRT := hide (fun W => natRoot_any s p HP.out W hC hss (by rw [HV.out]; exact HNB.out))
      rw [HV.out] at HRT
      clear hC
      go_wp2_with fail
      refine (HRT.out _).mono ?_
      rintro e w1 ⟨⟨R, rfl, hRc, hR1, hR2⟩, hb1⟩
      have HB1 := hide (HB.out.trans (hb1.mono HB.out.size))
      have hRs : R.size ≤ 32 := by
        have h1 := root_le (p := p) (by rcases HP.out with rfl | rfl <;> omega) hR1
        have h2 := HBIG.out j (Nat.le_refl _)
        have := canon_lt (k := 32) hRc (by omega)
        rw [len_size] at this
        exact this
      have hbv : valL (⟨#[52, 50, 57, 52, 57, 54, 55, 50, 57, 54]⟩ : ByteArray).data.toList = 4294967296 := by decide
      have HDV := hide (fun W => natDiv_any R ⟨#[52, 50, 57, 52, 57, 54, 55, 50, 57, 54]⟩ W hRc.1 canon_32 (by rw [hbv]; omega) (by omega) (by decide))
      rw [hbv] at HDV
      have HR1 := hide hR1
      have HR2 := hide hR2
      clear hb1 hRc hR1 hR2 hbv
      go_wp2_with fail
      refine (HDV.out _).mono ?_
      rintro e w2 ⟨⟨qq, r, rfl, hqc, hrc, hqr, hrl⟩, hb2⟩
      have HB2 := hide (HB1.out.trans (hb2.mono HB1.out.size))
      have HRV : Hid (valL R.data.toList % 4294967296 = valL r.data.toList) := hide (by rw [← hqr, Nat.mul_comm, Nat.mul_add_mod, Nat.mod_eq_of_lt hrl])
      have HRL := hide hrl
      have HRD := hide hrc.1
      have hrs : r.size ≤ 10 := by
        have := canon_lt (k := 10) hrc (by omega)
        rw [len_size] at this
        exact this
      clear hb2 hqc hrc hqr hrl
      go_wp2_with fail
      go_loopw [8, 30] (fun vv iv wx => ∃ i : Nat, i ≤ r.size ∧ vv = .int .u32 ((valL (r.data.toList.take i) : Nat) : Int) ∧ iv = .int .i64 (i : Int) ∧ wx = w2) (fun _ iv _ => r.size - (intOf iv).toNat)
      case atStart => exact ⟨0, by omega, rfl, rfl, by trivial⟩
      case round =>
        obtain ⟨i, hi, rfl, rfl, rfl⟩ := hrel
        by_cases hir : i < r.size
        · have h1 : (i : Int) < (r.size : Int) := by omega
          have hdx := dig_at HRD.out hir
          have hax : r.data.toList[i]? = some r[i] := by rw [List.getElem?_eq_getElem (by rw [len_size]; exact hir)]; rfl
          have hts := valL_take_succ hax
          have hle := valL_take_le r.data.toList (i + 1)
          have hlt := HRL.out
          obtain ⟨x, hx⟩ : ∃ x, r[i] = x := ⟨_, rfl⟩
          rw [hx] at hdx hts
          obtain ⟨V, hV⟩ : ∃ V, valL (r.data.toList.take i) = V := ⟨_, rfl⟩
          obtain ⟨V2, hV2⟩ : ∃ V2, valL (r.data.toList.take (i + 1)) = V2 := ⟨_, rfl⟩
          rw [hV, hV2] at hts
          rw [hV2] at hle
          rw [hV]
          obtain ⟨X, hX⟩ : ∃ X : Nat, x.toNat - 48 = X := ⟨_, rfl⟩
          have w1 : IntKind.u32.wrap (10 * (V : Int)) = 10 * (V : Int) := by rw [IntKind.wrap_u32']; omega
          have w2 : IntKind.u8.wrap ((x.toNat : Int) - 48) = (X : Int) := by rw [IntWalk.u8_in _ (by omega)]; omega
          have w3 : IntKind.u32.wrap (X : Int) = (X : Int) := by rw [IntKind.wrap_u32']; omega
          have w4 : IntKind.u32.wrap (10 * (V : Int) + (X : Int)) = (V2 : Int) := by rw [IntKind.wrap_u32']; omega
          have HV2 := hide hV2
          clear hax hts hle hlt hV hV2 hX hdx
          go_wp2_with fail
          go_roundw
          case rel => exact ⟨i + 1, by omega, by rw [HV2.out], by go_num, by trivial⟩
          case measure => simp [intOf]; omega
        · obtain rfl : i = r.size := by omega
          have hii : ¬ (r.size : Int) < (r.size : Int) := by omega
          have HT : Hid (valL (r.data.toList.take r.size) = valL R.data.toList % 4294967296) := hide (by rw [HRV.out, ← len_size, List.take_length])
          go_wp2_with fail
          go_ret
          exact ⟨⟨valL R.data.toList, by have h := HT.out; rw [h]; rfl, HR1.out, HR2.out⟩, HB2.out⟩
end Go.Proofs.YtinpgnekjebipaaDoor
