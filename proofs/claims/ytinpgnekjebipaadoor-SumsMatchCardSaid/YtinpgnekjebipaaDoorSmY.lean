/- The reference's Sha. -/
import Derived.Test.YtinpgnekjebipaaDoorSmX
import Derived.Test.YtinpgnekjebipaaDoorQuietE
import Derived.Deep.DeepCutAuto
set_option linter.unusedVariables false
set_option linter.unusedSimpArgs false
namespace Go.Pw
open Go.RowKit
/-- the bytes of a number, the highest one first: so many of eight -/
def be8 (L : Nat) : Nat → List UInt8
  | 0 => []
  | j + 1 => be8 L j ++ [UInt8.ofNat (L / 256 ^ (7 - j))]
theorem be8_len (L : Nat) : ∀ j, (be8 L j).length = j
  | 0 => rfl
  | j + 1 => by rw [be8, List.length_append, be8_len L j]; rfl
theorem be8_end (L : Nat) (h : L < 4294967296) : be8 L 8 = four8 (L / 4294967296) ++ four8 (L % 4294967296) := by
  have e : L % 4294967296 = L := Nat.mod_eq_of_lt h
  have z : L / 4294967296 = 0 := Nat.div_eq_of_lt h
  rw [e, z]
  simp only [be8, four8, List.nil_append, List.singleton_append, List.cons_append]
  have h7 : L / 256 ^ (7 - 0) = 0 := Nat.div_eq_of_lt (by omega)
  have h6 : L / 256 ^ (7 - 1) = 0 := Nat.div_eq_of_lt (by omega)
  have h5 : L / 256 ^ (7 - 2) = 0 := Nat.div_eq_of_lt (by omega)
  have h4 : L / 256 ^ (7 - 3) = 0 := Nat.div_eq_of_lt (by omega)
  rw [h7, h6, h5, h4]
  simp
/-- the words moved to the right, from the last one on down to place j -/
def shL (v : V8) (j : Nat) : List W32 := v.list.take (j + 1) ++ (v.list.drop j).take (7 - j)
theorem shL_step (v : V8) (k : Nat) (h : k < 7) : ∃ x, (shL v (k + 1))[k]? = some x ∧ (shL v (k + 1)).set (k + 1) x = shL v k ∧ ∃ y, (shL v (k + 1))[k + 1]? = some y := by
  obtain ⟨a, b, c, d, e, f, g, i⟩ := v
  rcases (show k = 0 ∨ k = 1 ∨ k = 2 ∨ k = 3 ∨ k = 4 ∨ k = 5 ∨ k = 6 by omega) with rfl | rfl | rfl | rfl | rfl | rfl | rfl
  all_goals exact ⟨_, rfl, rfl, _, rfl⟩
end Go.Pw
namespace Go.Proofs.YtinpgnekjebipaaDoor
open Go.RowKit Go.Pw
def zeros8 : Array Value := #[.int .u32 0, .int .u32 0, .int .u32 0, .int .u32 0, .int .u32 0, .int .u32 0, .int .u32 0, .int .u32 0]
theorem zero8 : zeros8 = (wVs (hTo 0)).toArray := by
  first | kernel_rfl | rfl | decide
theorem zero64' : zeros64 = (wVs (kTo 0)).toArray := by
  first | kernel_rfl | rfl | decide
set_option maxHeartbeats 16000000 in
set_option maxRecDepth 100000 in
theorem sha_any (s : ByteArray) (w : World) (hs : s.size ≤ 262144) : Calls Tryd.prog 24 #[.string s] w fun e w' => e = .returned (.string (mkB (sha8 s.data.toList))) ∧ Below w.heap.size w w' := by
  have hb0 := ((Below.refl w.heap.size w).alloc (Nat.le_refl _) (.cells zeros8 68)).alloc (by simp) (.cells zeros64 69)
  have hH0 : RowW ((w.alloc (.cells zeros8 68)).alloc (.cells zeros64 69)) w.heap.size 68 (hTo 0) := by
    rw [zero8]
    exact (heap_alloc_old _ _ (by simp)).trans (heap_alloc_new _ _)
  have hK0 : RowW ((w.alloc (.cells zeros8 68)).alloc (.cells zeros64 69)) (w.heap.size + 1) 69 (kTo 0) := by
    rw [zero64']
    exact heap_alloc_succ _ _ _
  have HB0 := hide hb0
  have HH0 := hide hH0
  have HK0 := hide hK0
  clear hb0 hH0 hK0
  go_enter Tryd.func24, Tryd.ntmps24
  go_wp2_with fail
  go_loopw [5, 6] (fun mv nv wr => ∃ n : Nat, 2 ≤ n ∧ n ≤ 312 ∧ nv = .int .i64 (n : Int) ∧ mv = .int .i64 ((cntP n : Nat) : Int) ∧ Hid (RowW wr w.heap.size 68 (hTo (min (cntP n) 8))) ∧ Hid (RowW wr (w.heap.size + 1) 69 (kTo (cntP n))) ∧ Hid (Below w.heap.size w wr)) (fun _ nv _ => 313 - (intOf nv).toNat)
  case atStart => exact ⟨2, by omega, by omega, rfl, by rw [cnt_end.2]; rfl, hide (by rw [cnt_end.2]; exact HH0.out), hide (by rw [cnt_end.2]; exact HK0.out), HB0⟩
  case round =>
    clear HH0 HK0 HB0
    obtain ⟨n, hn2, hn, rfl, rfl, HH, HK, HB⟩ := hrel
    by_cases hn312 : n < 312
    · obtain ⟨hst, hlt⟩ := cnt_step n hn312
      have HPR := hide (fun W => prime_any n W (by omega))
      have HF3 := hide (fun W h => frac3 n W hn312 h)
      have HF2 := hide (fun W h hc => frac2 n W hn312 h hc)
      obtain ⟨c, hc⟩ : ∃ c, cntP n = c := ⟨_, rfl⟩
      rw [hc] at hst hlt HH HK HF3 HF2
      rw [hc]
      have h1 : (c : Int) < 64 := by omega
      obtain ⟨p, hp⟩ : ∃ p, prB n = p := ⟨_, rfl⟩
      rw [hp] at hst HPR HF3 HF2
      clear hc hp
      cases p with
      | false =>
        have HST : Hid (cntP (n + 1) = c) := hide (by rw [hst]; rfl)
        clear hst
        go_wp2_with fail
        refine (HPR.out _).mono ?_
        rintro e w1 ⟨rfl, rfl⟩
        go_wp2_with fail
        go_roundw
        case rel => exact ⟨n + 1, by omega, by omega, by go_num, by rw [HST.out], by rw [HST.out]; exact HH, by rw [HST.out]; exact HK, HB⟩
        case measure => simp [intOf]; omega
      | true =>
        have HST : Hid (cntP (n + 1) = c + 1) := hide (by rw [hst]; rfl)
        clear hst
        obtain ⟨kx, hkx⟩ : ∃ z, BitVec.ofNat 32 (shaK.getD c 0) = z := ⟨_, rfl⟩
        have hks := kTo_set hlt
        rw [hkx] at HF3 hks
        clear hkx
        by_cases h8 : c < 8
        · have h2 : (c : Int) < 8 := by omega
          obtain ⟨hx, hhx⟩ : ∃ z, BitVec.ofNat 32 (shaH.getD c 0) = z := ⟨_, rfl⟩
          have hhs := hTo_set h8
          rw [hhx] at HF2 hhs
          have hmin : min c 8 = c := by omega
          rw [hmin] at HH
          clear hhx
          go_wp2_with fail
          refine (HPR.out _).mono ?_
          rintro e w1 ⟨rfl, rfl⟩
          go_wp2_with fail
          refine (HF2.out _ (by trivial) h8).mono ?_
          rintro e w2 ⟨rfl, hb2⟩
          have hH2 := HH.out.below hb2
          have hK2 := HK.out.below hb2
          have HB2 := HB.out.trans (hb2.mono HB.out.size)
          obtain ⟨_, f0⟩ := hH2.cells (hTo_at h8)
          obtain ⟨c0, _⟩ := hH2.cells (hTo_at h8)
          have HH3 : Hid (RowW (w2.setCell ⟨w.heap.size, c, none⟩ (.int .u32 ((hx.toNat : Nat) : Int))) w.heap.size 68 (hTo (c + 1))) := hide (by
            have h := hH2.set c hx
            rw [hhs] at h; exact h)
          have HK3 : Hid (RowW (w2.setCell ⟨w.heap.size, c, none⟩ (.int .u32 ((hx.toNat : Nat) : Int))) (w.heap.size + 1) 69 (kTo c)) := hide (hK2.other (p := ⟨w.heap.size, c, none⟩) (by show w.heap.size + 1 ≠ w.heap.size; omega) _)
          have HB3 := hide (HB2.setCell (p := ⟨w.heap.size, c, none⟩) (Nat.le_refl _) (.int .u32 ((hx.toNat : Nat) : Int)))
          clear hH2 hK2 HB2 hb2 hhs HH HK HB
          go_wp2_with fail
          refine (HF3.out _ (by trivial)).mono ?_
          rintro e w3 ⟨rfl, hb3⟩
          have hH4 := HH3.out.below hb3
          have hK4 := HK3.out.below hb3
          have HB4 := HB3.out.trans (hb3.mono HB3.out.size)
          obtain ⟨k0, g0⟩ := hK4.cells (kTo_at hlt)
          have HK5 : Hid (RowW (w3.setCell ⟨w.heap.size + 1, c, none⟩ (.int .u32 ((kx.toNat : Nat) : Int))) (w.heap.size + 1) 69 (kTo (c + 1))) := hide (by
            have h := hK4.set c kx
            rw [hks] at h; exact h)
          have HH5 : Hid (RowW (w3.setCell ⟨w.heap.size + 1, c, none⟩ (.int .u32 ((kx.toNat : Nat) : Int))) w.heap.size 68 (hTo (c + 1))) := hide (hH4.other (p := ⟨w.heap.size + 1, c, none⟩) (by show w.heap.size ≠ w.heap.size + 1; omega) _)
          have HB5 := hide (HB4.setCell (p := ⟨w.heap.size + 1, c, none⟩) (by show w.heap.size ≤ w.heap.size + 1; omega) (.int .u32 ((kx.toNat : Nat) : Int)))
          clear hH4 hK4 HB4 hb3 hks
          go_wp2_with fail
          go_roundw
          case rel => exact ⟨n + 1, by omega, by omega, by go_num, by rw [HST.out]; go_num, by rw [HST.out, show min (c + 1) 8 = c + 1 by omega]; exact HH5, by rw [HST.out]; exact HK5, HB5⟩
          case measure => simp [intOf]; omega
        · have h2 : ¬ (c : Int) < 8 := by omega
          have hmin : min c 8 = 8 := by omega
          rw [hmin] at HH
          go_wp2_with fail
          refine (HPR.out _).mono ?_
          rintro e w1 ⟨rfl, rfl⟩
          go_wp2_with fail
          refine (HF3.out _ (by trivial)).mono ?_
          rintro e w3 ⟨rfl, hb3⟩
          have hH4 := HH.out.below hb3
          have hK4 := HK.out.below hb3
          have HB4 := HB.out.trans (hb3.mono HB.out.size)
          obtain ⟨k0, g0⟩ := hK4.cells (kTo_at hlt)
          have HK5 : Hid (RowW (w3.setCell ⟨w.heap.size + 1, c, none⟩ (.int .u32 ((kx.toNat : Nat) : Int))) (w.heap.size + 1) 69 (kTo (c + 1))) := hide (by
            have h := hK4.set c kx
            rw [hks] at h; exact h)
          have HH5 : Hid (RowW (w3.setCell ⟨w.heap.size + 1, c, none⟩ (.int .u32 ((kx.toNat : Nat) : Int))) w.heap.size 68 (hTo 8)) := hide (hH4.other (p := ⟨w.heap.size + 1, c, none⟩) (by show w.heap.size ≠ w.heap.size + 1; omega) _)
          have HB5 := hide (HB4.setCell (p := ⟨w.heap.size + 1, c, none⟩) (by show w.heap.size ≤ w.heap.size + 1; omega) (.int .u32 ((kx.toNat : Nat) : Int)))
          clear hH4 hK4 HB4 hb3 hks HH HK HB
          go_wp2_with fail
          go_roundw
          case rel => exact ⟨n + 1, by omega, by omega, by go_num, by rw [HST.out]; go_num, by rw [HST.out, show min (c + 1) 8 = 8 by omega]; exact HH5, by rw [HST.out]; exact HK5, HB5⟩
          case measure => simp [intOf]; omega
    · have hn3 : n = 312 := by omega
      have hce : cntP n = 64 := by rw [hn3]; exact cnt_end.1
      rw [hce] at HH HK
      have HS1 : Hid (RowW wr w.heap.size 68 start8.list) := hide (by rw [← hTo_end]; exact HH.out)
      have HK1 : Hid (RowW wr (w.heap.size + 1) 69 keysL) := hide (by rw [← kTo_end]; exact HK.out)
      have hng : ¬ ((cntP n : Nat) : Int) < 64 := by rw [hce]; omega
      obtain ⟨i1, hi1⟩ : ∃ z : Int, ((cntP n : Nat) : Int) = z := ⟨_, rfl⟩
      rw [hi1] at hng ⊢
      clear HH HK hi1 hce hn3
      have hcat0 : ¬ (9223372036854775807 < s.size + (⟨#[128]⟩ : ByteArray).size) := by
        have : (⟨#[128]⟩ : ByteArray).size = 1 := rfl
        omega
      obtain ⟨s1, hs1⟩ : ∃ z, s ++ ⟨#[128]⟩ = z := ⟨_, rfl⟩
      have HSA : Hid (s1.data.toList = s.data.toList ++ 128 :: List.replicate 0 0) := hide (by rw [← hs1, ByteArray.data_append, Array.toList_append]; rfl)
      go_wp2_with fail
      clear hs1 hcat0
      obtain ⟨Z, hZ⟩ : ∃ Z, (119 - s.size % 64) % 64 = Z := ⟨_, rfl⟩
      have hZe : (s.size + 1 + Z) % 64 = 56 := by omega
      have hZl : ∀ z, z < Z → (s.size + 1 + z) % 64 ≠ 56 := fun z hz => by omega
      have hZ64 : Z < 64 := by omega
      have HZ := hide hZ
      have HZE := hide hZe
      have HZL := hide hZl
      clear hZ hZe hZl
      go_loopw [7] (fun sv wx => ∃ (z : Nat) (t : ByteArray), sv = .string t ∧ z ≤ Z ∧ Hid (t.data.toList = s.data.toList ++ 128 :: List.replicate z 0) ∧ wx = wr) (fun sv _ => match sv with | .string t => s.size + 70 - t.size | _ => 0)
      case atStart => exact ⟨0, s1, rfl, by omega, HSA, rfl⟩
      case round =>
        clear HSA
        obtain ⟨z, t, rfl, hz, HT1, rfl⟩ := hrel
        have hts : t.size = s.size + 1 + z := by
          rw [← len_size, HT1.out, List.length_append, List.length_cons, List.length_replicate, len_size]; omega
        by_cases hzZ : z < Z
        · have hm : ((t.size : Int) % 64 != 56) = true := by
            have := HZL.out z hzZ
            simp; omega
          have hcat : ¬ (9223372036854775807 < t.size + (⟨#[0]⟩ : ByteArray).size) := by
            have : (⟨#[0]⟩ : ByteArray).size = 1 := rfl
            omega
          obtain ⟨t2, ht2⟩ : ∃ z, t ++ ⟨#[0]⟩ = z := ⟨_, rfl⟩
          have HT2 : Hid (t2.data.toList = s.data.toList ++ 128 :: List.replicate (z + 1) 0) := hide (by
            rw [← ht2, ByteArray.data_append, Array.toList_append, HT1.out, List.replicate_succ', List.append_assoc]; rfl)
          have HSZ2 : Hid (t2.size = t.size + 1) := hide (by rw [← ht2, ByteArray.size_append]; rfl)
          have HTS := hide hts
          clear hts
          go_wp2_with fail
          go_roundw
          case rel => exact ⟨z + 1, t2, rfl, by omega, HT2, by trivial⟩
          case measure => have h1 := HSZ2.out; have h2 := HTS.out; simp; omega
        · have hm : ((t.size : Int) % 64 != 56) = false := by
            have := HZE.out
            simp; omega
          obtain rfl : z = Z := by omega
          have HTS := hide hts
          clear hts
          go_wp2_with fail
          go_loopw [7, 8] (fun mv iv wx => ∃ (k : Nat) (M : ByteArray), k ≤ 8 ∧ mv = .string M ∧ iv = .int .i64 ((k : Int) - 1) ∧ Hid (M.data.toList = t.data.toList ++ be8 (8 * s.size) (8 - k)) ∧ Hid (RowW wx w.heap.size 68 start8.list) ∧ Hid (RowW wx (w.heap.size + 1) 69 keysL) ∧ Hid (Below w.heap.size w wx)) (fun _ iv _ => (intOf iv + 1).toNat)
          case atStart => exact ⟨8, t, by omega, rfl, rfl, hide (by simp [be8]), HS1, HK1, HB⟩
          case round =>
            clear HS1 HK1 HB
            obtain ⟨k, M, hk, rfl, rfl, HM, HS, HK, HB⟩ := hrel
            have hMs : M.size = t.size + (8 - k) := by
              rw [← len_size, HM.out, List.length_append, be8_len, len_size]
            rcases Nat.eq_zero_or_pos k with h0 | h0
            · have hki : ¬ (0 : Int) ≤ (k : Int) - 1 := by omega
              have HMP : Hid (M.data.toList = padM s.data.toList) := hide (by
                rw [HM.out, HT1.out, h0, show 8 - 0 = 8 from rfl, be8_end _ (by omega)]
                unfold padM
                rw [len_size, HZ.out, Nat.mul_comm s.size 8])
              have hts := HTS.out
              have hMs2 : M.size ≤ 300000 := by omega
              obtain ⟨i2, hi2⟩ : ∃ z : Int, (k : Int) - 1 = z := ⟨_, rfl⟩
              rw [hi2] at hki ⊢
              clear hi2 HM hMs hts h0
              go_wp2_with fail
              have hPl := padM_len s.data.toList
              rw [← HMP.out, len_size] at hPl
              obtain ⟨nb, hnb⟩ : ∃ nb, M.size = 64 * nb := ⟨M.size / 64, by omega⟩
              have HNB := hide hnb
              have HD : Hid (blocks8 start8 nb M.data.toList = dig8 s.data.toList) := hide (by
                unfold dig8
                rw [← HMP.out, len_size, hnb, show 64 * nb / 64 = nb by omega])
              clear hPl hnb
              go_loopw [9] (fun av wx => ∃ b : Nat, b ≤ nb ∧ av = .int .i64 ((64 * b : Nat) : Int) ∧ Hid (RowW wx w.heap.size 68 (blocks8 start8 b M.data.toList).list) ∧ Hid (RowW wx (w.heap.size + 1) 69 keysL) ∧ Hid (Below w.heap.size w wx)) (fun av _ => 64 * nb + 1 - (intOf av).toNat)
              case atStart => exact ⟨0, by omega, rfl, HS, HK, HB⟩
              case round =>
                clear HS HK HB
                obtain ⟨b, hb, rfl, HS, HK, HB⟩ := hrel
                have hMn := HNB.out
                by_cases hbn : b < nb
                · have h1 : ((64 * b : Nat) : Int) < (M.size : Int) := by omega
                  obtain ⟨m, hm⟩ : ∃ m, M.data.toList.drop (64 * b) = m := ⟨_, rfl⟩
                  obtain ⟨v, hv⟩ : ∃ v, blocks8 start8 b M.data.toList = v := ⟨_, rfl⟩
                  have HNX : Hid (blocks8 start8 (b + 1) M.data.toList = block8 v m) := hide (by rw [blocks8_next, hm, hv])
                  have HMB : Hid (∀ (q p : Nat) (h : q < M.size), q = 64 * b + p → m.getD p 0 = M[q]) := hide (fun q p h e => by
                    subst e
                    rw [← hm, List.getD_eq_getElem?_getD, List.getElem?_drop, List.getElem?_eq_getElem (by rw [len_size]; omega)]; rfl)
                  rw [hv] at HS
                  obtain ⟨at_, hat⟩ : ∃ at_, 64 * b = at_ := ⟨_, rfl⟩
                  rw [hat] at h1 HMB ⊢
                  have hat64 : at_ + 64 ≤ M.size := by omega
                  have HAT := hide hat
                  clear hm hv hat hMn
                  obtain ⟨WB, hWB⟩ : ∃ WB, wr.heap.size = WB := ⟨_, rfl⟩
                  have hWH : w.heap.size + 1 < WB := by rw [← hWB]; exact HK.out.lt
                  have hal := (Below.refl wr.heap.size wr).alloc (Nat.le_refl _) (.cells zeros64 69)
                  have HW0 : Hid (RowW (wr.alloc (.cells zeros64 69)) WB 69 (wRow m 0)) := hide (by rw [zero64, ← hWB]; exact heap_alloc_new _ _)
                  have HS0 := hide (HS.out.below hal)
                  have HK0 := hide (HK.out.below hal)
                  have HB0 := hide (HB.out.trans (hal.mono HB.out.size))
                  clear hal HS HK HB
                  go_wp2_with fail
                  clear hWB
                  go_loopw [72] (fun iv wx => ∃ i : Nat, i ≤ 64 ∧ iv = .int .i64 (i : Int) ∧ Hid (RowW wx WB 69 (wRow m i)) ∧ Hid (RowW wx w.heap.size 68 v.list) ∧ Hid (RowW wx (w.heap.size + 1) 69 keysL) ∧ Hid (Below w.heap.size w wx)) (fun iv _ => 64 - (intOf iv).toNat)
                  case atStart => exact ⟨0, by omega, rfl, HW0, HS0, HK0, HB0⟩
                  case round =>
                    clear HW0 HS0 HK0 HB0
                    obtain ⟨i, hi, rfl, HW, HS, HK, HB⟩ := hrel
                    by_cases hi64 : i < 64
                    · have h2 : (i : Int) < 64 := by omega
                      have n0 : (0 : Int) ≤ (i : Int) := by omega
                      by_cases hi16 : i < 16
                      · have h3 : (i : Int) < 16 := by omega
                        have HW1 : Hid (RowW wr WB 69 (wRowK m i 0)) := hide (by rw [← wRowK_zero m (by omega)]; exact HW.out)
                        go_wp2_with fail
                        go_loopw [77] (fun kv wx => ∃ k : Nat, k ≤ 4 ∧ kv = .int .i64 (k : Int) ∧ Hid (RowW wx WB 69 (wRowK m i k)) ∧ Hid (RowW wx w.heap.size 68 v.list) ∧ Hid (RowW wx (w.heap.size + 1) 69 keysL) ∧ Hid (Below w.heap.size w wx)) (fun kv _ => 4 - (intOf kv).toNat)
                        case atStart => exact ⟨0, by omega, rfl, HW1, HS, HK, HB⟩
                        case round =>
                          clear HW1 HW HS HK HB
                          obtain ⟨k, hk, rfl, HW, HS, HK, HB⟩ := hrel
                          by_cases hk4 : k < 4
                          · have h4 : (k : Int) < 4 := by omega
                            obtain ⟨c0, f0⟩ := HW.out.cells (wRowK_at m)
                            obtain ⟨x, hx⟩ : ∃ x, wordAt m i k = x := ⟨_, rfl⟩
                            obtain ⟨p, hp⟩ : ∃ p, at_ + (4 * i + k) = p := ⟨_, rfl⟩
                            have hps : p < M.size := by omega
                            have hmb := HMB.out p (4 * i + k) hps hp.symm
                            obtain ⟨bb, hbb⟩ : ∃ bb, M[p] = bb := ⟨_, rfl⟩
                            have hpm : m.getD (4 * i + k) 0 = bb := by rw [hmb, hbb]
                            have hnx : wordAt m i (k + 1) = x <<< 8 ||| BitVec.ofNat 32 bb.toNat := by rw [wordAt, hx, hpm]
                            rw [hx] at c0
                            have hlb := bb.toNat_lt
                            have w1 : IntKind.i64.wrap (4 * (i : Int)) = 4 * (i : Int) := IntWalk.i64_in _ (by omega)
                            have w2 : IntKind.i64.wrap ((at_ : Int) + 4 * (i : Int)) = (at_ : Int) + 4 * (i : Int) := IntWalk.i64_in _ (by omega)
                            have w3 : IntKind.i64.wrap ((at_ : Int) + 4 * (i : Int) + (k : Int)) = (p : Int) := by rw [IntWalk.i64_in _ (by omega)]; omega
                            have w4 : IntKind.u32.wrap ((bb.toNat : Nat) : Int) = (((BitVec.ofNat 32 bb.toNat).toNat : Nat) : Int) := by rw [← wi_byte, IntKind.wrap_u32']; omega
                            obtain ⟨bw, hbw⟩ : ∃ z, BitVec.ofNat 32 bb.toNat = z := ⟨_, rfl⟩
                            rw [hbw] at w4 hnx
                            have f8 := wi_shl x 8 256 rfl
                            obtain ⟨x8, d8⟩ : ∃ z, x <<< 8 = z := ⟨_, rfl⟩
                            rw [d8] at f8 hnx
                            have fo := wi_or x8 bw
                            obtain ⟨y, dy⟩ : ∃ z, x8 ||| bw = z := ⟨_, rfl⟩
                            rw [dy] at fo hnx
                            have HWN : Hid (RowW (wr.setCell ⟨WB, i, none⟩ (.int .u32 ((y.toNat : Nat) : Int))) WB 69 (wRowK m i (k + 1))) := hide (by
                              have h := HW.out.set i y
                              rw [← hnx, wRowK_set] at h
                              rw [← hnx]; exact h)
                            have HSN : Hid (RowW (wr.setCell ⟨WB, i, none⟩ (.int .u32 ((y.toNat : Nat) : Int))) w.heap.size 68 v.list) := hide (HS.out.other (p := ⟨WB, i, none⟩) (by show w.heap.size ≠ WB; omega) _)
                            have HKN : Hid (RowW (wr.setCell ⟨WB, i, none⟩ (.int .u32 ((y.toNat : Nat) : Int))) (w.heap.size + 1) 69 keysL) := hide (HK.out.other (p := ⟨WB, i, none⟩) (by show w.heap.size + 1 ≠ WB; omega) _)
                            have HBN := hide (HB.out.setCell (p := ⟨WB, i, none⟩) (by show w.heap.size ≤ WB; omega) (.int .u32 ((y.toNat : Nat) : Int)))
                            have i1 : (i : Int) < 64 := by omega
                            have p0 : (0 : Int) ≤ (p : Int) := by omega
                            have p1 : (p : Int) < (M.size : Int) := by omega
                            clear hx hmb hp hpm hnx hbw d8 dy
                            go_wp2_with fail
                            go_region
                            all_goals
                              go_wp2_with fail
                              go_roundw
                              case rel => exact ⟨k + 1, by omega, by go_num, hide HWN.out.drew, hide HSN.out.drew, hide HKN.out.drew, hide HBN.out.drew⟩
                              case measure => simp [intOf]; omega
                          · have hng4 : ¬ (k : Int) < 4 := by omega
                            have HW2 : Hid (RowW wr WB 69 (wRow m (i + 1))) := hide (by have h := HW.out; rw [show k = 4 by omega, wRowK_four m hi16] at h; exact h)
                            go_wp2_with fail
                            go_roundw
                            case rel => exact ⟨i + 1, by omega, by go_num, HW2, HS, HK, HB⟩
                            case measure => simp [intOf]; omega
                      · have h3 : ¬ (i : Int) < 16 := by omega
                        have hnx := nextW_late m (i := i) (by omega)
                        have hset := wRow_set m hi64
                        obtain ⟨j2, hj2⟩ : ∃ j, i - 2 = j := ⟨_, rfl⟩
                        obtain ⟨j7, hj7⟩ : ∃ j, i - 7 = j := ⟨_, rfl⟩
                        obtain ⟨j15, hj15⟩ : ∃ j, i - 15 = j := ⟨_, rfl⟩
                        obtain ⟨j16, hj16⟩ : ∃ j, i - 16 = j := ⟨_, rfl⟩
                        rw [hj2, hj7, hj15, hj16] at hnx
                        obtain ⟨c2, g2⟩ := HW.out.cells (wRow_at m (i := i) (j := j2) (by omega))
                        obtain ⟨c7, g7⟩ := HW.out.cells (wRow_at m (i := i) (j := j7) (by omega))
                        obtain ⟨c15, g15⟩ := HW.out.cells (wRow_at m (i := i) (j := j15) (by omega))
                        obtain ⟨c16, g16⟩ := HW.out.cells (wRow_at m (i := i) (j := j16) (by omega))
                        obtain ⟨c0, g0⟩ := HW.out.cells (wRow_zero m hi64)
                        obtain ⟨y, dy⟩ : ∃ z, (words m i).getD j2 0 = z := ⟨_, rfl⟩
                        obtain ⟨q, dq⟩ : ∃ z, (words m i).getD j7 0 = z := ⟨_, rfl⟩
                        obtain ⟨x, dx⟩ : ∃ z, (words m i).getD j15 0 = z := ⟨_, rfl⟩
                        obtain ⟨u, du⟩ : ∃ z, (words m i).getD j16 0 = z := ⟨_, rfl⟩
                        rw [dy] at c2 hnx
                        rw [dq] at c7 hnx
                        rw [dx] at c15 hnx
                        rw [du] at c16 hnx
                        unfold sg0 sg1 at hnx
                        obtain ⟨a7, d_a7⟩ : ∃ z, rotr x 7 = z := ⟨_, rfl⟩
                        obtain ⟨a18, d_a18⟩ : ∃ z, rotr x 18 = z := ⟨_, rfl⟩
                        obtain ⟨b17, d_b17⟩ : ∃ z, rotr y 17 = z := ⟨_, rfl⟩
                        obtain ⟨b19, d_b19⟩ : ∃ z, rotr y 19 = z := ⟨_, rfl⟩
                        rw [d_a7, d_a18, d_b17, d_b19] at hnx
                        have f_A := wi_xor a7 a18
                        obtain ⟨A, d_A⟩ : ∃ z, a7 ^^^ a18 = z := ⟨_, rfl⟩
                        rw [d_A] at f_A
                        have f_x3 := wi_shr x 3 8 rfl
                        obtain ⟨x3, d_x3⟩ : ∃ z, x >>> 3 = z := ⟨_, rfl⟩
                        rw [d_x3] at f_x3
                        have f_S0 := wi_xor A x3
                        obtain ⟨S0, d_S0⟩ : ∃ z, A ^^^ x3 = z := ⟨_, rfl⟩
                        rw [d_S0] at f_S0
                        have f_t1 := wi_add u q
                        obtain ⟨t1, d_t1⟩ : ∃ z, u + q = z := ⟨_, rfl⟩
                        rw [d_t1] at f_t1
                        have f_t2 := wi_add t1 S0
                        obtain ⟨t2, d_t2⟩ : ∃ z, t1 + S0 = z := ⟨_, rfl⟩
                        rw [d_t2] at f_t2
                        have f_B := wi_xor b17 b19
                        obtain ⟨B, d_B⟩ : ∃ z, b17 ^^^ b19 = z := ⟨_, rfl⟩
                        rw [d_B] at f_B
                        have f_y10 := wi_shr y 10 1024 rfl
                        obtain ⟨y10, d_y10⟩ : ∃ z, y >>> 10 = z := ⟨_, rfl⟩
                        rw [d_y10] at f_y10
                        have f_S1 := wi_xor B y10
                        obtain ⟨S1, d_S1⟩ : ∃ z, B ^^^ y10 = z := ⟨_, rfl⟩
                        rw [d_S1] at f_S1
                        have f_t3 := wi_add t2 S1
                        obtain ⟨t3, d_t3⟩ : ∃ z, t2 + S1 = z := ⟨_, rfl⟩
                        rw [d_t3] at f_t3
                        rw [d_A, d_x3, d_S0, d_B, d_y10, d_S1, add_order u q S0 S1, d_t1, d_t2, d_t3] at hnx
                        rw [hnx] at hset
                        have HSET := hide hset
                        have HA7 := hide d_a7
                        have HA18 := hide d_a18
                        have HB17 := hide d_b17
                        have HB19 := hide d_b19
                        have w2 : IntKind.i64.wrap ((i : Int) - 2) = (j2 : Int) := by rw [IntWalk.i64_in _ (by omega)]; omega
                        have w7 : IntKind.i64.wrap ((i : Int) - 7) = (j7 : Int) := by rw [IntWalk.i64_in _ (by omega)]; omega
                        have w15 : IntKind.i64.wrap ((i : Int) - 15) = (j15 : Int) := by rw [IntWalk.i64_in _ (by omega)]; omega
                        have w16 : IntKind.i64.wrap ((i : Int) - 16) = (j16 : Int) := by rw [IntWalk.i64_in _ (by omega)]; omega
                        have l2 : (j2 : Int) < 64 := by omega
                        have l7 : (j7 : Int) < 64 := by omega
                        have l15 : (j15 : Int) < 64 := by omega
                        have l16 : (j16 : Int) < 64 := by omega
                        have n2 : (0 : Int) ≤ (j2 : Int) := by omega
                        have n7 : (0 : Int) ≤ (j7 : Int) := by omega
                        have n15 : (0 : Int) ≤ (j15 : Int) := by omega
                        have n16 : (0 : Int) ≤ (j16 : Int) := by omega
                        clear hnx hset hj2 hj7 hj15 hj16 dy dq dx du d_a7 d_a18 d_b17 d_b19 d_A d_x3 d_S0 d_t1 d_t2 d_B d_y10 d_S1 d_t3 g2 g7 g15 g16
                        go_wp2_with fail
                        go_quiet (fail)
                        go_wp2_with fail
                        obtain ⟨w4, hw4⟩ : ∃ z, wr.drewN nq = z := ⟨_, rfl⟩
                        rw [hw4]
                        replace c0 := (show w4.cell? ⟨WB, i, none⟩ = wr.cell? ⟨WB, i, none⟩ by rw [← hw4]; rfl).trans c0
                        replace g0 := (show w4.frozen? ⟨WB, i, none⟩ = wr.frozen? ⟨WB, i, none⟩ by rw [← hw4]; rfl).trans g0
                        replace c2 := (show w4.cell? ⟨WB, j2, none⟩ = wr.cell? ⟨WB, j2, none⟩ by rw [← hw4]; rfl).trans c2
                        replace c7 := (show w4.cell? ⟨WB, j7, none⟩ = wr.cell? ⟨WB, j7, none⟩ by rw [← hw4]; rfl).trans c7
                        replace c15 := (show w4.cell? ⟨WB, j15, none⟩ = wr.cell? ⟨WB, j15, none⟩ by rw [← hw4]; rfl).trans c15
                        replace c16 := (show w4.cell? ⟨WB, j16, none⟩ = wr.cell? ⟨WB, j16, none⟩ by rw [← hw4]; rfl).trans c16
                        have HW4 : Hid (RowW w4 WB 69 (wRow m i)) := hide (by rw [← hw4]; exact HW.out)
                        have HS4 : Hid (RowW w4 w.heap.size 68 v.list) := hide (by rw [← hw4]; exact HS.out)
                        have HK4 : Hid (RowW w4 (w.heap.size + 1) 69 keysL) := hide (by rw [← hw4]; exact HK.out)
                        have HB4 : Hid (Below w.heap.size w w4) := hide (by rw [← hw4]; exact below_drewN HB.out _)
                        clear hw4 HW HS HK HB
                        refine wp_region_quiet_last 29 (by kernel_rfl) (by kernel_rfl) (by kernel_rfl) (by rfl) (by rfl) ?_
                        simp only [List.take_succ_cons, List.take_zero]
                        repeat (quiet_step (first | (go_at_call 44; (with_reducible refine Calls.quiet_of (turnQ_7 x a7 HA7.out _))) | (go_at_call 44; (with_reducible refine Calls.quiet_of (turnQ_18 x a18 HA18.out _))) | (go_at_call 44; (with_reducible refine Calls.quiet_of (turnQ_17 y b17 HB17.out _))) | (go_at_call 44; (with_reducible refine Calls.quiet_of (turnQ_19 y b19 HB19.out _)))))
                        refine wpQuiet_nil ?_
                        intro w5 hw5
                        obtain ⟨nq, hw5'⟩ := hw5
                        have HWN : Hid (RowW (w5.setCell ⟨WB, i, none⟩ (.int .u32 ((t3.toNat : Nat) : Int))) WB 69 (wRow m (i + 1))) := hide (by
                          have h0 : RowW w5 WB 69 (wRow m i) := by rw [hw5']; exact HW4.out
                          have h := h0.set i t3
                          rw [HSET.out] at h
                          exact h)
                        have HSN : Hid (RowW (w5.setCell ⟨WB, i, none⟩ (.int .u32 ((t3.toNat : Nat) : Int))) w.heap.size 68 v.list) := hide (by
                          have h0 : RowW w5 w.heap.size 68 v.list := by rw [hw5']; exact HS4.out
                          exact h0.other (p := ⟨WB, i, none⟩) (by show w.heap.size ≠ WB; omega) _)
                        have HKN : Hid (RowW (w5.setCell ⟨WB, i, none⟩ (.int .u32 ((t3.toNat : Nat) : Int))) (w.heap.size + 1) 69 keysL) := hide (by
                          have h0 : RowW w5 (w.heap.size + 1) 69 keysL := by rw [hw5']; exact HK4.out
                          exact h0.other (p := ⟨WB, i, none⟩) (by show w.heap.size + 1 ≠ WB; omega) _)
                        have HBN : Hid (Below w.heap.size w (w5.setCell ⟨WB, i, none⟩ (.int .u32 ((t3.toNat : Nat) : Int)))) := hide (by
                          have h0 : Below w.heap.size w w5 := by rw [hw5']; exact below_drewN HB4.out _
                          exact h0.setCell (p := ⟨WB, i, none⟩) (by show w.heap.size ≤ WB; omega) _)
                        replace c0 := (show w5.cell? ⟨WB, i, none⟩ = w4.cell? ⟨WB, i, none⟩ by rw [hw5']; rfl).trans c0
                        replace g0 := (show w5.frozen? ⟨WB, i, none⟩ = w4.frozen? ⟨WB, i, none⟩ by rw [hw5']; rfl).trans g0
                        clear hw5' HW4 HS4 HK4 HB4
                        go_wp2_with fail
                        go_roundw
                        case rel => exact ⟨i + 1, by omega, by go_num, HWN, HSN, HKN, HBN⟩
                        case measure => simp [intOf]; omega
                    · have hng5 : ¬ (i : Int) < 64 := by omega
                      have HW1 : Hid (RowW wr WB 69 (words m 64)) := hide (by have h := HW.out; rw [show i = 64 by omega, wRow_end] at h; exact h)
                      obtain ⟨i3, hi3⟩ : ∃ z : Int, (i : Int) = z := ⟨_, rfl⟩
                      rw [hi3] at hng5 ⊢
                      clear hi3 HW
                      clear HD HMB
                      obtain ⟨s0, _⟩ := HS.out.cells (s := 0) (x := v.a) rfl
                      obtain ⟨s1, _⟩ := HS.out.cells (s := 1) (x := v.b) rfl
                      obtain ⟨s2, _⟩ := HS.out.cells (s := 2) (x := v.c) rfl
                      obtain ⟨s3, _⟩ := HS.out.cells (s := 3) (x := v.d) rfl
                      obtain ⟨s4, _⟩ := HS.out.cells (s := 4) (x := v.e) rfl
                      obtain ⟨s5, _⟩ := HS.out.cells (s := 5) (x := v.f) rfl
                      obtain ⟨s6, _⟩ := HS.out.cells (s := 6) (x := v.g) rfl
                      obtain ⟨s7, _⟩ := HS.out.cells (s := 7) (x := v.h) rfl
                      obtain ⟨VB, hVB⟩ : ∃ VB, wr.heap.size = VB := ⟨_, rfl⟩
                      have hWV : WB < VB := by rw [← hVB]; exact HW1.out.lt
                      have hal := (Below.refl wr.heap.size wr).alloc (Nat.le_refl _) (.cells #[.int .u32 ((v.a.toNat : Nat) : Int), .int .u32 ((v.b.toNat : Nat) : Int), .int .u32 ((v.c.toNat : Nat) : Int), .int .u32 ((v.d.toNat : Nat) : Int), .int .u32 ((v.e.toNat : Nat) : Int), .int .u32 ((v.f.toNat : Nat) : Int), .int .u32 ((v.g.toNat : Nat) : Int), .int .u32 ((v.h.toNat : Nat) : Int)] 68)
                      have HV0 : Hid (RowW (wr.alloc (.cells #[.int .u32 ((v.a.toNat : Nat) : Int), .int .u32 ((v.b.toNat : Nat) : Int), .int .u32 ((v.c.toNat : Nat) : Int), .int .u32 ((v.d.toNat : Nat) : Int), .int .u32 ((v.e.toNat : Nat) : Int), .int .u32 ((v.f.toNat : Nat) : Int), .int .u32 ((v.g.toNat : Nat) : Int), .int .u32 ((v.h.toNat : Nat) : Int)] 68)) VB 68 v.list) := hide (by rw [← hVB]; exact heap_alloc_new _ _)
                      have HW0 := hide (HW1.out.below hal)
                      have HS0 := hide (HS.out.below hal)
                      have HK0 := hide (HK.out.below hal)
                      have HB0 := hide (HB.out.trans (hal.mono HB.out.size))
                      clear hal HS HK HB HW1
                      go_wp2_with fail
                      try rw [hVB]
                      clear s0 s1 s2 s3 s4 s5 s6 s7 hVB
                      go_loopw [136] (fun jv wx => ∃ (j : Nat) (u : V8), j ≤ 64 ∧ jv = .int .i64 (j : Int) ∧ Hid (u = rounds8 v m j) ∧ Hid (RowW wx VB 68 u.list) ∧ Hid (RowW wx WB 69 (words m 64)) ∧ Hid (RowW wx w.heap.size 68 v.list) ∧ Hid (RowW wx (w.heap.size + 1) 69 keysL) ∧ Hid (Below w.heap.size w wx)) (fun jv _ => 64 - (intOf jv).toNat)
                      case atStart => exact ⟨0, v, by omega, rfl, hide rfl, HV0, HW0, HS0, HK0, HB0⟩
                      case round =>
                        clear HV0 HW0 HS0 HK0 HB0
                        obtain ⟨j, u, hj, rfl, HU, HV, HW, HS, HK, HB⟩ := hrel
                        by_cases hj64 : j < 64
                        · have h2 : (j : Int) < 64 := by omega
                          have j0 : (0 : Int) ≤ (j : Int) := by omega
                          have hnext : rounds8 v m (j + 1) = u.next (BitVec.ofNat 32 (shaK.getD j 0)) ((words m 64).getD j 0) := by rw [rounds8, HU.out]
                          have hkj : keysL[j]? = some (BitVec.ofNat 32 (shaK.getD j 0)) := by
                            unfold keysL
                            rw [List.getElem?_map, List.getD_eq_getElem?_getD, List.getElem?_eq_getElem (by rw [keys_len]; exact hj64)]; rfl
                          have hwj : (words m 64)[j]? = some ((words m 64).getD j 0) := by
                            rw [List.getD_eq_getElem?_getD, List.getElem?_eq_getElem (by rw [words_len]; exact hj64)]; rfl
                          obtain ⟨ck, _⟩ := HK.out.cells hkj
                          obtain ⟨cw, _⟩ := HW.out.cells hwj
                          obtain ⟨kj, dkj⟩ : ∃ z, BitVec.ofNat 32 (shaK.getD j 0) = z := ⟨_, rfl⟩
                          obtain ⟨wj, dwj⟩ : ∃ z, (words m 64).getD j 0 = z := ⟨_, rfl⟩
                          rw [dkj] at ck hnext
                          rw [dwj] at cw hnext
                          clear HU dkj dwj hkj hwj
                          obtain ⟨ua, ub, uc, ud, ue, uf, ug, uh⟩ := u
                          obtain ⟨v0, g0⟩ := HV.out.cells (s := 0) (x := ua) rfl
                          obtain ⟨v1, g1⟩ := HV.out.cells (s := 1) (x := ub) rfl
                          obtain ⟨v2, g2⟩ := HV.out.cells (s := 2) (x := uc) rfl
                          obtain ⟨v3, g3⟩ := HV.out.cells (s := 3) (x := ud) rfl
                          obtain ⟨v4, g4⟩ := HV.out.cells (s := 4) (x := ue) rfl
                          obtain ⟨v5, g5⟩ := HV.out.cells (s := 5) (x := uf) rfl
                          obtain ⟨v6, g6⟩ := HV.out.cells (s := 6) (x := ug) rfl
                          obtain ⟨v7, g7⟩ := HV.out.cells (s := 7) (x := uh) rfl
                          unfold V8.next V8.one V8.two sS0 sS1 chS mjS at hnext
                          simp only at hnext
                          obtain ⟨r6, d_r6⟩ : ∃ z, rotr ue 6 = z := ⟨_, rfl⟩
                          obtain ⟨r11, d_r11⟩ : ∃ z, rotr ue 11 = z := ⟨_, rfl⟩
                          obtain ⟨r25, d_r25⟩ : ∃ z, rotr ue 25 = z := ⟨_, rfl⟩
                          obtain ⟨r2, d_r2⟩ : ∃ z, rotr ua 2 = z := ⟨_, rfl⟩
                          obtain ⟨r13, d_r13⟩ : ∃ z, rotr ua 13 = z := ⟨_, rfl⟩
                          obtain ⟨r22, d_r22⟩ : ∃ z, rotr ua 22 = z := ⟨_, rfl⟩
                          rw [d_r6, d_r11, d_r25, d_r2, d_r13, d_r22] at hnext
                          have f_e1 := wi_and ue uf
                          obtain ⟨e1, d_e1⟩ : ∃ z, ue &&& uf = z := ⟨_, rfl⟩
                          rw [d_e1] at f_e1
                          have f_ne := wi_notM ue
                          obtain ⟨ne, d_ne⟩ : ∃ z, ~~~ue = z := ⟨_, rfl⟩
                          rw [d_ne] at f_ne
                          have f_e2 := wi_and ne ug
                          obtain ⟨e2, d_e2⟩ : ∃ z, ne &&& ug = z := ⟨_, rfl⟩
                          rw [d_e2] at f_e2
                          have f_ch := wi_xor e1 e2
                          obtain ⟨ch, d_ch⟩ : ∃ z, e1 ^^^ e2 = z := ⟨_, rfl⟩
                          rw [d_ch] at f_ch
                          have f_m1 := wi_and ua ub
                          obtain ⟨m1, d_m1⟩ : ∃ z, ua &&& ub = z := ⟨_, rfl⟩
                          rw [d_m1] at f_m1
                          have f_m2 := wi_and ua uc
                          obtain ⟨m2, d_m2⟩ : ∃ z, ua &&& uc = z := ⟨_, rfl⟩
                          rw [d_m2] at f_m2
                          have f_m3 := wi_xor m1 m2
                          obtain ⟨m3, d_m3⟩ : ∃ z, m1 ^^^ m2 = z := ⟨_, rfl⟩
                          rw [d_m3] at f_m3
                          have f_m4 := wi_and ub uc
                          obtain ⟨m4, d_m4⟩ : ∃ z, ub &&& uc = z := ⟨_, rfl⟩
                          rw [d_m4] at f_m4
                          have f_mj := wi_xor m3 m4
                          obtain ⟨mj, d_mj⟩ : ∃ z, m3 ^^^ m4 = z := ⟨_, rfl⟩
                          rw [d_mj] at f_mj
                          have f_x1 := wi_xor r6 r11
                          obtain ⟨x1, d_x1⟩ : ∃ z, r6 ^^^ r11 = z := ⟨_, rfl⟩
                          rw [d_x1] at f_x1
                          have f_x2 := wi_xor x1 r25
                          obtain ⟨x2, d_x2⟩ : ∃ z, x1 ^^^ r25 = z := ⟨_, rfl⟩
                          rw [d_x2] at f_x2
                          have f_t1 := wi_add uh x2
                          obtain ⟨t1, d_t1⟩ : ∃ z, uh + x2 = z := ⟨_, rfl⟩
                          rw [d_t1] at f_t1
                          have f_t2 := wi_add t1 ch
                          obtain ⟨t2, d_t2⟩ : ∃ z, t1 + ch = z := ⟨_, rfl⟩
                          rw [d_t2] at f_t2
                          have f_t3 := wi_add t2 kj
                          obtain ⟨t3, d_t3⟩ : ∃ z, t2 + kj = z := ⟨_, rfl⟩
                          rw [d_t3] at f_t3
                          have f_X := wi_add t3 wj
                          obtain ⟨X, d_X⟩ : ∃ z, t3 + wj = z := ⟨_, rfl⟩
                          rw [d_X] at f_X
                          have f_y1 := wi_xor r2 r13
                          obtain ⟨y1, d_y1⟩ : ∃ z, r2 ^^^ r13 = z := ⟨_, rfl⟩
                          rw [d_y1] at f_y1
                          have f_y2 := wi_xor y1 r22
                          obtain ⟨y2, d_y2⟩ : ∃ z, y1 ^^^ r22 = z := ⟨_, rfl⟩
                          rw [d_y2] at f_y2
                          have f_Y := wi_add y2 mj
                          obtain ⟨Y, d_Y⟩ : ∃ z, y2 + mj = z := ⟨_, rfl⟩
                          rw [d_Y] at f_Y
                          have f_XY := wi_add X Y
                          obtain ⟨XY, d_XY⟩ : ∃ z, X + Y = z := ⟨_, rfl⟩
                          rw [d_XY] at f_XY
                          have f_DX := wi_add ud X
                          obtain ⟨DX, d_DX⟩ : ∃ z, ud + X = z := ⟨_, rfl⟩
                          rw [d_DX] at f_DX
                          rw [d_e1, d_ne, d_e2, d_ch, d_m1, d_m2, d_m3, d_m4, d_mj, d_x1, d_x2, d_t1, d_t2, d_t3, d_X, d_y1, d_y2, d_Y, d_XY, d_DX] at hnext
                          have f_ne2 : bits .xor .u32 (if IntKind.u32.signed = true then -1 else IntKind.u32.max) ((ue.toNat : Nat) : Int) = ((ne.toNat : Nat) : Int) := f_ne
                          have HR6 := hide d_r6
                          have HR11 := hide d_r11
                          have HR25 := hide d_r25
                          have HR2 := hide d_r2
                          have HR13 := hide d_r13
                          have HR22 := hide d_r22
                          have HNX2 := hide hnext
                          clear hnext d_r6 d_r11 d_r25 d_r2 d_r13 d_r22 d_e1 d_ne d_e2 d_ch d_m1 d_m2 d_m3 d_m4 d_mj d_x1 d_x2 d_t1 d_t2 d_t3 d_X d_y1 d_y2 d_Y d_XY d_DX
                          go_wp2_with fail
                          go_quiet (fail)
                          obtain ⟨w4, hw4⟩ : ∃ z, wr.drewN nq = z := ⟨_, rfl⟩
                          rw [hw4]
                          replace ck := (show w4.cell? ⟨w.heap.size + 1, j, none⟩ = wr.cell? ⟨w.heap.size + 1, j, none⟩ by rw [← hw4]; rfl).trans ck
                          replace cw := (show w4.cell? ⟨WB, j, none⟩ = wr.cell? ⟨WB, j, none⟩ by rw [← hw4]; rfl).trans cw
                          have HV4 : Hid (RowW w4 VB 68 (V8.mk ua ub uc ud ue uf ug uh).list) := hide (by rw [← hw4]; exact HV.out)
                          have HW4 : Hid (RowW w4 WB 69 (words m 64)) := hide (by rw [← hw4]; exact HW.out)
                          have HS4 : Hid (RowW w4 w.heap.size 68 v.list) := hide (by rw [← hw4]; exact HS.out)
                          have HK4 : Hid (RowW w4 (w.heap.size + 1) 69 keysL) := hide (by rw [← hw4]; exact HK.out)
                          have HB4 : Hid (Below w.heap.size w w4) := hide (by rw [← hw4]; exact below_drewN HB.out _)
                          clear v0 v1 v2 v3 v4 v5 v6 v7 g0 g1 g2 g3 g4 g5 g6 g7 hw4 HV HW HS HK HB
                          obtain ⟨v0, g0⟩ := HV4.out.cells (s := 0) (x := ua) rfl
                          obtain ⟨v1, g1⟩ := HV4.out.cells (s := 1) (x := ub) rfl
                          obtain ⟨v2, g2⟩ := HV4.out.cells (s := 2) (x := uc) rfl
                          obtain ⟨v3, g3⟩ := HV4.out.cells (s := 3) (x := ud) rfl
                          obtain ⟨v4, g4⟩ := HV4.out.cells (s := 4) (x := ue) rfl
                          obtain ⟨v5, g5⟩ := HV4.out.cells (s := 5) (x := uf) rfl
                          obtain ⟨v6, g6⟩ := HV4.out.cells (s := 6) (x := ug) rfl
                          obtain ⟨v7, g7⟩ := HV4.out.cells (s := 7) (x := uh) rfl
                          go_wp2_with fail
                          go_quiet (first | (go_at_call 44; (with_reducible refine Calls.quiet_of (turnQ_6 ue r6 HR6.out _))) | (go_at_call 44; (with_reducible refine Calls.quiet_of (turnQ_11 ue r11 HR11.out _))) | (go_at_call 44; (with_reducible refine Calls.quiet_of (turnQ_25 ue r25 HR25.out _))))
                          obtain ⟨w5, hw5⟩ : ∃ z, w4.drewN nq = z := ⟨_, rfl⟩
                          rw [hw5]
                          replace ck := (show w5.cell? ⟨w.heap.size + 1, j, none⟩ = w4.cell? ⟨w.heap.size + 1, j, none⟩ by rw [← hw5]; rfl).trans ck
                          replace cw := (show w5.cell? ⟨WB, j, none⟩ = w4.cell? ⟨WB, j, none⟩ by rw [← hw5]; rfl).trans cw
                          have HV5 : Hid (RowW w5 VB 68 (V8.mk ua ub uc ud ue uf ug uh).list) := hide (by rw [← hw5]; exact HV4.out)
                          have HW5 : Hid (RowW w5 WB 69 (words m 64)) := hide (by rw [← hw5]; exact HW4.out)
                          have HS5 : Hid (RowW w5 w.heap.size 68 v.list) := hide (by rw [← hw5]; exact HS4.out)
                          have HK5 : Hid (RowW w5 (w.heap.size + 1) 69 keysL) := hide (by rw [← hw5]; exact HK4.out)
                          have HB5 : Hid (Below w.heap.size w w5) := hide (by rw [← hw5]; exact below_drewN HB4.out _)
                          clear v0 v1 v2 v3 v4 v5 v6 v7 g0 g1 g2 g3 g4 g5 g6 g7 hw5 HV4 HW4 HS4 HK4 HB4
                          obtain ⟨v0, g0⟩ := HV5.out.cells (s := 0) (x := ua) rfl
                          obtain ⟨v1, g1⟩ := HV5.out.cells (s := 1) (x := ub) rfl
                          obtain ⟨v2, g2⟩ := HV5.out.cells (s := 2) (x := uc) rfl
                          obtain ⟨v3, g3⟩ := HV5.out.cells (s := 3) (x := ud) rfl
                          obtain ⟨v4, g4⟩ := HV5.out.cells (s := 4) (x := ue) rfl
                          obtain ⟨v5, g5⟩ := HV5.out.cells (s := 5) (x := uf) rfl
                          obtain ⟨v6, g6⟩ := HV5.out.cells (s := 6) (x := ug) rfl
                          obtain ⟨v7, g7⟩ := HV5.out.cells (s := 7) (x := uh) rfl
                          go_wp2_with fail
                          go_quiet (first | (go_at_call 44; (with_reducible refine Calls.quiet_of (turnQ_2 ua r2 HR2.out _))) | (go_at_call 44; (with_reducible refine Calls.quiet_of (turnQ_13 ua r13 HR13.out _))) | (go_at_call 44; (with_reducible refine Calls.quiet_of (turnQ_22 ua r22 HR22.out _))))
                          obtain ⟨w6, hw6⟩ : ∃ z, w5.drewN nq = z := ⟨_, rfl⟩
                          rw [hw6]
                          replace ck := (show w6.cell? ⟨w.heap.size + 1, j, none⟩ = w5.cell? ⟨w.heap.size + 1, j, none⟩ by rw [← hw6]; rfl).trans ck
                          replace cw := (show w6.cell? ⟨WB, j, none⟩ = w5.cell? ⟨WB, j, none⟩ by rw [← hw6]; rfl).trans cw
                          have HV6 : Hid (RowW w6 VB 68 (V8.mk ua ub uc ud ue uf ug uh).list) := hide (by rw [← hw6]; exact HV5.out)
                          have HW6 : Hid (RowW w6 WB 69 (words m 64)) := hide (by rw [← hw6]; exact HW5.out)
                          have HS6 : Hid (RowW w6 w.heap.size 68 v.list) := hide (by rw [← hw6]; exact HS5.out)
                          have HK6 : Hid (RowW w6 (w.heap.size + 1) 69 keysL) := hide (by rw [← hw6]; exact HK5.out)
                          have HB6 : Hid (Below w.heap.size w w6) := hide (by rw [← hw6]; exact below_drewN HB5.out _)
                          clear v0 v1 v2 v3 v4 v5 v6 v7 g0 g1 g2 g3 g4 g5 g6 g7 hw6 HV5 HW5 HS5 HK5 HB5
                          obtain ⟨v0, g0⟩ := HV6.out.cells (s := 0) (x := ua) rfl
                          obtain ⟨v1, g1⟩ := HV6.out.cells (s := 1) (x := ub) rfl
                          obtain ⟨v2, g2⟩ := HV6.out.cells (s := 2) (x := uc) rfl
                          obtain ⟨v3, g3⟩ := HV6.out.cells (s := 3) (x := ud) rfl
                          obtain ⟨v4, g4⟩ := HV6.out.cells (s := 4) (x := ue) rfl
                          obtain ⟨v5, g5⟩ := HV6.out.cells (s := 5) (x := uf) rfl
                          obtain ⟨v6, g6⟩ := HV6.out.cells (s := 6) (x := ug) rfl
                          obtain ⟨v7, g7⟩ := HV6.out.cells (s := 7) (x := uh) rfl
                          clear ck cw v0 v1 v2 v3 v4 v5 v6 v7 g0 g1 g2 g3 g4 g5 g6 g7 f_e1 f_ne f_ne2 f_e2 f_ch f_m1 f_m2 f_m3 f_m4 f_mj f_x1 f_x2 f_t1 f_t2 f_t3 f_X f_y1 f_y2 f_Y
                          have HVS : Hid (RowW w6 VB 68 (shL ⟨ua, ub, uc, ud, ue, uf, ug, uh⟩ 7)) := HV6
                          clear HV6
                          go_wp2_with fail
                          go_loopw [21] (fun iv wx => ∃ i : Nat, i ≤ 7 ∧ iv = .int .i64 (i : Int) ∧ Hid (RowW wx VB 68 (shL ⟨ua, ub, uc, ud, ue, uf, ug, uh⟩ i)) ∧ Hid (RowW wx WB 69 (words m 64)) ∧ Hid (RowW wx w.heap.size 68 v.list) ∧ Hid (RowW wx (w.heap.size + 1) 69 keysL) ∧ Hid (Below w.heap.size w wx)) (fun iv _ => (intOf iv).toNat)
                          case atStart => exact ⟨7, by omega, rfl, HVS, HW6, HS6, HK6, HB6⟩
                          case round =>
                            clear HVS HW6 HS6 HK6 HB6
                            obtain ⟨i, hi, rfl, HV, HW, HS, HK, HB⟩ := hrel
                            by_cases hi0 : 0 < i
                            · have h3 : (0 : Int) < (i : Int) := by omega
                              obtain ⟨k, rfl⟩ : ∃ k, i = k + 1 := ⟨i - 1, by omega⟩
                              obtain ⟨x, hx, hxs, y, hy⟩ := shL_step ⟨ua, ub, uc, ud, ue, uf, ug, uh⟩ k (by omega)
                              obtain ⟨c1, _⟩ := HV.out.cells hx
                              obtain ⟨c2, g2⟩ := HV.out.cells hy
                              obtain ⟨p, hp⟩ : ∃ p, k + 1 = p := ⟨_, rfl⟩
                              have HVN : Hid (RowW (wr.setCell ⟨VB, p, none⟩ (.int .u32 ((x.toNat : Nat) : Int))) VB 68 (shL ⟨ua, ub, uc, ud, ue, uf, ug, uh⟩ k)) := hide (by
                                have h := HV.out.set (k + 1) x
                                rw [hxs, hp] at h
                                exact h)
                              rw [hp] at c2 g2 h3 ⊢
                              have HWN : Hid (RowW (wr.setCell ⟨VB, p, none⟩ (.int .u32 ((x.toNat : Nat) : Int))) WB 69 (words m 64)) := hide (HW.out.other (p := ⟨VB, p, none⟩) (by show WB ≠ VB; omega) _)
                              have HSN : Hid (RowW (wr.setCell ⟨VB, p, none⟩ (.int .u32 ((x.toNat : Nat) : Int))) w.heap.size 68 v.list) := hide (HS.out.other (p := ⟨VB, p, none⟩) (by show w.heap.size ≠ VB; omega) _)
                              have HKN : Hid (RowW (wr.setCell ⟨VB, p, none⟩ (.int .u32 ((x.toNat : Nat) : Int))) (w.heap.size + 1) 69 keysL) := hide (HK.out.other (p := ⟨VB, p, none⟩) (by show w.heap.size + 1 ≠ VB; omega) _)
                              have HBN := hide (HB.out.setCell (p := ⟨VB, p, none⟩) (by show w.heap.size ≤ VB; omega) (.int .u32 ((x.toNat : Nat) : Int)))
                              have wp : IntKind.i64.wrap ((p : Int) - 1) = (k : Int) := by rw [IntWalk.i64_in _ (by omega)]; omega
                              have k0 : (0 : Int) ≤ (k : Int) := by omega
                              have k1 : (k : Int) < 8 := by omega
                              have p0 : (0 : Int) ≤ (p : Int) := by omega
                              have p1 : (p : Int) < 8 := by omega
                              have HP := hide hp
                              clear hx hxs hy hp
                              go_wp2_with fail
                              go_roundw
                              case rel => exact ⟨k, by have := HP.out; omega, by trivial, HVN, HWN, HSN, HKN, HBN⟩
                              case measure => have := HP.out; simp [intOf]; omega
                            · have h3 : ¬ (0 : Int) < (i : Int) := by omega
                              have HV1 : Hid (RowW wr VB 68 [ua, ua, ub, uc, ud, ue, uf, ug]) := hide (by have h := HV.out; rw [show i = 0 by omega] at h; exact h)
                              obtain ⟨v4, g4⟩ := HV1.out.cells (s := 4) (x := ud) rfl
                              obtain ⟨v0, g0⟩ := HV1.out.cells (s := 0) (x := ua) rfl
                              obtain ⟨i4, hi4⟩ : ∃ z : Int, (i : Int) = z := ⟨_, rfl⟩
                              rw [hi4] at h3 ⊢
                              clear hi4 HV
                              have HVN : Hid (RowW ((wr.setCell ⟨VB, 4, none⟩ (.int .u32 ((DX.toNat : Nat) : Int))).setCell ⟨VB, 0, none⟩ (.int .u32 ((XY.toNat : Nat) : Int))) VB 68 (V8.mk XY ua ub uc DX ue uf ug).list) := hide ((HV1.out.set 4 DX).set 0 XY)
                              have HWN : Hid (RowW ((wr.setCell ⟨VB, 4, none⟩ (.int .u32 ((DX.toNat : Nat) : Int))).setCell ⟨VB, 0, none⟩ (.int .u32 ((XY.toNat : Nat) : Int))) WB 69 (words m 64)) := hide ((HW.out.other (p := ⟨VB, 4, none⟩) (by show WB ≠ VB; omega) _).other (p := ⟨VB, 0, none⟩) (by show WB ≠ VB; omega) _)
                              have HSN : Hid (RowW ((wr.setCell ⟨VB, 4, none⟩ (.int .u32 ((DX.toNat : Nat) : Int))).setCell ⟨VB, 0, none⟩ (.int .u32 ((XY.toNat : Nat) : Int))) w.heap.size 68 v.list) := hide ((HS.out.other (p := ⟨VB, 4, none⟩) (by show w.heap.size ≠ VB; omega) _).other (p := ⟨VB, 0, none⟩) (by show w.heap.size ≠ VB; omega) _)
                              have HKN : Hid (RowW ((wr.setCell ⟨VB, 4, none⟩ (.int .u32 ((DX.toNat : Nat) : Int))).setCell ⟨VB, 0, none⟩ (.int .u32 ((XY.toNat : Nat) : Int))) (w.heap.size + 1) 69 keysL) := hide ((HK.out.other (p := ⟨VB, 4, none⟩) (by show w.heap.size + 1 ≠ VB; omega) _).other (p := ⟨VB, 0, none⟩) (by show w.heap.size + 1 ≠ VB; omega) _)
                              have HBN := hide ((HB.out.setCell (p := ⟨VB, 4, none⟩) (by show w.heap.size ≤ VB; omega) (.int .u32 ((DX.toNat : Nat) : Int))).setCell (p := ⟨VB, 0, none⟩) (by show w.heap.size ≤ VB; omega) (.int .u32 ((XY.toNat : Nat) : Int)))
                              clear HV1 HW HS HK HB
                              go_wp2_with fail
                              go_roundw
                              case rel => exact ⟨j + 1, ⟨XY, ua, ub, uc, DX, ue, uf, ug⟩, by omega, by go_num, hide HNX2.out.symm, HVN, HWN, HSN, HKN, HBN⟩
                              case measure => simp [intOf]; omega
                        · have hng6 : ¬ (j : Int) < 64 := by omega
                          have HUE : Hid (block8 v m = v.add u) := hide (by have h := HU.out; rw [show j = 64 by omega] at h; rw [h]; rfl)
                          obtain ⟨i5, hi5⟩ : ∃ z : Int, (j : Int) = z := ⟨_, rfl⟩
                          rw [hi5] at hng6 ⊢
                          have HM0 : Hid (RowW wr w.heap.size 68 (mixL v.list u.list 0)) := HS
                          clear hi5 HU HW HS
                          go_wp2_with fail
                          go_loopw [217] (fun iv wx => ∃ i : Nat, i ≤ 8 ∧ iv = .int .i64 (i : Int) ∧ Hid (RowW wx w.heap.size 68 (mixL v.list u.list i)) ∧ Hid (RowW wx VB 68 u.list) ∧ Hid (RowW wx (w.heap.size + 1) 69 keysL) ∧ Hid (Below w.heap.size w wx)) (fun iv _ => 8 - (intOf iv).toNat)
                          case atStart => exact ⟨0, by omega, rfl, HM0, HV, HK, HB⟩
                          case round =>
                            clear HM0 HV HK HB
                            obtain ⟨i, hi, rfl, HX, HV, HK, HB⟩ := hrel
                            by_cases hi8 : i < 8
                            · have h2 : (i : Int) < 8 := by omega
                              have n0 : (0 : Int) ≤ (i : Int) := by omega
                              obtain ⟨x, hx⟩ : ∃ x, v.list[i]? = some x := ⟨_, List.getElem?_eq_getElem (by rw [V8.list_len]; exact hi8)⟩
                              obtain ⟨y, hy⟩ : ∃ y, u.list[i]? = some y := ⟨_, List.getElem?_eq_getElem (by rw [V8.list_len]; exact hi8)⟩
                              obtain ⟨cx, gx⟩ := HX.out.cells (mixL_at (a := v.list) (b := u.list) rfl hx)
                              obtain ⟨cy, gy⟩ := HV.out.cells hy
                              have f1 := wi_add x y
                              obtain ⟨z, dz⟩ : ∃ z, x + y = z := ⟨_, rfl⟩
                              rw [dz] at f1
                              have HXN : Hid (RowW (wr.setCell ⟨w.heap.size, i, none⟩ (.int .u32 ((z.toNat : Nat) : Int))) w.heap.size 68 (mixL v.list u.list (i + 1))) := hide (by
                                have h := HX.out.set i z
                                rw [← dz, mixL_set (a := v.list) (b := u.list) rfl hx hy] at h
                                rw [← dz]; exact h)
                              have HVN : Hid (RowW (wr.setCell ⟨w.heap.size, i, none⟩ (.int .u32 ((z.toNat : Nat) : Int))) VB 68 u.list) := hide (HV.out.other (p := ⟨w.heap.size, i, none⟩) (by show VB ≠ w.heap.size; omega) _)
                              have HKN : Hid (RowW (wr.setCell ⟨w.heap.size, i, none⟩ (.int .u32 ((z.toNat : Nat) : Int))) (w.heap.size + 1) 69 keysL) := hide (HK.out.other (p := ⟨w.heap.size, i, none⟩) (by show w.heap.size + 1 ≠ w.heap.size; omega) _)
                              have HBN := hide (HB.out.setCell (p := ⟨w.heap.size, i, none⟩) (Nat.le_refl _) (.int .u32 ((z.toNat : Nat) : Int)))
                              clear hx hy dz gy
                              go_wp2_with fail
                              go_region
                              all_goals
                                go_wp2_with fail
                                go_roundw
                                case rel => exact ⟨i + 1, by omega, by go_num, hide HXN.out.drew, hide HVN.out.drew, hide HKN.out.drew, hide HBN.out.drew⟩
                                case measure => simp [intOf]; omega
                            · have hng7 : ¬ (i : Int) < 8 := by omega
                              have HF : Hid (RowW wr w.heap.size 68 (blocks8 start8 (b + 1) M.data.toList).list) := hide (by rw [HNX.out]; have h := HX.out; rw [show i = 8 by omega, mixL_end, ← HUE.out] at h; exact h)
                              go_wp2_with fail
                              go_roundw
                              case rel => exact ⟨b + 1, by omega, by have h := HAT.out; congr 1; omega, HF, HK, HB⟩
                              case measure => have h := HNB.out; simp [intOf]; omega
                · have hbe : b = nb := by omega
                  have hng8 : ¬ ((64 * b : Nat) : Int) < (M.size : Int) := by omega
                  have HS5 : Hid (RowW wr w.heap.size 68 (dig8 s.data.toList).list) := hide (by rw [← HD.out, ← hbe]; exact HS.out)
                  have HSHA : Hid (sha8 s.data.toList = (dig8 s.data.toList).list.flatMap fun x => hexN 8 x.toNat) := hide rfl
                  obtain ⟨V, hV⟩ : ∃ V, dig8 s.data.toList = V := ⟨_, rfl⟩
                  rw [hV] at HS5 HSHA
                  obtain ⟨i6, hi6⟩ : ∃ z : Int, ((64 * b : Nat) : Int) = z := ⟨_, rfl⟩
                  rw [hi6] at hng8 ⊢
                  clear HD hV hi6 HS HK hMn hbe
                  go_wp2_with fail
                  go_loopw [23, 229] (fun ov iv wx => ∃ (j : Nat) (o : ByteArray), j ≤ 8 ∧ ov = .string o ∧ iv = .int .i64 (j : Int) ∧ Hid (o.data.toList = (V.list.take j).flatMap fun x => hexN 8 x.toNat) ∧ o.size ≤ 8 * j ∧ wx = wr) (fun _ iv _ => 8 - (intOf iv).toNat)
                  case atStart => exact ⟨0, ⟨#[]⟩, by omega, rfl, rfl, hide rfl, by decide, rfl⟩
                  case round =>
                    obtain ⟨j, o, hj, rfl, rfl, HO, hos, rfl⟩ := hrel
                    by_cases hj8 : j < 8
                    · have h2 : (j : Int) < 8 := by omega
                      have n0 : (0 : Int) ≤ (j : Int) := by omega
                      obtain ⟨x, hx⟩ : ∃ x, V.list[j]? = some x := ⟨_, List.getElem?_eq_getElem (by rw [V8.list_len]; exact hj8)⟩
                      obtain ⟨cx, gx⟩ := HS5.out.cells hx
                      have hxl := wi_lt x
                      have hcr := fun W => hexR_any x.toNat 8 W hxl (by omega)
                      obtain ⟨q, hq⟩ : ∃ q, mkB (hexN 8 x.toNat) = q := ⟨_, rfl⟩
                      have hqs : q.size = 8 := by rw [← hq, mkB_size, hexN_len]
                      have hcat : ¬ (9223372036854775807 < o.size + q.size) := by omega
                      obtain ⟨o2, ho2⟩ : ∃ z, o ++ q = z := ⟨_, rfl⟩
                      have HO2 : Hid (o2.data.toList = (V.list.take (j + 1)).flatMap fun x => hexN 8 x.toNat) := hide (by
                        have hjl := (List.getElem?_eq_some_iff.1 hx).1
                        have hje := (List.getElem?_eq_some_iff.1 hx).2
                        rw [← ho2, ByteArray.data_append, Array.toList_append, HO.out, List.take_succ_eq_append_getElem hjl, List.flatMap_append, hje, ← hq]
                        simp [mkB])
                      have hos2 : o2.size ≤ 8 * (j + 1) := by rw [← ho2, ByteArray.size_append]; omega
                      rw [hq] at hcr
                      have HCR := hide hcr
                      clear hx hq hcr hxl gx
                      go_wp2_with fail
                      refine (HCR.out _).mono ?_
                      rintro e w6 ⟨rfl, rfl⟩
                      go_wp2_with fail
                      go_roundw
                      case rel => exact ⟨j + 1, o2, by omega, by trivial, by go_num, HO2, hos2, by trivial⟩
                      case measure => simp [intOf]; omega
                    · have hng9 : ¬ (j : Int) < 8 := by omega
                      have HF : Hid (mkB (sha8 s.data.toList) = o) := hide (by
                        rw [HSHA.out]
                        have h := HO.out
                        rw [show j = 8 by omega, show V.list.take 8 = V.list from rfl] at h
                        rw [← h, mkB_list])
                      go_wp2_with fail
                      go_ret
                      exact ⟨by rw [HF.out]; rfl, HB.out⟩
            · obtain ⟨i, rfl⟩ : ∃ i, k = i + 1 := ⟨k - 1, by omega⟩
              have hki : ((i + 1 : Nat) : Int) - 1 = (i : Int) := by omega
              rw [hki]
              have hts := HTS.out
              have hL : IntKind.i64.wrap (8 * (s.size : Int)) = 8 * (s.size : Int) := IntWalk.i64_in _ (by omega)
              obtain ⟨c, hc⟩ : ∃ c, UInt8.ofNat (8 * s.size / 256 ^ i) = c := ⟨_, rfl⟩
              have hcn : c.toNat = (8 * s.size / 256 ^ i) % 256 := by rw [← hc, UInt8.toNat_ofNat']
              have HMN : ∀ M2 : ByteArray, M2 = M ++ mkB [c] → M2.data.toList = t.data.toList ++ be8 (8 * s.size) (8 - i) := fun M2 h => by
                rw [h, ByteArray.data_append, Array.toList_append, HM.out, show 8 - i = (8 - (i + 1)) + 1 by omega, be8, List.append_assoc]
                congr 2
                show [c] = _
                rw [← hc, show 7 - (8 - (i + 1)) = i by omega]
              have hcv := one_byte wr c _ rfl
              have hcat : ¬ (9223372036854775807 < M.size + (mkB [c]).size) := by
                have h2 : (mkB [c]).size = 1 := rfl
                omega
              obtain ⟨M2, hM2⟩ : ∃ z, M ++ mkB [c] = z := ⟨_, rfl⟩
              have HMN2 := hide (HMN M2 hM2.symm)
              have hb1 := (Below.refl wr.heap.size wr).alloc (Nat.le_refl _) (.cells #[.int .u8 (c.toNat : Int)] 5)
              have HS2 := hide (HS.out.below hb1)
              have HK2 := hide (HK.out.below hb1)
              have HB2 := hide (HB.out.trans (hb1.mono HB.out.size))
              have HCN := hide hcn
              clear hc hb1 HMN hts hMs hki hcn HS HK HB HM
              rcases (show i = 0 ∨ i = 1 ∨ i = 2 ∨ i = 3 ∨ i = 4 ∨ i = 5 ∨ i = 6 ∨ i = 7 by omega) with rfl | rfl | rfl | rfl | rfl | rfl | rfl | rfl
              · have hcn := HCN.out
                have w1 : IntKind.u8.wrap (8 * (s.size : Int)) = (c.toNat : Int) := by rw [IntKind.wrap_u8']; omega
                clear hcn
                go_wp2_with fail
                go_roundw
                case rel => exact ⟨0, M2, by omega, by trivial, by go_num, HMN2, HS2, HK2, HB2⟩
                case measure => simp [intOf]
              · have hcn := HCN.out
                have w1 : IntKind.u8.wrap (8 * (s.size : Int) / 256) = (c.toNat : Int) := by rw [IntKind.wrap_u8']; omega
                clear hcn
                go_wp2_with fail
                go_roundw
                case rel => exact ⟨1, M2, by omega, by trivial, by go_num, HMN2, HS2, HK2, HB2⟩
                case measure => simp [intOf]
              · have hcn := HCN.out
                have w1 : IntKind.u8.wrap (8 * (s.size : Int) / 65536) = (c.toNat : Int) := by rw [IntKind.wrap_u8']; omega
                clear hcn
                go_wp2_with fail
                go_roundw
                case rel => exact ⟨2, M2, by omega, by trivial, by go_num, HMN2, HS2, HK2, HB2⟩
                case measure => simp [intOf]
              · have hcn := HCN.out
                have w1 : IntKind.u8.wrap (8 * (s.size : Int) / 16777216) = (c.toNat : Int) := by rw [IntKind.wrap_u8']; omega
                clear hcn
                go_wp2_with fail
                go_roundw
                case rel => exact ⟨3, M2, by omega, by trivial, by go_num, HMN2, HS2, HK2, HB2⟩
                case measure => simp [intOf]
              · have hcn := HCN.out
                have w1 : IntKind.u8.wrap (8 * (s.size : Int) / 4294967296) = (c.toNat : Int) := by rw [IntKind.wrap_u8']; omega
                clear hcn
                go_wp2_with fail
                go_roundw
                case rel => exact ⟨4, M2, by omega, by trivial, by go_num, HMN2, HS2, HK2, HB2⟩
                case measure => simp [intOf]
              · have hcn := HCN.out
                have w1 : IntKind.u8.wrap (8 * (s.size : Int) / 1099511627776) = (c.toNat : Int) := by rw [IntKind.wrap_u8']; omega
                clear hcn
                go_wp2_with fail
                go_roundw
                case rel => exact ⟨5, M2, by omega, by trivial, by go_num, HMN2, HS2, HK2, HB2⟩
                case measure => simp [intOf]
              · have hcn := HCN.out
                have w1 : IntKind.u8.wrap (8 * (s.size : Int) / 281474976710656) = (c.toNat : Int) := by rw [IntKind.wrap_u8']; omega
                clear hcn
                go_wp2_with fail
                go_roundw
                case rel => exact ⟨6, M2, by omega, by trivial, by go_num, HMN2, HS2, HK2, HB2⟩
                case measure => simp [intOf]
              · have hcn := HCN.out
                have w1 : IntKind.u8.wrap (8 * (s.size : Int) / 72057594037927936) = (c.toNat : Int) := by rw [IntKind.wrap_u8']; omega
                clear hcn
                go_wp2_with fail
                go_roundw
                case rel => exact ⟨7, M2, by omega, by trivial, by go_num, HMN2, HS2, HK2, HB2⟩
                case measure => simp [intOf]
end Go.Proofs.YtinpgnekjebipaaDoor
