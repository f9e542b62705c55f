/- strings.Join. -/
import Derived.Test.YtkikbejpgfhfoaaGreatDoorJoinG
set_option linter.unusedVariables false
set_option linter.unusedSimpArgs false
namespace Go.Proofs.YtkikbejpgfhfoaaGreatDoor
open Go.RowKit Go.Pw
set_option maxHeartbeats 2000000 in
set_option maxRecDepth 100000 in
theorem join_any (v : Value) (l : List ByteArray) (sep : ByteArray) (w : World) (h : Strs w v l) (hsum : sumB l ≤ 1000000000000) (hsep : sep.size ≤ 1000000) (hn : l.length ≤ 1000000) :
    Calls Tryz.prog 40 #[v, .string sep] w fun e w' => e = .returned (.string (jnB sep l)) ∧ Below w.heap.size w w' := by
  obtain ⟨⟨_, A, cap, rfl, hcap, hmax, hx⟩, hsz⟩ := h
  unfold maxLen at hmax
  have HX := hide hx
  clear hx hsz
  by_cases h0 : l.length = 0
  · obtain rfl : l = [] := List.eq_nil_of_length_eq_zero h0
    clear HX hcap
    go_enter Tryz.func40, Tryz.ntmps40
    go_wp2_with fail
    go_ret
    exact ⟨rfl, Below.refl _ _⟩
  · by_cases h1 : l.length = 1
    · obtain ⟨x, rfl⟩ := List.length_eq_one_iff.1 h1
      obtain ⟨bb, o, rfl, hbb, hj⟩ := HX.out (by simp)
      have hc : w.cell? ⟨bb, o, none⟩ = some (.string x) := hj 0 _ rfl
      have HN : Hid (jnB sep [x] = x) := hide (by
        unfold jnB
        rw [show [x].length = 1 from rfl, jnP_one sep [x] (by simp)]
        exact mkB_list x)
      clear HX hcap hj h0 h1
      go_enter Tryz.func40, Tryz.ntmps40
      go_wp2_with fail
      go_ret
      exact ⟨by rw [HN.out]; rfl, Below.refl _ _⟩
    · obtain ⟨bb, o, rfl, hbb, hj⟩ := HX.out (by omega)
      have HJ := hide hj
      have hM : sep.size * (l.length - 1) ≤ 1000000 * 1000000 := Nat.mul_le_mul hsep (by omega)
      have hdv : ¬ (9223372036854775807 / ((l.length : Int) - 1) ≤ (sep.size : Int)) := by
        have e : (9223372036854775807 : Int) / ((l.length - 1 : Nat) : Int) = ((9223372036854775807 / (l.length - 1) : Nat) : Int) := IntWalk.up_div (x := 9223372036854775807) rfl rfl
        rw [show (l.length : Int) - 1 = ((l.length - 1 : Nat) : Int) by omega, e]
        have h3 : sep.size + 1 ≤ 9223372036854775807 / (l.length - 1) := by
          rw [Nat.le_div_iff_mul_le (by omega), Nat.add_mul]
          omega
        omega
      have hprod : wrap64 ((sep.size : Int) * ((l.length : Int) - 1)) = ((sep.size * (l.length - 1) : Nat) : Int) := by
        have e : (sep.size : Int) * ((l.length - 1 : Nat) : Int) = ((sep.size * (l.length - 1) : Nat) : Int) := IntWalk.up_mul rfl rfl
        rw [show (l.length : Int) - 1 = ((l.length - 1 : Nat) : Int) by omega, e]
        exact IntWalk.wrap64_in _ ⟨by omega, by omega⟩
      have hne0 : ((l.length : Int) == 0) = false := beq_eq_false_iff_ne.2 (by omega)
      have hne1 : ((l.length : Int) == 1) = false := beq_eq_false_iff_ne.2 (by omega)
      have HP := hide (jnP_len sep l)
      obtain ⟨M, hMM⟩ : ∃ M, sep.size * (l.length - 1) = M := ⟨_, rfl⟩
      have hM0 : sep.size = 0 → M = 0 := fun h => by rw [← hMM, h, Nat.zero_mul]
      rw [hMM] at hM hprod
      have HM := hide hMM
      have HB0 := hide (show Bld w.heap.size w.heap.size [] (w.alloc (.cells #[.pointer none, .slice none 0 0] 85)) from Lib.fresh_isBuilder _ _ w)
      clear HX hj hMM
      go_enter Tryz.func40, Tryz.ntmps40
      go_wp2_with fail
      all_goals
        go_loop [5, 41] (fun n i => ∃ k : Nat, k ≤ l.length ∧ i = .int .i64 k ∧ n = .int .i64 ((M + sumB (l.take k) : Nat) : Int)) (fun _ i => l.length - (intOf i).toNat)
        case atStart => exact ⟨0, Nat.zero_le _, rfl, by first | (simp [sumB]; done) | (have := hM0 (by omega); simp [sumB, this])⟩
        case round =>
          obtain ⟨k, hk, rfl, rfl⟩ := hrel
          by_cases hkn : k < l.length
          · have hc := HJ.out k (.string l[k]) (by simp [hkn])
            have e1 := sumB_snoc l k hkn
            have e2 := sumB_le l (k + 1)
            obtain ⟨S1, hS1⟩ : ∃ S, sumB (l.take (k + 1)) = S := ⟨_, rfl⟩
            obtain ⟨S0, hS0⟩ : ∃ S, sumB (l.take k) = S := ⟨_, rfl⟩
            obtain ⟨x, hx⟩ : ∃ x, l[k] = x := ⟨_, rfl⟩
            rw [hx] at hc
            rw [hS1, hS0, hx] at e1
            rw [hS1] at e2
            rw [hS0]
            have HS1 := hide hS1
            clear hS1 hS0 hx
            go_wp2_with fail
            exact ⟨⟨k + 1, by omega, by go_num, by rw [HS1.out]; refine congrArg _ ?_; omega⟩, by simp [intOf]; omega⟩
          · obtain rfl : k = l.length := by omega
            rw [List.take_length]
            have HP2 := HP.out l.length (Nat.le_refl _)
            rw [List.take_length, HM.out] at HP2
            obtain ⟨T, hT⟩ : ∃ T, sumB l = T := ⟨_, rfl⟩
            rw [hT] at hsum HP2 ⊢
            have HT := hide hT
            have HL := hide HP2
            clear hT HP2
            have hd : ¬ ((l.length : Int) < (l.length : Int)) := by omega
            go_wp2_with fail
            rw [show ((M : Int) + (T : Int)) = ((M + T : Nat) : Int) by omega]
            refine (bldGrow_any w.heap.size w.heap.size (M + T) _ (Nat.le_refl _) (heap_alloc_new w _) (by simp) (by omega)).mono ?_
            rintro e w1 ⟨rfl, h1', hb1⟩
            have HB1 := hide (((Below.refl w.heap.size w).alloc (Nat.le_refl _) _).trans hb1 : Below w.heap.size w w1)
            have H1 := hide h1'
            clear h1' hb1
            have q0 : l[0]? = some (l[0]'(by omega)) := List.getElem?_eq_getElem _
            have hc0 : w1.cell? ⟨bb, o, none⟩ = some (.string (l[0]'(by omega))) := (HB1.out.cell (p := ⟨bb, o, none⟩) hbb).trans (HJ.out 0 _ (by rw [List.getElem?_map, q0]; rfl))
            have HLE : Hid (∀ k, k ≤ l.length → (jnP sep l k).length ≤ M + T) := hide (fun k hk => by
              rw [HP.out k hk, ← HM.out, ← HT.out]
              have := sumB_le l k
              have : sep.size * (k - 1) ≤ sep.size * (l.length - 1) := Nat.mul_le_mul (Nat.le_refl _) (by omega)
              omega)
            have h10 := HLE.out 1 (by omega)
            have HJ1 := hide (jnP_one sep l (by omega))
            obtain ⟨x0, hx0⟩ : ∃ x, l[0]'(by omega) = x := ⟨_, rfl⟩
            rw [hx0] at hc0 HJ1
            rw [HJ1.out, len_size] at h10
            have hz1 := HB1.out.size
            clear q0 hx0
            go_wp2_with fail
            refine (writeString_any _ _ _ _ _ H1.out (by simp; omega) hz1).mono ?_
            rintro e w2 ⟨rfl, hb2, hbe2⟩
            rw [List.nil_append, ← HJ1.out] at hb2
            have HB2 := hide (HB1.out.trans hbe2)
            have H2 := hide hb2
            clear hb2 hbe2 hc0
            have hl1 : (l.length - 1 : Nat) + 1 = l.length := by omega
            go_wp2_with fail
            go_loopw [65] (fun i wr => ∃ k : Nat, k + 1 ≤ l.length ∧ i = .int .i64 k ∧ Hid (Bld w.heap.size w.heap.size (jnP sep l (k + 1)) wr) ∧ Hid (Below w.heap.size w wr)) (fun i _ => l.length - (intOf i).toNat)
            case atStart => exact ⟨0, by omega, rfl, H2, HB2⟩
            case round =>
              obtain ⟨k, hk', rfl, HBk, HBw⟩ := hrel
              by_cases hkr : k + 1 < l.length
              · have hcy : wr.cell? ⟨bb, o + 1 + k, none⟩ = some (.string l[k + 1]) := (HBw.out.cell (p := ⟨bb, o + 1 + k, none⟩) hbb).trans (by rw [show o + 1 + k = o + (k + 1) by omega]; exact HJ.out (k + 1) _ (by simp [hkr]))
                have hl2 := HLE.out (k + 2) (by omega)
                have e1 := jnP_step sep l (k + 1) hkr (by omega)
                have e2 := congrArg List.length e1
                rw [List.length_append, List.length_append, len_size, len_size] at e2
                rw [show k + 1 + 1 = k + 2 from rfl] at e2
                have HN := hide e1
                obtain ⟨y, hy⟩ : ∃ y, l[k + 1] = y := ⟨_, rfl⟩
                rw [hy] at hcy HN e2
                have hzw := HBw.out.size
                clear e1 hy
                have hd2 : (k : Int) < (l.length : Int) - 1 := by omega
                go_wp2_with fail
                refine (writeString_any _ _ _ _ _ HBk.out (by omega) hzw).mono ?_
                rintro e w3 ⟨rfl, hb3, hbe3⟩
                have HB3 := hide (HBw.out.trans hbe3)
                have hz3 := HB3.out.size
                clear hbe3 hcy
                go_wp2_with fail
                refine (writeString_any _ _ _ _ _ hb3 (by rw [List.length_append, len_size]; omega) hz3).mono ?_
                rintro e w4 ⟨rfl, hb4, hbe4⟩
                rw [← HN.out] at hb4
                have HB4 := hide (HB3.out.trans hbe4)
                have H4 := hide hb4
                clear hb3 hb4 hbe4
                go_wp2_with fail
                go_roundw
                case rel => exact ⟨k + 1, by omega, by go_num, H4, HB4⟩
                case measure => simp [intOf]; omega
              · have hke : k + 1 = l.length := by omega
                have HK := hide hke
                rw [hke] at HBk
                have hzw := HBw.out.size
                have hd2 : ¬ ((k : Int) < (l.length : Int) - 1) := by omega
                clear hke
                go_wp2_with fail
                refine (bldString_any _ _ _ _ HBk.out hzw).mono ?_
                rintro e w5 ⟨rfl, hb5⟩
                have HB5 := hide (HBw.out.trans hb5)
                clear hb5
                go_wp2_with fail
                go_ret
                exact ⟨rfl, HB5.out⟩
end Go.Proofs.YtkikbejpgfhfoaaGreatDoor
