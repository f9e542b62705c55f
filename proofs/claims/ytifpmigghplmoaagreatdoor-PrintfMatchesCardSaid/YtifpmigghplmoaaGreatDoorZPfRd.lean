/- Printf, the reference: escape. -/
import Derived.Test.YtifpmigghplmoaaGreatDoorZPrL
import Derived.Test.YtifpmigghplmoaaGreatDoorZPrB
set_option linter.unusedVariables false
set_option linter.unusedSimpArgs false
namespace Go.Pw
open Go.RowKit
/-- what the reference's escape answers of what stands behind the backslash -/
def escQ (t : List UInt8) : UInt8 × Nat := match escP t with | some (x, k) => (x, k + 1) | none => (0, 0)
end Go.Pw
namespace Go.Proofs.YtifpmigghplmoaaGreatDoor
open Go.RowKit Go.Pw Go.Shelf
theorem from_fin : ∀ k : Fin 10, ((⟨#[92, 34, 39, 110, 116, 114, 97, 98, 102, 118]⟩ : ByteArray)[k.val]'(by exact k.isLt)) = escFrom.getD k.val 0 := by decide +kernel
theorem esc_hit {c : UInt8} {k : Nat} (hk : k < 10) (h : c = escFrom.getD k 0) (r : List UInt8) : escQ (c :: r) = (escTo.getD k 0, 2) := by
  have hm : c ∈ escFrom := by
    rw [h]
    have : ∀ k : Fin 10, escFrom.getD k.val 0 ∈ escFrom := by decide +kernel
    exact this ⟨k, hk⟩
  have h2 := (esc_ix ⟨k, hk⟩).2
  unfold escQ
  rw [escP, if_pos hm, h]
  simp only at h2 ⊢
  rw [h2]
theorem esc_miss {c : UInt8} (h : ∀ i, i < 10 → ¬ c = escFrom.getD i 0) : c ∉ escFrom := by
  intro hm
  obtain ⟨i, hi, e⟩ := List.getElem_of_mem hm
  refine h i hi ?_
  rw [List.getD_eq_getElem?_getD, List.getElem?_eq_getElem hi]; exact e.symm
theorem escQ_oct {c : UInt8} {r : List UInt8} (h : c ∉ escFrom) {v j : Nat} (ho : octR 3 0 (c :: r) = (v, j)) (hj : 0 < j) : escQ (c :: r) = (UInt8.ofNat v, j + 1) := by
  unfold escQ
  rw [escP, if_neg h, ho, if_pos hj]
theorem escQ_x {r : List UInt8} {v j : Nat} (ho : (octR 3 0 ((120 : UInt8) :: r)).2 = 0) (hx : hexR 2 0 r = (v, j)) : escQ (120 :: r) = if 0 < j then (UInt8.ofNat v, j + 2) else (0, 0) := by
  unfold escQ
  rw [escP, if_neg (by decide), ho, if_neg (by omega), if_pos rfl, hx]
  by_cases h : 0 < j
  · rw [if_pos h, if_pos h]
  · rw [if_neg h, if_neg h]
theorem escQ_no {c : UInt8} {r : List UInt8} (h : c ∉ escFrom) (ho : (octR 3 0 (c :: r)).2 = 0) (hx : ¬ c = 120) : escQ (c :: r) = (0, 0) := by
  unfold escQ
  rw [escP, if_neg h, ho, if_neg (by omega), if_neg hx]
theorem u8_neN' {c : UInt8} (h : ¬ c = 120) : ((c.toNat : Int) == 120) = false := by
  have : c.toNat ≠ 120 := fun e => h (UInt8.toNat_inj.1 (by rw [e]; rfl))
  simp; omega
set_option maxHeartbeats 16000000 in
set_option maxRecDepth 100000 in
theorem escapeR_any (s : ByteArray) (w : World) (hs : s.size ≤ 1000000) :
    Calls Tryz.prog 39 #[.string s] w fun e w' => e = .returned (.tuple #[.int .u8 ((escQ (s.data.toList.drop 1)).1.toNat : Int), .int .i64 ((escQ (s.data.toList.drop 1)).2 : Int)]) ∧ Below w.heap.size w w' := by
  have HL := hide (len_size s)
  obtain ⟨Z, hZ⟩ : ∃ Z, escQ (s.data.toList.drop 1) = Z := ⟨_, rfl⟩
  rw [hZ]
  have HZ := hide hZ
  clear hZ
  by_cases h2 : s.size < 2
  · have g2 : (s.size : Int) < 2 := by omega
    have HV : Hid (Z = (0, 0)) := hide (by rw [← HZ.out, List.drop_of_length_le (by rw [HL.out]; omega)]; rfl)
    go_enter Tryz.func39, Tryz.ntmps39
    go_wp2_with fail
    go_ret2
    exact ⟨by rw [HV.out]; rfl, Below.refl _ _⟩
  · have g2 : ¬ (s.size : Int) < 2 := by omega
    have h1 : 1 < s.size := by omega
    have g1 : (1 : Int) < (s.size : Int) := by omega
    obtain ⟨c, hc⟩ : ∃ c, s[1]'h1 = c := ⟨_, rfl⟩
    have HDR : Hid (s.data.toList.drop 1 = c :: s.data.toList.drop 2) := hide (by
      have h3 : 1 < s.data.toList.length := by rw [HL.out]; exact h1
      rw [List.drop_eq_getElem_cons h3, ← hc]; rfl)
    have HC := hide hc
    have hcell : ∀ k, k < 10 → (w.alloc (.cells #[.int .u8 92, .int .u8 34, .int .u8 39, .int .u8 10, .int .u8 9, .int .u8 13, .int .u8 7, .int .u8 8, .int .u8 12, .int .u8 11] 5)).cell? ⟨w.heap.size, k, none⟩ = some (.int .u8 ((escTo.getD k 0).toNat : Int)) := fun k hk => by
      rw [World.cell?_alloc_new]
      match k, hk with
      | 0, _ => rfl
      | 1, _ => rfl
      | 2, _ => rfl
      | 3, _ => rfl
      | 4, _ => rfl
      | 5, _ => rfl
      | 6, _ => rfl
      | 7, _ => rfl
      | 8, _ => rfl
      | 9, _ => rfl
    have HCE := hide hcell
    have HB0 := hide ((Below.refl w.heap.size w).alloc (Nat.le_refl _) (.cells #[.int .u8 92, .int .u8 34, .int .u8 39, .int .u8 10, .int .u8 9, .int .u8 13, .int .u8 7, .int .u8 8, .int .u8 12, .int .u8 11] 5))
    clear hcell hc
    go_enter Tryz.func39, Tryz.ntmps39
    go_wp2_with fail
    go_loopw [15] (fun i wr => ∃ k : Nat, i = .int .i64 (k : Int) ∧ k ≤ 10 ∧ Hid (∀ j, j < k → ¬ c = escFrom.getD j 0) ∧ Hid (∀ j, j < 10 → wr.cell? ⟨w.heap.size, j, none⟩ = some (.int .u8 ((escTo.getD j 0).toNat : Int))) ∧ Hid (Below w.heap.size w wr)) (fun i _ => 10 - (intOf i).toNat)
    case atStart => exact ⟨0, rfl, by omega, hide (by intro j hj; omega), HCE, HB0⟩
    case round =>
      obtain ⟨k, rfl, hk, HN, HCW, HB⟩ := hrel
      by_cases hlt : k < 10
      · have d0 : (k : Int) < 10 := by omega
        have HFR := hide (from_fin ⟨k, hlt⟩)
        by_cases he : c = escFrom.getD k 0
        · have HV : Hid (Z = (escTo.getD k 0, 2)) := hide (by rw [← HZ.out, HDR.out]; exact esc_hit hlt he _)
          have hq : (((s[1]'h1).toNat : Int) == (((⟨#[92, 34, 39, 110, 116, 114, 97, 98, 102, 118]⟩ : ByteArray)[k]'hlt).toNat : Int)) = true := by
            rw [HFR.out, HC.out, he]; simp
          have hcc := HCW.out k hlt
          clear he
          go_wp2_with fail
          go_quiet (fail)
          go_wp2_with fail
          go_ret2
          exact ⟨by rw [HV.out]; rfl, by first | exact below_q HB.out | exact HB.out⟩
        · have hq : (((s[1]'h1).toNat : Int) == (((⟨#[92, 34, 39, 110, 116, 114, 97, 98, 102, 118]⟩ : ByteArray)[k]'hlt).toNat : Int)) = false := by
            rw [HFR.out, HC.out]
            have : ¬ c.toNat = (escFrom.getD k 0).toNat := fun e => he (UInt8.toNat_inj.1 e)
            rw [beq_eq_false_iff_ne]
            intro e
            exact this (by exact Int.ofNat.inj e)
          have HN2 : Hid (∀ j, j < k + 1 → ¬ c = escFrom.getD j 0) := hide (fun j hj => by
            by_cases e : j = k
            · rw [e]; exact he
            · exact HN.out j (by omega))
          clear he
          go_wp2_with fail
          go_quiet (fail)
          go_wp2_with fail
          go_roundw
          case rel => exact ⟨k + 1, by first | go_num | (simp; omega), by omega, HN2, HCW, by first | exact hide (below_q HB.out) | exact HB⟩
          case measure => simp [intOf]; omega
      · have d0 : ¬ (k : Int) < 10 := by omega
        have HM := hide (esc_miss (fun i hi => HN.out i (by omega)))
        go_wp2_with fail
        go_loopw [7, 8] (fun i v wr => ∃ (j acc : Nat), j ≤ 3 ∧ i = .int .i64 ((j : Int) + 1) ∧ v = .int .i64 (acc : Int) ∧ j + 1 ≤ s.size ∧ Hid (OcAt (s.data.toList.drop 1) j acc) ∧ Hid (Below w.heap.size w wr)) (fun i _ _ => 4 - (intOf i).toNat)
        case atStart => exact ⟨0, 0, by omega, rfl, rfl, by omega, hide (OcAt.start _), HB⟩
        case round =>
          obtain ⟨j, acc, hj, rfl, rfl, hjs, HOC, HW⟩ := hrel
          have hacc : acc < 512 := by have h1 := HOC.out.2.1; have h2 : 8 ^ j ≤ 8 ^ 3 := Nat.pow_le_pow_right (by decide) hj; omega
          have HDL : Hid ((s.data.toList.drop 1).length = s.size - 1) := hide (by rw [List.length_drop, HL.out])
          have hstop : (j = 3 ∨ (s.data.toList.drop 1).length ≤ j ∨ ∃ hb : j < (s.data.toList.drop 1).length, isOc (s.data.toList.drop 1)[j] = false) → octR 3 0 (c :: s.data.toList.drop 2) = (acc, j) := fun h => by
            rw [← HDR.out]; exact HOC.out.stop h
          have HSTOP := hide hstop
          clear hstop
          by_cases c1 : j + 1 < s.size
          · have e1 : (j : Int) + 1 < (s.size : Int) := by omega
            have HGE : Hid (∃ hb : j < (s.data.toList.drop 1).length, (s.data.toList.drop 1)[j] = s[j + 1]'c1) := hide ⟨by rw [HDL.out]; omega, by rw [List.getElem_drop]; simp only [Nat.add_comm 1 j]; rfl⟩
            by_cases c2 : j < 3
            · have e2 : (j : Int) + 1 < 4 := by omega
              by_cases ho : isOc (s[j + 1]'c1) = true
              · have hoo : 48 ≤ (s[j + 1]'c1).toNat ∧ (s[j + 1]'c1).toNat ≤ 55 := by unfold isOc at ho; simpa using ho
                have o1 : (48 : Int) ≤ ((s[j + 1]'c1).toNat : Int) := by omega
                have o2 : ((s[j + 1]'c1).toNat : Int) ≤ 55 := by omega
                have hw : IntKind.u8.wrap (((s[j + 1]'c1).toNat : Int) - 48) = ((s[j + 1]'c1).toNat : Int) - 48 := IntWalk.u8_in _ (by omega)
                have HO2 := hide (HOC.out.next c2 HGE.out.1 (by rw [HGE.out.2]; exact ho))
                have HEQ := hide HGE.out.2
                rw [HEQ.out] at HO2
                clear ho hoo
                go_wp2_with fail
                go_roundw
                case rel => exact ⟨j + 1, 8 * acc + ((s[j + 1]'c1).toNat - 48), by omega, by first | go_num | (simp; omega), by congr 1; omega, by omega, HO2, HW⟩
                case measure => simp [intOf]; omega
              · have HST := hide (HSTOP.out (Or.inr (Or.inr (by obtain ⟨hb, he⟩ := HGE.out; exact ⟨hb, by rw [he]; simpa using ho⟩))))
                have hoo : ¬ (48 : Int) ≤ ((s[j + 1]'c1).toNat : Int) ∨ ((48 : Int) ≤ ((s[j + 1]'c1).toNat : Int) ∧ ¬ ((s[j + 1]'c1).toNat : Int) ≤ 55) := by unfold isOc at ho; simp at ho; omega
                clear ho
                rcases hoo with o1 | ⟨o1, o2⟩
                all_goals
                  by_cases hj0 : 0 < j
                  · have hj1 : (1 : Int) < (j : Int) + 1 := by omega
                    have HV : Hid (Z = (UInt8.ofNat acc, j + 1)) := hide (by rw [← HZ.out, HDR.out]; exact escQ_oct HM.out HST.out hj0)
                    have HU := hide (u8_of acc)
                    clear hj0
                    go_wp2_with fail
                    go_ret2
                    refine ⟨?_, HW.out⟩
                    rw [HV.out]
                    simp only
                    rw [HU.out]
                    rfl
                  · obtain rfl : j = 0 := by omega
                    have hj1 : ¬ (1 : Int) < ((0 : Nat) : Int) + 1 := by omega
                    have hacc0 : acc = 0 := by have := HOC.out.2.1; simpa using this
                    subst hacc0
                    by_cases hx : c = 120
                    · have d1 : (((s[1]'h1).toNat : Int) == 120) = true := by rw [HC.out, hx]; rfl
                      have HC120 := hide hx
                      clear hx
                      go_wp2_with fail
                      go_loopw [7, 8] (fun i v wq => ∃ (q b : Nat), q ≤ 2 ∧ i = .int .i64 ((q : Int) + 2) ∧ v = .int .i64 (b : Int) ∧ q + 2 ≤ s.size ∧ Hid (HxAt (s.data.toList.drop 2) q b) ∧ Hid (Below w.heap.size w wq)) (fun i _ _ => 4 - (intOf i).toNat)
                      case atStart => exact ⟨0, 0, by omega, rfl, rfl, by omega, hide (HxAt.start _), HW⟩
                      case round =>
                        obtain ⟨q, b, hq, rfl, rfl, hqs, HHX, HWQ⟩ := hrel
                        have hb2 : b < 256 := by have h1 := HHX.out.2.1; have h2 : 16 ^ q ≤ 16 ^ 2 := Nat.pow_le_pow_right (by decide) hq; omega
                        have HDL2 : Hid ((s.data.toList.drop 2).length = s.size - 2) := hide (by rw [List.length_drop, HL.out])
                        by_cases c5 : q + 2 < s.size
                        · have e5 : (q : Int) + 2 < (s.size : Int) := by omega
                          have HGX : Hid (∃ hb : q < (s.data.toList.drop 2).length, (s.data.toList.drop 2)[q] = s[q + 2]'c5) := hide ⟨by rw [HDL2.out]; omega, by rw [List.getElem_drop]; simp only [Nat.add_comm 2 q]; rfl⟩
                          by_cases c6 : q < 2
                          · have e6 : (q : Int) + 2 < 4 := by omega
                            have HHV := hide (fun W => hexValue_any (s[q + 2]'c5) W)
                            unfold hvR at HHV
                            cases hv : hexV (s[q + 2]'c5) with
                            | none =>
                              simp only [hv] at HHV
                              have HNV := hide hv
                              clear hv
                              have HS := hide (HHX.out.stop (.inr (.inr (by obtain ⟨hb, he⟩ := HGX.out; exact ⟨hb, by rw [he]; exact HNV.out⟩))))
                              have HV : Hid (Z = if 0 < q then (UInt8.ofNat b, q + 2) else (0, 0)) := hide (by
                                rw [← HZ.out, HDR.out, HC120.out]; exact escQ_x (by have := HST.out; rw [HC120.out] at this; rw [this]) HS.out)
                              have HU : Hid (((UInt8.ofNat b).toNat : Int) = (b : Int)) := hide (by rw [u8_of]; omega)
                              by_cases hq0 : 0 < q
                              · have e9 : (2 : Int) < (q : Int) + 2 := by omega
                                rw [if_pos hq0] at HV
                                clear hq0
                                go_wp2_with fail
                                refine (HHV.out _).mono ?_
                                rintro e w2 ⟨rfl, rfl⟩
                                go_wp2_with fail
                                go_ret2
                                refine ⟨?_, HWQ.out⟩
                                rw [HV.out]
                                simp only
                                rw [HU.out]
                                rfl
                              · have e9 : ¬ (2 : Int) < (q : Int) + 2 := by omega
                                rw [if_neg hq0] at HV
                                clear hq0
                                go_wp2_with fail
                                refine (HHV.out _).mono ?_
                                rintro e w2 ⟨rfl, rfl⟩
                                go_wp2_with fail
                                go_ret2
                                refine ⟨?_, HWQ.out⟩
                                rw [HV.out]
                                rfl
                            | some d =>
                              simp only [hv] at HHV
                              have hd16 := hexV_lt hv
                              have d0 : (0 : Int) ≤ (d : Int) := by omega
                              have HX2 := hide (HHX.out.next c6 HGX.out.1 (by rw [HGX.out.2]; exact hv))
                              clear hv
                              go_wp2_with fail
                              refine (HHV.out _).mono ?_
                              rintro e w2 ⟨rfl, rfl⟩
                              go_wp2_with fail
                              refine (HHV.out _).mono ?_
                              rintro e w2 ⟨rfl, rfl⟩
                              go_wp2_with fail
                              go_roundw
                              case rel => exact ⟨q + 1, 16 * b + d, by omega, by first | go_num | (simp; omega), by congr 1, by omega, HX2, HWQ⟩
                              case measure => simp [intOf]; omega
                          · have e6 : ¬ (q : Int) + 2 < 4 := by omega
                            have HS := hide (HHX.out.stop (.inl (by omega)))
                            have HV : Hid (Z = if 0 < q then (UInt8.ofNat b, q + 2) else (0, 0)) := hide (by
                              rw [← HZ.out, HDR.out, HC120.out]; exact escQ_x (by have := HST.out; rw [HC120.out] at this; rw [this]) HS.out)
                            have HU : Hid (((UInt8.ofNat b).toNat : Int) = (b : Int)) := hide (by rw [u8_of]; omega)
                            by_cases hq0 : 0 < q
                            · have e9 : (2 : Int) < (q : Int) + 2 := by omega
                              rw [if_pos hq0] at HV
                              clear hq0
                              go_wp2_with fail
                              go_ret2
                              refine ⟨?_, HWQ.out⟩
                              rw [HV.out]
                              simp only
                              rw [HU.out]
                              rfl
                            · have e9 : ¬ (2 : Int) < (q : Int) + 2 := by omega
                              rw [if_neg hq0] at HV
                              clear hq0
                              go_wp2_with fail
                              go_ret2
                              refine ⟨?_, HWQ.out⟩
                              rw [HV.out]
                              rfl
                        · have e5 : ¬ (q : Int) + 2 < (s.size : Int) := by omega
                          have HS := hide (HHX.out.stop (.inr (.inl (by rw [HDL2.out]; omega))))
                          have HV : Hid (Z = if 0 < q then (UInt8.ofNat b, q + 2) else (0, 0)) := hide (by
                            rw [← HZ.out, HDR.out, HC120.out]; exact escQ_x (by have := HST.out; rw [HC120.out] at this; rw [this]) HS.out)
                          have HU : Hid (((UInt8.ofNat b).toNat : Int) = (b : Int)) := hide (by rw [u8_of]; omega)
                          by_cases hq0 : 0 < q
                          · have e9 : (2 : Int) < (q : Int) + 2 := by omega
                            rw [if_pos hq0] at HV
                            clear hq0
                            go_wp2_with fail
                            go_ret2
                            refine ⟨?_, HWQ.out⟩
                            rw [HV.out]
                            simp only
                            rw [HU.out]
                            rfl
                          · have e9 : ¬ (2 : Int) < (q : Int) + 2 := by omega
                            rw [if_neg hq0] at HV
                            clear hq0
                            go_wp2_with fail
                            go_ret2
                            refine ⟨?_, HWQ.out⟩
                            rw [HV.out]
                            rfl
                    · have d1 : (((s[1]'h1).toNat : Int) == 120) = false := by rw [HC.out]; exact u8_neN' hx
                      have HV : Hid (Z = (0, 0)) := hide (by rw [← HZ.out, HDR.out]; exact escQ_no HM.out (by rw [HST.out]) hx)
                      clear hx
                      go_wp2_with fail
                      go_ret2
                      refine ⟨?_, HW.out⟩
                      rw [HV.out]
                      rfl
            · have e2 : ¬ (j : Int) + 1 < 4 := by omega
              have HST := hide (HSTOP.out (Or.inl (by omega)))
              by_cases hj0 : 0 < j
              · have hj1 : (1 : Int) < (j : Int) + 1 := by omega
                have HV : Hid (Z = (UInt8.ofNat acc, j + 1)) := hide (by rw [← HZ.out, HDR.out]; exact escQ_oct HM.out HST.out hj0)
                have HU := hide (u8_of acc)
                clear hj0
                go_wp2_with fail
                go_ret2
                refine ⟨?_, HW.out⟩
                rw [HV.out]
                simp only
                rw [HU.out]
                rfl
              · omega
          · have e1 : ¬ (j : Int) + 1 < (s.size : Int) := by omega
            have HST := hide (HSTOP.out (Or.inr (Or.inl (by rw [HDL.out]; omega))))
            by_cases hj0 : 0 < j
            · have hj1 : (1 : Int) < (j : Int) + 1 := by omega
              have HV : Hid (Z = (UInt8.ofNat acc, j + 1)) := hide (by rw [← HZ.out, HDR.out]; exact escQ_oct HM.out HST.out hj0)
              have HU := hide (u8_of acc)
              clear hj0
              go_wp2_with fail
              go_ret2
              refine ⟨?_, HW.out⟩
              rw [HV.out]
              simp only
              rw [HU.out]
              rfl
            · omega
end Go.Proofs.YtifpmigghplmoaaGreatDoor
