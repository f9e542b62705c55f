/- Printf: strconv.ParseUint, one more base. -/
import Derived.Test.YtifpmigghplmoaaGreatDoorZPrB
import Derived.Test.YtifpmigghplmoaaGreatDoorZPrC
import Derived.Test.YtifpmigghplmoaaGreatDoorZPfE
import Derived.Test.YtifpmigghplmoaaGreatDoorShelf
/- PfA10 -/
set_option linter.unusedVariables false
set_option linter.unusedSimpArgs false
namespace Go.Proofs.YtifpmigghplmoaaGreatDoor
open Go.RowKit Go.Pw
set_option maxHeartbeats 32000000 in
set_option maxRecDepth 100000 in
theorem pu_10 (t : ByteArray) (hne : t.size ≠ 0) (hmax : t.size ≤ 1000000) (w : World) :
    Calls Tryz.prog 158 #[.string t, .int .i64 10, .int .i64 64] w fun e w' => e = .returned (peV 172 18446744073709551615 (puR 10 18446744073709551615 1844674407370955162 0 t.data.toList)) ∧ w' = Lib.bytesWorld w 5 t := by
  have hemp : t.toList.isEmpty = false := by
    rw [Lib.toList_data]
    have : t.data.toList.length = t.size := len_size t
    cases h : t.data.toList with
    | nil => rw [h] at this; simp at this; omega
    | cons a r => rfl
  have hcv := Lib.run_convert_string_bytes (P := Tryz.prog) w 9 41 5 t (u := .string) Tryz.underlying9 Tryz.underlying41 Tryz.underlying5
  have HB : Hid (∀ j, j < t.size → (Lib.bytesWorld w 5 t).cell? ⟨w.heap.size, j, none⟩ = some (.int .u8 (t.data.toList.getD j 0).toNat)) := hide (fun j hj => Lib.bytesWorld_cell w 5 t j hj)
  obtain ⟨W1, hW1⟩ : ∃ W1, W1 = Lib.bytesWorld w 5 t := ⟨_, rfl⟩
  rw [← hW1] at hcv HB ⊢
  clear hW1
  obtain ⟨bs, hL⟩ : ∃ bs, bs = t.data.toList := ⟨_, rfl⟩
  have HLn : Hid (bs.length = t.size) := hide (by rw [hL, len_size])
  rw [← hL] at HB ⊢
  clear hL
  have hmv : IntKind.u64.wrap (IntKind.u64.wrap 18446744073709551616 - 1) = 18446744073709551615 := by decide
  go_enter Tryz.func158, Tryz.ntmps158
  go_wp2_with fail
  go_loopw [12, 13, 101] (fun vu vn vi wr => ∃ (k acc : Nat) (a : Int), vu = .bool false ∧ vn = .int .u64 a ∧ vi = .int .i64 (k : Int) ∧ k ≤ t.size ∧ Hid (a = (acc : Int) ∧ acc ≤ 18446744073709551615 ∧ puR 10 18446744073709551615 1844674407370955162 0 bs = puR 10 18446744073709551615 1844674407370955162 acc (bs.drop k)) ∧ Hid (wr = W1)) (fun _ _ vi _ => t.size - (intOf vi).toNat)
  case atStart => exact ⟨0, 0, 0, rfl, rfl, rfl, by omega, hide ⟨rfl, by decide, rfl⟩, hide rfl⟩
  case round =>
    obtain ⟨k, acc, a, rfl, rfl, rfl, hk, hh, HW⟩ := hrel
    obtain rfl := HW.out
    obtain ⟨ha, hacc, hdec⟩ := hh.out
    clear hh
    have a0 : 0 ≤ a := by omega
    have a1 : a ≤ 18446744073709551615 := by omega
    have HA := hide ha
    have HDEC := hide hdec
    clear ha hdec
    by_cases hkn : k < t.size
    · have hkb : k < bs.length := by rw [HLn.out]; exact hkn
      have hc := HB.out k hkn
      have hget : bs.getD k 0 = bs[k] := by simp [List.getD, List.getElem?_eq_getElem hkb]
      have HDR : Hid (bs.drop k = bs[k] :: bs.drop (k + 1)) := hide (List.drop_eq_getElem_cons hkb)
      rw [hget] at hc
      obtain ⟨c, hcc⟩ : ∃ c, bs[k] = c := ⟨_, rfl⟩
      rw [hcc] at hc HDR
      clear hget hcc
      have HPU : Hid (puR 10 18446744073709551615 1844674407370955162 0 bs = match dv36 c with
          | none => .syn
          | some d => if 10 ≤ d then .syn else if 1844674407370955162 ≤ acc then .rng else if 18446744073709551615 < acc * 10 + d then .rng else puR 10 18446744073709551615 1844674407370955162 (acc * 10 + d) (bs.drop (k + 1))) := hide (by rw [HDEC.out, HDR.out, puR]; first | done | (cases dv36 c <;> rfl))
      clear HDEC HDR
      by_cases hdig : 48 ≤ c.toNat ∧ c.toNat ≤ 57
      · obtain ⟨hd0, hd1⟩ := hdig
        have i0 : 48 ≤ (c.toNat : Int) := by omega
        have i1 : (c.toNat : Int) ≤ 57 := by omega
        have HDV : Hid (dv36 c = some (c.toNat - 48)) := hide (dv_dig ⟨hd0, hd1⟩)
        obtain ⟨d, hd⟩ : ∃ d : Nat, c.toNat - 48 = d := ⟨_, rfl⟩
        have u1 : IntKind.u8.wrap ((c.toNat : Int) - 48) = (d : Int) := by rw [show (c.toNat : Int) - 48 = (d : Int) by omega]; exact IntWalk.u8_in _ (by omega)
        rw [hd] at HDV
        have hdl : d ≤ 9 := by omega
        clear hd hd0 hd1
        by_cases hcut : 1844674407370955162 ≤ acc
        · have HV : Hid (puR 10 18446744073709551615 1844674407370955162 0 bs = .rng) := hide (by rw [HPU.out, HDV.out]; simp only; rw [if_neg (by omega), if_pos hcut])
          have icut : 1844674407370955162 ≤ a := by have := HA.out; omega
          clear hcut
          go_wp2_with fail
          all_goals go_ret2
          all_goals exact ⟨by rw [HV.out]; rfl, rfl⟩
        · have icut : a < 1844674407370955162 := by have := HA.out; omega
          have icut2 : ¬ 1844674407370955162 ≤ a := by omega
          by_cases hov : 18446744073709551615 < acc * 10 + d
          · have HV : Hid (puR 10 18446744073709551615 1844674407370955162 0 bs = .rng) := hide (by rw [HPU.out, HDV.out]; simp only; rw [if_neg (by omega), if_neg hcut, if_pos hov])
            have iov : 18446744073709551615 < a * 10 + (d : Int) := by have := HA.out; omega
            clear hcut hov
            have hwr : IntKind.u64.wrap (a * 10 + (d : Int)) = a * 10 + (d : Int) - 18446744073709551616 := by rw [IntKind.wrap_u64]; omega
            go_wp2_with fail
            all_goals go_ret2
            all_goals exact ⟨by rw [HV.out]; rfl, rfl⟩
          · have HV : Hid (puR 10 18446744073709551615 1844674407370955162 0 bs = puR 10 18446744073709551615 1844674407370955162 (acc * 10 + d) (bs.drop (k + 1))) := hide (by rw [HPU.out, HDV.out]; simp only; rw [if_neg (by omega), if_neg hcut, if_neg hov])
            have iov : a * 10 + (d : Int) ≤ 18446744073709551615 := by have := HA.out; omega
            have HN : Hid (a * 10 + (d : Int) = ((acc * 10 + d : Nat) : Int) ∧ acc * 10 + d ≤ 18446744073709551615 ∧ puR 10 18446744073709551615 1844674407370955162 0 bs = puR 10 18446744073709551615 1844674407370955162 (acc * 10 + d) (bs.drop (k + 1))) := hide ⟨by have := HA.out; omega, by omega, HV.out⟩
            clear hcut hov
            go_wp2_with fail
            all_goals
              go_roundw
              case rel => exact ⟨k + 1, acc * 10 + d, a * 10 + (d : Int), by first | rfl | trivial, by first | rfl | trivial, by go_num, by omega, HN, by first | exact hide rfl | exact hide trivial⟩
              case measure => simp [intOf]; omega
      · have hl := dv_let hdig
        have HNDG : Hid (¬ (48 ≤ (c.toNat : Int) ∧ (c.toNat : Int) ≤ 57)) := hide (by omega)
        have hlc := lowB_lt c
        have HLOW := hide (fun W => lower_any c W)
        obtain ⟨lc, hlcE⟩ : ∃ lc, lowB c = lc := ⟨_, rfl⟩
        have h95 : lowB c ≤ 122 → ((c.toNat : Int) == 95) = false := low_95
        rw [hlcE] at hl hlc h95
        simp only [hlcE] at HLOW
        clear hlcE
        by_cases h97 : 97 ≤ lc
        · have j0 : (97 : Int) ≤ (lc : Int) := by omega
          by_cases h122 : lc ≤ 122
          · have j1 : (lc : Int) ≤ 122 := by omega
            rw [if_pos ⟨h97, h122⟩] at hl
            obtain ⟨d, hd⟩ : ∃ d : Nat, lc - 87 = d := ⟨_, rfl⟩
            have HDV : Hid (dv36 c = some d) := hide (by rw [hl, hd])
            have u1 : IntKind.u8.wrap ((lc : Int) - 97) = (lc : Int) - 97 := IntWalk.u8_in _ (by omega)
            have u2 : IntKind.u8.wrap ((lc : Int) - 97 + 10) = (d : Int) := by rw [show (lc : Int) - 97 + 10 = (d : Int) by omega]; exact IntWalk.u8_in _ (by omega)
            have hd9 : 10 ≤ d := by omega
            have e95 : ((c.toNat : Int) == 95) = false := h95 (by omega)
            clear hl hd
            have ib : (10 : Int) ≤ (d : Int) := by omega
            have HV : Hid (puR 10 18446744073709551615 1844674407370955162 0 bs = .syn) := hide (by rw [HPU.out, HDV.out]; simp only; rw [if_pos (by omega)])
            go_wp2_with (go_at_call 184; refine (HLOW.out _).mono ?_; rintro e w' ⟨rfl, rfl⟩)
            all_goals go_ret2
            all_goals exact ⟨by rw [HV.out]; rfl, rfl⟩
          · have j1 : ¬ (lc : Int) ≤ 122 := by omega
            rw [if_neg (fun h => h122 h.2)] at hl
            have HDV := hide hl
            obtain ⟨x95, e95⟩ : ∃ x, ((c.toNat : Int) == 95) = x := ⟨_, rfl⟩
            clear hl
            cases x95
            all_goals
              have HV : Hid (puR 10 18446744073709551615 1844674407370955162 0 bs = .syn) := hide (by rw [HPU.out, HDV.out])
              go_wp2_with (go_at_call 184; refine (HLOW.out _).mono ?_; rintro e w' ⟨rfl, rfl⟩)
              all_goals go_ret2
              all_goals exact ⟨by rw [HV.out]; rfl, rfl⟩
        · have j0 : ¬ (97 : Int) ≤ (lc : Int) := by omega
          rw [if_neg (fun h => h97 h.1)] at hl
          have HDV := hide hl
          have e95 : ((c.toNat : Int) == 95) = false := h95 (by omega)
          clear hl
          have HV : Hid (puR 10 18446744073709551615 1844674407370955162 0 bs = .syn) := hide (by rw [HPU.out, HDV.out])
          go_wp2_with (go_at_call 184; refine (HLOW.out _).mono ?_; rintro e w' ⟨rfl, rfl⟩)
          all_goals go_ret2
          all_goals exact ⟨by rw [HV.out]; rfl, rfl⟩
    · skip
      obtain rfl : k = t.size := by omega
      have HV : Hid (puR 10 18446744073709551615 1844674407370955162 0 bs = .ok acc) := hide (by rw [HDEC.out, List.drop_eq_nil_of_le (by rw [HLn.out]; exact Nat.le_refl _), puR])
      have hd : ¬ ((t.size : Int) < (t.size : Int)) := by omega
      go_wp2_with fail
      go_ret2
      exact ⟨by rw [HV.out, HA.out]; rfl, rfl⟩
end Go.Proofs.YtifpmigghplmoaaGreatDoor

/- PfA8 -/
set_option linter.unusedVariables false
set_option linter.unusedSimpArgs false
namespace Go.Proofs.YtifpmigghplmoaaGreatDoor
open Go.RowKit Go.Pw
set_option maxHeartbeats 32000000 in
set_option maxRecDepth 100000 in
theorem pu_8 (t : ByteArray) (hne : t.size ≠ 0) (hmax : t.size ≤ 1000000) (w : World) :
    Calls Tryz.prog 158 #[.string t, .int .i64 8, .int .i64 64] w fun e w' => e = .returned (peV 172 18446744073709551615 (puR 8 18446744073709551615 2305843009213693952 0 t.data.toList)) ∧ w' = Lib.bytesWorld w 5 t := by
  have hemp : t.toList.isEmpty = false := by
    rw [Lib.toList_data]
    have : t.data.toList.length = t.size := len_size t
    cases h : t.data.toList with
    | nil => rw [h] at this; simp at this; omega
    | cons a r => rfl
  have hcv := Lib.run_convert_string_bytes (P := Tryz.prog) w 9 41 5 t (u := .string) Tryz.underlying9 Tryz.underlying41 Tryz.underlying5
  have HB : Hid (∀ j, j < t.size → (Lib.bytesWorld w 5 t).cell? ⟨w.heap.size, j, none⟩ = some (.int .u8 (t.data.toList.getD j 0).toNat)) := hide (fun j hj => Lib.bytesWorld_cell w 5 t j hj)
  obtain ⟨W1, hW1⟩ : ∃ W1, W1 = Lib.bytesWorld w 5 t := ⟨_, rfl⟩
  rw [← hW1] at hcv HB ⊢
  clear hW1
  obtain ⟨bs, hL⟩ : ∃ bs, bs = t.data.toList := ⟨_, rfl⟩
  have HLn : Hid (bs.length = t.size) := hide (by rw [hL, len_size])
  rw [← hL] at HB ⊢
  clear hL
  have hmv : IntKind.u64.wrap (IntKind.u64.wrap 18446744073709551616 - 1) = 18446744073709551615 := by decide
  go_enter Tryz.func158, Tryz.ntmps158
  go_wp2_with fail
  go_loopw [12, 13, 101] (fun vu vn vi wr => ∃ (k acc : Nat) (a : Int), vu = .bool false ∧ vn = .int .u64 a ∧ vi = .int .i64 (k : Int) ∧ k ≤ t.size ∧ Hid (a = (acc : Int) ∧ acc ≤ 18446744073709551615 ∧ puR 8 18446744073709551615 2305843009213693952 0 bs = puR 8 18446744073709551615 2305843009213693952 acc (bs.drop k)) ∧ Hid (wr = W1)) (fun _ _ vi _ => t.size - (intOf vi).toNat)
  case atStart => exact ⟨0, 0, 0, rfl, rfl, rfl, by omega, hide ⟨rfl, by decide, rfl⟩, hide rfl⟩
  case round =>
    obtain ⟨k, acc, a, rfl, rfl, rfl, hk, hh, HW⟩ := hrel
    obtain rfl := HW.out
    obtain ⟨ha, hacc, hdec⟩ := hh.out
    clear hh
    have a0 : 0 ≤ a := by omega
    have a1 : a ≤ 18446744073709551615 := by omega
    have HA := hide ha
    have HDEC := hide hdec
    clear ha hdec
    by_cases hkn : k < t.size
    · have hkb : k < bs.length := by rw [HLn.out]; exact hkn
      have hc := HB.out k hkn
      have hget : bs.getD k 0 = bs[k] := by simp [List.getD, List.getElem?_eq_getElem hkb]
      have HDR : Hid (bs.drop k = bs[k] :: bs.drop (k + 1)) := hide (List.drop_eq_getElem_cons hkb)
      rw [hget] at hc
      obtain ⟨c, hcc⟩ : ∃ c, bs[k] = c := ⟨_, rfl⟩
      rw [hcc] at hc HDR
      clear hget hcc
      have HPU : Hid (puR 8 18446744073709551615 2305843009213693952 0 bs = match dv36 c with
          | none => .syn
          | some d => if 8 ≤ d then .syn else if 2305843009213693952 ≤ acc then .rng else if 18446744073709551615 < acc * 8 + d then .rng else puR 8 18446744073709551615 2305843009213693952 (acc * 8 + d) (bs.drop (k + 1))) := hide (by rw [HDEC.out, HDR.out, puR]; first | done | (cases dv36 c <;> rfl))
      clear HDEC HDR
      by_cases hdig : 48 ≤ c.toNat ∧ c.toNat ≤ 57
      · obtain ⟨hd0, hd1⟩ := hdig
        have i0 : 48 ≤ (c.toNat : Int) := by omega
        have i1 : (c.toNat : Int) ≤ 57 := by omega
        have HDV : Hid (dv36 c = some (c.toNat - 48)) := hide (dv_dig ⟨hd0, hd1⟩)
        obtain ⟨d, hd⟩ : ∃ d : Nat, c.toNat - 48 = d := ⟨_, rfl⟩
        have u1 : IntKind.u8.wrap ((c.toNat : Int) - 48) = (d : Int) := by rw [show (c.toNat : Int) - 48 = (d : Int) by omega]; exact IntWalk.u8_in _ (by omega)
        rw [hd] at HDV
        have hdl : d ≤ 9 := by omega
        clear hd hd0 hd1
        by_cases hb : 8 ≤ d
        · have ib : (8 : Int) ≤ (d : Int) := by omega
          have HV : Hid (puR 8 18446744073709551615 2305843009213693952 0 bs = .syn) := hide (by rw [HPU.out, HDV.out]; simp only; rw [if_pos hb])
          go_wp2_with (go_at_call 184; refine (HLOW.out _).mono ?_; rintro e w' ⟨rfl, rfl⟩)
          all_goals go_ret2
          all_goals exact ⟨by rw [HV.out]; rfl, rfl⟩
        · have ib : (d : Int) < 8 := by omega
          by_cases hcut : 2305843009213693952 ≤ acc
          · have HV : Hid (puR 8 18446744073709551615 2305843009213693952 0 bs = .rng) := hide (by rw [HPU.out, HDV.out]; simp only; rw [if_neg (by omega), if_pos hcut])
            have icut : 2305843009213693952 ≤ a := by have := HA.out; omega
            clear hcut
            go_wp2_with fail
            all_goals go_ret2
            all_goals exact ⟨by rw [HV.out]; rfl, rfl⟩
          · have icut : a < 2305843009213693952 := by have := HA.out; omega
            have icut2 : ¬ 2305843009213693952 ≤ a := by omega
            by_cases hov : 18446744073709551615 < acc * 8 + d
            · have HV : Hid (puR 8 18446744073709551615 2305843009213693952 0 bs = .rng) := hide (by rw [HPU.out, HDV.out]; simp only; rw [if_neg (by omega), if_neg hcut, if_pos hov])
              have iov : 18446744073709551615 < a * 8 + (d : Int) := by have := HA.out; omega
              clear hcut hov
              go_wp2_with fail
              all_goals go_ret2
              all_goals exact ⟨by rw [HV.out]; rfl, rfl⟩
            · have HV : Hid (puR 8 18446744073709551615 2305843009213693952 0 bs = puR 8 18446744073709551615 2305843009213693952 (acc * 8 + d) (bs.drop (k + 1))) := hide (by rw [HPU.out, HDV.out]; simp only; rw [if_neg (by omega), if_neg hcut, if_neg hov])
              have iov : a * 8 + (d : Int) ≤ 18446744073709551615 := by have := HA.out; omega
              have HN : Hid (a * 8 + (d : Int) = ((acc * 8 + d : Nat) : Int) ∧ acc * 8 + d ≤ 18446744073709551615 ∧ puR 8 18446744073709551615 2305843009213693952 0 bs = puR 8 18446744073709551615 2305843009213693952 (acc * 8 + d) (bs.drop (k + 1))) := hide ⟨by have := HA.out; omega, by omega, HV.out⟩
              clear hcut hov
              go_wp2_with fail
              all_goals
                go_roundw
                case rel => exact ⟨k + 1, acc * 8 + d, a * 8 + (d : Int), by first | rfl | trivial, by first | rfl | trivial, by go_num, by omega, HN, by first | exact hide rfl | exact hide trivial⟩
                case measure => simp [intOf]; omega
      · have hl := dv_let hdig
        have HNDG : Hid (¬ (48 ≤ (c.toNat : Int) ∧ (c.toNat : Int) ≤ 57)) := hide (by omega)
        have hlc := lowB_lt c
        have HLOW := hide (fun W => lower_any c W)
        obtain ⟨lc, hlcE⟩ : ∃ lc, lowB c = lc := ⟨_, rfl⟩
        have h95 : lowB c ≤ 122 → ((c.toNat : Int) == 95) = false := low_95
        rw [hlcE] at hl hlc h95
        simp only [hlcE] at HLOW
        clear hlcE
        by_cases h97 : 97 ≤ lc
        · have j0 : (97 : Int) ≤ (lc : Int) := by omega
          by_cases h122 : lc ≤ 122
          · have j1 : (lc : Int) ≤ 122 := by omega
            rw [if_pos ⟨h97, h122⟩] at hl
            obtain ⟨d, hd⟩ : ∃ d : Nat, lc - 87 = d := ⟨_, rfl⟩
            have HDV : Hid (dv36 c = some d) := hide (by rw [hl, hd])
            have u1 : IntKind.u8.wrap ((lc : Int) - 97) = (lc : Int) - 97 := IntWalk.u8_in _ (by omega)
            have u2 : IntKind.u8.wrap ((lc : Int) - 97 + 10) = (d : Int) := by rw [show (lc : Int) - 97 + 10 = (d : Int) by omega]; exact IntWalk.u8_in _ (by omega)
            have hd9 : 10 ≤ d := by omega
            have e95 : ((c.toNat : Int) == 95) = false := h95 (by omega)
            clear hl hd
            have ib : (8 : Int) ≤ (d : Int) := by omega
            have HV : Hid (puR 8 18446744073709551615 2305843009213693952 0 bs = .syn) := hide (by rw [HPU.out, HDV.out]; simp only; rw [if_pos (by omega)])
            go_wp2_with (go_at_call 184; refine (HLOW.out _).mono ?_; rintro e w' ⟨rfl, rfl⟩)
            all_goals go_ret2
            all_goals exact ⟨by rw [HV.out]; rfl, rfl⟩
          · have j1 : ¬ (lc : Int) ≤ 122 := by omega
            rw [if_neg (fun h => h122 h.2)] at hl
            have HDV := hide hl
            obtain ⟨x95, e95⟩ : ∃ x, ((c.toNat : Int) == 95) = x := ⟨_, rfl⟩
            clear hl
            cases x95
            all_goals
              have HV : Hid (puR 8 18446744073709551615 2305843009213693952 0 bs = .syn) := hide (by rw [HPU.out, HDV.out])
              go_wp2_with (go_at_call 184; refine (HLOW.out _).mono ?_; rintro e w' ⟨rfl, rfl⟩)
              all_goals go_ret2
              all_goals exact ⟨by rw [HV.out]; rfl, rfl⟩
        · have j0 : ¬ (97 : Int) ≤ (lc : Int) := by omega
          rw [if_neg (fun h => h97 h.1)] at hl
          have HDV := hide hl
          have e95 : ((c.toNat : Int) == 95) = false := h95 (by omega)
          clear hl
          have HV : Hid (puR 8 18446744073709551615 2305843009213693952 0 bs = .syn) := hide (by rw [HPU.out, HDV.out])
          go_wp2_with (go_at_call 184; refine (HLOW.out _).mono ?_; rintro e w' ⟨rfl, rfl⟩)
          all_goals go_ret2
          all_goals exact ⟨by rw [HV.out]; rfl, rfl⟩
    · skip
      obtain rfl : k = t.size := by omega
      have HV : Hid (puR 8 18446744073709551615 2305843009213693952 0 bs = .ok acc) := hide (by rw [HDEC.out, List.drop_eq_nil_of_le (by rw [HLn.out]; exact Nat.le_refl _), puR])
      have hd : ¬ ((t.size : Int) < (t.size : Int)) := by omega
      go_wp2_with fail
      go_ret2
      exact ⟨by rw [HV.out, HA.out]; rfl, rfl⟩
end Go.Proofs.YtifpmigghplmoaaGreatDoor

/- PfA16 -/
set_option linter.unusedVariables false
set_option linter.unusedSimpArgs false
namespace Go.Proofs.YtifpmigghplmoaaGreatDoor
open Go.RowKit Go.Pw
set_option maxHeartbeats 32000000 in
set_option maxRecDepth 100000 in
theorem pu_16 (t : ByteArray) (hne : t.size ≠ 0) (hmax : t.size ≤ 1000000) (w : World) :
    Calls Tryz.prog 158 #[.string t, .int .i64 16, .int .i64 64] w fun e w' => e = .returned (peV 172 18446744073709551615 (puR 16 18446744073709551615 1152921504606846976 0 t.data.toList)) ∧ w' = Lib.bytesWorld w 5 t := by
  have hemp : t.toList.isEmpty = false := by
    rw [Lib.toList_data]
    have : t.data.toList.length = t.size := len_size t
    cases h : t.data.toList with
    | nil => rw [h] at this; simp at this; omega
    | cons a r => rfl
  have hcv := Lib.run_convert_string_bytes (P := Tryz.prog) w 9 41 5 t (u := .string) Tryz.underlying9 Tryz.underlying41 Tryz.underlying5
  have HB : Hid (∀ j, j < t.size → (Lib.bytesWorld w 5 t).cell? ⟨w.heap.size, j, none⟩ = some (.int .u8 (t.data.toList.getD j 0).toNat)) := hide (fun j hj => Lib.bytesWorld_cell w 5 t j hj)
  obtain ⟨W1, hW1⟩ : ∃ W1, W1 = Lib.bytesWorld w 5 t := ⟨_, rfl⟩
  rw [← hW1] at hcv HB ⊢
  clear hW1
  obtain ⟨bs, hL⟩ : ∃ bs, bs = t.data.toList := ⟨_, rfl⟩
  have HLn : Hid (bs.length = t.size) := hide (by rw [hL, len_size])
  rw [← hL] at HB ⊢
  clear hL
  have hmv : IntKind.u64.wrap (IntKind.u64.wrap 18446744073709551616 - 1) = 18446744073709551615 := by decide
  go_enter Tryz.func158, Tryz.ntmps158
  go_wp2_with fail
  go_loopw [12, 13, 101] (fun vu vn vi wr => ∃ (k acc : Nat) (a : Int), vu = .bool false ∧ vn = .int .u64 a ∧ vi = .int .i64 (k : Int) ∧ k ≤ t.size ∧ Hid (a = (acc : Int) ∧ acc ≤ 18446744073709551615 ∧ puR 16 18446744073709551615 1152921504606846976 0 bs = puR 16 18446744073709551615 1152921504606846976 acc (bs.drop k)) ∧ Hid (wr = W1)) (fun _ _ vi _ => t.size - (intOf vi).toNat)
  case atStart => exact ⟨0, 0, 0, rfl, rfl, rfl, by omega, hide ⟨rfl, by decide, rfl⟩, hide rfl⟩
  case round =>
    obtain ⟨k, acc, a, rfl, rfl, rfl, hk, hh, HW⟩ := hrel
    obtain rfl := HW.out
    obtain ⟨ha, hacc, hdec⟩ := hh.out
    clear hh
    have a0 : 0 ≤ a := by omega
    have a1 : a ≤ 18446744073709551615 := by omega
    have HA := hide ha
    have HDEC := hide hdec
    clear ha hdec
    by_cases hkn : k < t.size
    · have hkb : k < bs.length := by rw [HLn.out]; exact hkn
      have hc := HB.out k hkn
      have hget : bs.getD k 0 = bs[k] := by simp [List.getD, List.getElem?_eq_getElem hkb]
      have HDR : Hid (bs.drop k = bs[k] :: bs.drop (k + 1)) := hide (List.drop_eq_getElem_cons hkb)
      rw [hget] at hc
      obtain ⟨c, hcc⟩ : ∃ c, bs[k] = c := ⟨_, rfl⟩
      rw [hcc] at hc HDR
      clear hget hcc
      have HPU : Hid (puR 16 18446744073709551615 1152921504606846976 0 bs = match dv36 c with
          | none => .syn
          | some d => if 16 ≤ d then .syn else if 1152921504606846976 ≤ acc then .rng else if 18446744073709551615 < acc * 16 + d then .rng else puR 16 18446744073709551615 1152921504606846976 (acc * 16 + d) (bs.drop (k + 1))) := hide (by rw [HDEC.out, HDR.out, puR]; first | done | (cases dv36 c <;> rfl))
      clear HDEC HDR
      by_cases hdig : 48 ≤ c.toNat ∧ c.toNat ≤ 57
      · obtain ⟨hd0, hd1⟩ := hdig
        have i0 : 48 ≤ (c.toNat : Int) := by omega
        have i1 : (c.toNat : Int) ≤ 57 := by omega
        have HDV : Hid (dv36 c = some (c.toNat - 48)) := hide (dv_dig ⟨hd0, hd1⟩)
        obtain ⟨d, hd⟩ : ∃ d : Nat, c.toNat - 48 = d := ⟨_, rfl⟩
        have u1 : IntKind.u8.wrap ((c.toNat : Int) - 48) = (d : Int) := by rw [show (c.toNat : Int) - 48 = (d : Int) by omega]; exact IntWalk.u8_in _ (by omega)
        rw [hd] at HDV
        have hdl : d ≤ 9 := by omega
        clear hd hd0 hd1
        by_cases hcut : 1152921504606846976 ≤ acc
        · have HV : Hid (puR 16 18446744073709551615 1152921504606846976 0 bs = .rng) := hide (by rw [HPU.out, HDV.out]; simp only; rw [if_neg (by omega), if_pos hcut])
          have icut : 1152921504606846976 ≤ a := by have := HA.out; omega
          clear hcut
          go_wp2_with fail
          all_goals go_ret2
          all_goals exact ⟨by rw [HV.out]; rfl, rfl⟩
        · have icut : a < 1152921504606846976 := by have := HA.out; omega
          have icut2 : ¬ 1152921504606846976 ≤ a := by omega
          by_cases hov : 18446744073709551615 < acc * 16 + d
          · have HV : Hid (puR 16 18446744073709551615 1152921504606846976 0 bs = .rng) := hide (by rw [HPU.out, HDV.out]; simp only; rw [if_neg (by omega), if_neg hcut, if_pos hov])
            have iov : 18446744073709551615 < a * 16 + (d : Int) := by have := HA.out; omega
            clear hcut hov
            go_wp2_with fail
            all_goals go_ret2
            all_goals exact ⟨by rw [HV.out]; rfl, rfl⟩
          · have HV : Hid (puR 16 18446744073709551615 1152921504606846976 0 bs = puR 16 18446744073709551615 1152921504606846976 (acc * 16 + d) (bs.drop (k + 1))) := hide (by rw [HPU.out, HDV.out]; simp only; rw [if_neg (by omega), if_neg hcut, if_neg hov])
            have iov : a * 16 + (d : Int) ≤ 18446744073709551615 := by have := HA.out; omega
            have HN : Hid (a * 16 + (d : Int) = ((acc * 16 + d : Nat) : Int) ∧ acc * 16 + d ≤ 18446744073709551615 ∧ puR 16 18446744073709551615 1152921504606846976 0 bs = puR 16 18446744073709551615 1152921504606846976 (acc * 16 + d) (bs.drop (k + 1))) := hide ⟨by have := HA.out; omega, by omega, HV.out⟩
            clear hcut hov
            go_wp2_with fail
            all_goals
              go_roundw
              case rel => exact ⟨k + 1, acc * 16 + d, a * 16 + (d : Int), by first | rfl | trivial, by first | rfl | trivial, by go_num, by omega, HN, by first | exact hide rfl | exact hide trivial⟩
              case measure => simp [intOf]; omega
      · have hl := dv_let hdig
        have HNDG : Hid (¬ (48 ≤ (c.toNat : Int) ∧ (c.toNat : Int) ≤ 57)) := hide (by omega)
        have hlc := lowB_lt c
        have HLOW := hide (fun W => lower_any c W)
        obtain ⟨lc, hlcE⟩ : ∃ lc, lowB c = lc := ⟨_, rfl⟩
        have h95 : lowB c ≤ 122 → ((c.toNat : Int) == 95) = false := low_95
        rw [hlcE] at hl hlc h95
        simp only [hlcE] at HLOW
        clear hlcE
        by_cases h97 : 97 ≤ lc
        · have j0 : (97 : Int) ≤ (lc : Int) := by omega
          by_cases h122 : lc ≤ 122
          · have j1 : (lc : Int) ≤ 122 := by omega
            rw [if_pos ⟨h97, h122⟩] at hl
            obtain ⟨d, hd⟩ : ∃ d : Nat, lc - 87 = d := ⟨_, rfl⟩
            have HDV : Hid (dv36 c = some d) := hide (by rw [hl, hd])
            have u1 : IntKind.u8.wrap ((lc : Int) - 97) = (lc : Int) - 97 := IntWalk.u8_in _ (by omega)
            have u2 : IntKind.u8.wrap ((lc : Int) - 97 + 10) = (d : Int) := by rw [show (lc : Int) - 97 + 10 = (d : Int) by omega]; exact IntWalk.u8_in _ (by omega)
            have hd9 : 10 ≤ d := by omega
            have e95 : ((c.toNat : Int) == 95) = false := h95 (by omega)
            clear hl hd
            by_cases hb : 16 ≤ d
            · have ib : (16 : Int) ≤ (d : Int) := by omega
              have HV : Hid (puR 16 18446744073709551615 1152921504606846976 0 bs = .syn) := hide (by rw [HPU.out, HDV.out]; simp only; rw [if_pos hb])
              go_wp2_with (go_at_call 184; refine (HLOW.out _).mono ?_; rintro e w' ⟨rfl, rfl⟩)
              all_goals go_ret2
              all_goals exact ⟨by rw [HV.out]; rfl, rfl⟩
            · have ib : (d : Int) < 16 := by omega
              by_cases hcut : 1152921504606846976 ≤ acc
              · have HV : Hid (puR 16 18446744073709551615 1152921504606846976 0 bs = .rng) := hide (by rw [HPU.out, HDV.out]; simp only; rw [if_neg (by omega), if_pos hcut])
                have icut : 1152921504606846976 ≤ a := by have := HA.out; omega
                clear hcut
                go_wp2_with (go_at_call 184; refine (HLOW.out _).mono ?_; rintro e w' ⟨rfl, rfl⟩)
                all_goals go_ret2
                all_goals exact ⟨by rw [HV.out]; rfl, rfl⟩
              · have icut : a < 1152921504606846976 := by have := HA.out; omega
                have icut2 : ¬ 1152921504606846976 ≤ a := by omega
                by_cases hov : 18446744073709551615 < acc * 16 + d
                · have HV : Hid (puR 16 18446744073709551615 1152921504606846976 0 bs = .rng) := hide (by rw [HPU.out, HDV.out]; simp only; rw [if_neg (by omega), if_neg hcut, if_pos hov])
                  have iov : 18446744073709551615 < a * 16 + (d : Int) := by have := HA.out; omega
                  clear hcut hov
                  go_wp2_with (go_at_call 184; refine (HLOW.out _).mono ?_; rintro e w' ⟨rfl, rfl⟩)
                  all_goals go_ret2
                  all_goals exact ⟨by rw [HV.out]; rfl, rfl⟩
                · have HV : Hid (puR 16 18446744073709551615 1152921504606846976 0 bs = puR 16 18446744073709551615 1152921504606846976 (acc * 16 + d) (bs.drop (k + 1))) := hide (by rw [HPU.out, HDV.out]; simp only; rw [if_neg (by omega), if_neg hcut, if_neg hov])
                  have iov : a * 16 + (d : Int) ≤ 18446744073709551615 := by have := HA.out; omega
                  have HN : Hid (a * 16 + (d : Int) = ((acc * 16 + d : Nat) : Int) ∧ acc * 16 + d ≤ 18446744073709551615 ∧ puR 16 18446744073709551615 1152921504606846976 0 bs = puR 16 18446744073709551615 1152921504606846976 (acc * 16 + d) (bs.drop (k + 1))) := hide ⟨by have := HA.out; omega, by omega, HV.out⟩
                  clear hcut hov
                  go_wp2_with (go_at_call 184; refine (HLOW.out _).mono ?_; rintro e w' ⟨rfl, rfl⟩)
                  all_goals
                    go_roundw
                    case rel => exact ⟨k + 1, acc * 16 + d, a * 16 + (d : Int), by first | rfl | trivial, by first | rfl | trivial, by go_num, by omega, HN, by first | exact hide rfl | exact hide trivial⟩
                    case measure => simp [intOf]; omega
          · have j1 : ¬ (lc : Int) ≤ 122 := by omega
            rw [if_neg (fun h => h122 h.2)] at hl
            have HDV := hide hl
            obtain ⟨x95, e95⟩ : ∃ x, ((c.toNat : Int) == 95) = x := ⟨_, rfl⟩
            clear hl
            cases x95
            all_goals
              have HV : Hid (puR 16 18446744073709551615 1152921504606846976 0 bs = .syn) := hide (by rw [HPU.out, HDV.out])
              go_wp2_with (go_at_call 184; refine (HLOW.out _).mono ?_; rintro e w' ⟨rfl, rfl⟩)
              all_goals go_ret2
              all_goals exact ⟨by rw [HV.out]; rfl, rfl⟩
        · have j0 : ¬ (97 : Int) ≤ (lc : Int) := by omega
          rw [if_neg (fun h => h97 h.1)] at hl
          have HDV := hide hl
          have e95 : ((c.toNat : Int) == 95) = false := h95 (by omega)
          clear hl
          have HV : Hid (puR 16 18446744073709551615 1152921504606846976 0 bs = .syn) := hide (by rw [HPU.out, HDV.out])
          go_wp2_with (go_at_call 184; refine (HLOW.out _).mono ?_; rintro e w' ⟨rfl, rfl⟩)
          all_goals go_ret2
          all_goals exact ⟨by rw [HV.out]; rfl, rfl⟩
    · skip
      obtain rfl : k = t.size := by omega
      have HV : Hid (puR 16 18446744073709551615 1152921504606846976 0 bs = .ok acc) := hide (by rw [HDEC.out, List.drop_eq_nil_of_le (by rw [HLn.out]; exact Nat.le_refl _), puR])
      have hd : ¬ ((t.size : Int) < (t.size : Int)) := by omega
      go_wp2_with fail
      go_ret2
      exact ⟨by rw [HV.out, HA.out]; rfl, rfl⟩
end Go.Proofs.YtifpmigghplmoaaGreatDoor

/- PfM -/
set_option linter.unusedVariables false
set_option linter.unusedSimpArgs false
namespace Go.Proofs.YtifpmigghplmoaaGreatDoor
open Go.RowKit Go.Pw Go.Shelf
theorem pu_any (b : Nat) (hb : b = 10 ∨ b = 8 ∨ b = 16) (t : ByteArray) (hv : ∀ c ∈ t.data.toList, ∃ d, hexV c = some d ∧ d < b) (hne : t.size ≠ 0) (hmax : t.size ≤ 1000000) (W : World) :
    Calls Tryz.prog 158 #[.string t, .int .i64 (b : Int), .int .i64 64] W fun e w' =>
      e = .returned (peV 172 18446744073709551615 (if vB b 0 t.data.toList ≤ 18446744073709551615 then .ok (vB b 0 t.data.toList) else .rng)) ∧ w' = Lib.bytesWorld W 5 t := by
  rcases hb with rfl | rfl | rfl
  · have h := pu_10 t hne hmax W
    rw [puR_vB_10 _ hv] at h
    exact h
  · have h := pu_8 t hne hmax W
    rw [puR_vB_8 _ hv] at h
    exact h
  · have h := pu_16 t hne hmax W
    rw [puR_vB_16 _ hv] at h
    exact h
/-- the same, the number as an integer of its own -/
theorem pu_num (b : Nat) (hb : b = 10 ∨ b = 8 ∨ b = 16) (t : ByteArray) (hv : ∀ c ∈ t.data.toList, ∃ d, hexV c = some d ∧ d < b) (hne : t.size ≠ 0) (hmax : t.size ≤ 1000000) :
    ∃ (a : Int) (er : Value), (∀ W, Calls Tryz.prog 158 #[.string t, .int .i64 (b : Int), .int .i64 64] W fun e w' => e = .returned (.tuple #[.int .u64 a, er]) ∧ w' = Lib.bytesWorld W 5 t) ∧
      ((er = .nilIface ∧ a = (vB b 0 t.data.toList : Int)) ∨ (er = .iface 172 (.int .i64 1) ∧ a = 18446744073709551615 ∧ (18446744073709551615 : Int) < (vB b 0 t.data.toList : Int))) ∧ 0 ≤ a ∧ a ≤ 18446744073709551615 := by
  by_cases h : vB b 0 t.data.toList ≤ 18446744073709551615
  · refine ⟨(vB b 0 t.data.toList : Int), .nilIface, fun W => ?_, .inl ⟨rfl, rfl⟩, by omega, by omega⟩
    have h1 := pu_any b hb t hv hne hmax W
    rw [if_pos h] at h1
    exact h1
  · refine ⟨18446744073709551615, .iface 172 (.int .i64 1), fun W => ?_, .inr ⟨rfl, rfl, by omega⟩, by omega, by omega⟩
    have h1 := pu_any b hb t hv hne hmax W
    rw [if_neg h] at h1
    exact h1
theorem parse_pos (b : Nat) (hb : b = 10 ∨ b = 8 ∨ b = 16) (t : ByteArray) (hv : ∀ c ∈ t.data.toList, ∃ d, hexV c = some d ∧ d < b) (h0 : 0 < t.size) (hmax : t.size ≤ 1000000) (w : World) (hE : ErrT w) :
    Calls Tryz.prog 122 #[.string t, .int .i64 (b : Int), .int .i64 64] w fun e w' => pbR ((vB b 0 t.data.toList : Int) < 9223372036854775808) (vB b 0 t.data.toList : Int) e ∧ Below w.heap.size w w' := by
  obtain ⟨a, er, H, hr, ha0, ha1⟩ := pu_num b hb t hv (by omega) hmax
  have hm : t[0] ∈ t.data.toList := by
    show t.data[0] ∈ t.data.toList
    simp
  obtain ⟨d, hd, -⟩ := hv _ hm
  have h43 : ¬ t[0] = 43 := fun e => by rw [e] at hd; cases hd
  have h45 : ¬ t[0] = 45 := fun e => by rw [e] at hd; cases hd
  refine pubInt_any t b w _ _ hmax hE ((pi_pos t b w a er h0 h43 h45 H (by rcases hr with h | h; exact .inl h.1; exact .inr ⟨h.1, by omega⟩) ha0 ha1).mono ?_)
  rintro e w' ⟨hp, hbl⟩
  refine ⟨?_, hbl⟩
  rcases hr with ⟨rfl, h⟩ | ⟨rfl, h, h2⟩
  · rw [← h]; exact hp
  · rcases hp with ⟨hp, -⟩ | ⟨-, hp⟩
    · omega
    · exact .inr ⟨by omega, hp⟩
theorem parse_neg (b : Nat) (hb : b = 10 ∨ b = 8 ∨ b = 16) (s t : ByteArray) (hv : ∀ c ∈ t.data.toList, ∃ d, hexV c = some d ∧ d < b) (ht : 0 < t.size) (hmax : t.size ≤ 1000000) (hs : s.size ≤ 1000000) (h0 : 0 < s.size) (h45 : s[0] = 45) (hst : s.extract 1 s.size = t) (w : World) (hE : ErrT w) :
    Calls Tryz.prog 122 #[.string s, .int .i64 (b : Int), .int .i64 64] w fun e w' => pbR ((vB b 0 t.data.toList : Int) ≤ 9223372036854775808) (-(vB b 0 t.data.toList : Int)) e ∧ Below w.heap.size w w' := by
  obtain ⟨a, er, H, hr, ha0, ha1⟩ := pu_num b hb t hv (by omega) hmax
  refine pubInt_any s b w _ _ hs hE ((pi_neg s t b w a er h0 h45 hst H (by rcases hr with h | h; exact .inl h.1; exact .inr ⟨h.1, by omega⟩) ha0 ha1).mono ?_)
  rintro e w' ⟨hp, hbl⟩
  refine ⟨?_, hbl⟩
  rcases hr with ⟨rfl, h⟩ | ⟨rfl, h, h2⟩
  · rw [← h]; exact hp
  · rcases hp with ⟨hp, -⟩ | ⟨-, hp⟩
    · omega
    · exact .inr ⟨by omega, hp⟩
end Go.Proofs.YtifpmigghplmoaaGreatDoor

/- PfN -/
set_option linter.unusedVariables false
set_option linter.unusedSimpArgs false
namespace Go.Pw
open Go.RowKit
/-- the digits of a numeral behind its sign, and their base -/
def baseP (l : List UInt8) : List UInt8 × Nat :=
  if Lib.hasPrefix l [48, 120] = true then (l.drop 2, 16) else if 1 < l.length ∧ l.headD 0 = 48 then (l.drop 1, 8) else (l, 10)
def okD (b : Nat) (c : UInt8) : Bool := match hexV c with | some d => decide (d < b) | none => false
/-- the number of an argument, and the error (0: none) -/
def numT (neg : Bool) (b : Nat) (ds : List UInt8) : Int × Int :=
  if ds.all (okD b) = true ∧ ds ≠ [] then
    (if neg then (if (vB b 0 ds : Int) ≤ 9223372036854775808 then (-(vB b 0 ds : Int), 0) else (0, 3))
     else (if (vB b 0 ds : Int) < 9223372036854775808 then ((vB b 0 ds : Int), 0) else (0, 3)))
  else (0, 5)
def quoP : List UInt8 → Int × Int
  | [x] => ((x.toNat : Int), 0)
  | _ => (0, 5)
def numP : List UInt8 → Int × Int
  | [] => (0, 0)
  | c :: r =>
    if c = 39 ∨ c = 34 then quoP r else
    numT (decide (c = 45)) (baseP (if c = 45 ∨ c = 43 then r else c :: r)).2 (baseP (if c = 45 ∨ c = 43 then r else c :: r)).1
end Go.Pw
namespace Go.Proofs.YtifpmigghplmoaaGreatDoor
open Go.RowKit Go.Pw Go.Shelf
set_option maxHeartbeats 8000000 in
set_option maxRecDepth 100000 in
theorem numeral_nil (w : World) :
    Calls Tryz.prog 82 #[.string (mkB [])] w fun e w' => e = .returned (.tuple #[.int .i64 (numP []).1, .int .i64 (numP []).2]) ∧ Below w.heap.size w w' := by
  have hemp : (mkB []).toList.isEmpty = true := by rw [Lib.toList_data, mkB_data2]; rfl
  go_enter Tryz.func82, Tryz.ntmps82
  go_wp2_with fail
  go_ret2
  exact ⟨rfl, Below.refl _ _⟩
theorem mkB_cons_size (c : UInt8) (r : List UInt8) : (mkB (c :: r)).size = r.length + 1 := by
  unfold mkB; show (c :: r).toArray.size = _; simp
set_option maxHeartbeats 8000000 in
set_option maxRecDepth 100000 in
theorem numeral_quote (c : UInt8) (r : List UInt8) (w : World) (hc : c = 39 ∨ c = 34) (hr : r.length ≤ 1000000) :
    Calls Tryz.prog 82 #[.string (mkB (c :: r))] w fun e w' => e = .returned (.tuple #[.int .i64 (numP (c :: r)).1, .int .i64 (numP (c :: r)).2]) ∧ Below w.heap.size w w' := by
  have hemp : (mkB (c :: r)).toList.isEmpty = false := by rw [Lib.toList_data, mkB_data2]; rfl
  have HV : Hid (numP (c :: r) = quoP r) := hide (by rw [numP, if_pos hc])
  have hsz := mkB_cons_size c r
  obtain ⟨q, hq⟩ : ∃ q, mkB (c :: r) = q := ⟨_, rfl⟩
  rw [hq] at hemp hsz ⊢
  have hq0 : 0 < q.size := by omega
  have hi : (0 : Int) < (q.size : Int) := by omega
  have hcc : q[0] = c := by subst hq; rfl
  have hf : ((q[0].toNat : Int) == 39) = true ∨ (((q[0].toNat : Int) == 39) = false ∧ ((q[0].toNat : Int) == 34) = true) := by
    rcases hc with h | h
    · exact .inl (by rw [hcc, h]; rfl)
    · exact .inr ⟨by rw [hcc, h]; rfl, by rw [hcc, h]; rfl⟩
  by_cases h2 : q.size = 2
  · obtain ⟨x, rfl⟩ : ∃ x, r = [x] := by
      match r, hsz with
      | [x], _ => exact ⟨x, rfl⟩
      | [], h => simp at h; omega
      | _ :: _ :: _, h => simp at h; omega
    have hq1 : 1 < q.size := by omega
    have HX : Hid (q[1] = x) := hide (by subst hq; rfl)
    have e1 : (1 : Int) < (q.size : Int) := by omega
    have HW : Hid (wrap64 (q[1].toNat : Int) = (q[1].toNat : Int)) := hide (by have := q[1].toNat_lt; unfold wrap64; omega)
    have e2 : ((q.size : Int) == 2) = true := by simp; omega
    have e3 : (q.size : Int) = 2 := by omega
    clear hsz h2 hq hcc hc
    rcases hf with f1 | ⟨f1, f2⟩
    all_goals
      go_enter Tryz.func82, Tryz.ntmps82
      go_wp2_with fail
      go_ret2
      refine ⟨?_, Below.refl _ _⟩
      rw [HV.out, ← HX.out]
      show Ending.returned (.tuple #[Value.int .i64 (wrap64 (q[1].toNat : Int)), Value.int .i64 0]) = _
      rw [HW.out]
      rfl
  · have e2 : ((q.size : Int) == 2) = false := by simp; omega
    have e3 : ¬ (q.size : Int) = 2 := by omega
    have HV2 : Hid (numP (c :: r) = (0, 5)) := hide (by
      rw [HV.out]
      match r, hsz with
      | [x], h => simp at h; omega
      | [], _ => rfl
      | _ :: _ :: _, _ => rfl)
    clear hsz h2 hq hcc hc
    rcases hf with f1 | ⟨f1, f2⟩
    all_goals
      go_enter Tryz.func82, Tryz.ntmps82
      go_wp2_with fail
      go_ret2
      exact ⟨by rw [HV2.out]; rfl, Below.refl _ _⟩
end Go.Proofs.YtifpmigghplmoaaGreatDoor
