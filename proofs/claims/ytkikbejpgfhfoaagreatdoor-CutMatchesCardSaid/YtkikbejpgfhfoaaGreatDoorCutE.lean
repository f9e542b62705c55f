/- What refuses a cut: the program's and the reference's walks. -/
import Derived.Test.YtkikbejpgfhfoaaGreatDoorCutW
import Derived.Test.YtkikbejpgfhfoaaGreatDoorValid
import Derived.Test.YtkikbejpgfhfoaaGreatDoorInB
set_option linter.unusedVariables false
set_option linter.unusedSimpArgs false
namespace Go.Proofs.YtkikbejpgfhfoaaGreatDoor
open Go.RowKit Go.Pw
theorem containsNlC_any (s : ByteArray) (w : World) : Calls Tryz.prog 37 #[.string s, .string ⟨#[10]⟩] w fun e w' => e = .returned (.bool (nlC s)) ∧ w = w' :=
  (Tryz.strings_Contains_one s 10 w).mono fun e w' ⟨h1, h2⟩ => ⟨h1, h2.symm⟩
set_option maxHeartbeats 4000000 in
set_option maxRecDepth 100000 in
theorem cutter_any (c : Ct) (rv : Value) (w : World) (h : RngIn w rv c.ranges) :
    Calls Tryz.prog 34 #[ctV c rv] w fun e w' => e = .returned (.int .i64 (cutErr c)) ∧ Below w.heap.size w w' := by
  obtain ⟨_, A, cap, rfl, hcap, hmax, hx⟩ := h
  unfold maxLen at hmax
  have HX := hide hx
  have hb1 := (Below.refl w.heap.size w).alloc (Nat.le_refl _) (.cells #[.bool c.fields, .slice A c.ranges.length cap, .bool c.compl, .string c.sep, .bool c.only, .string c.betw] 43)
  have n1 : CtIn (w.alloc (.cells #[.bool c.fields, .slice A c.ranges.length cap, .bool c.compl, .string c.sep, .bool c.only, .string c.betw] 43)) w.heap.size 43 c (.slice A c.ranges.length cap) := heap_alloc_new _ _
  obtain ⟨W1, hW1⟩ : ∃ W1, w.alloc (.cells #[.bool c.fields, .slice A c.ranges.length cap, .bool c.compl, .string c.sep, .bool c.only, .string c.betw] 43) = W1 := ⟨_, rfl⟩
  rw [hW1] at hb1 n1
  have HB1 := hide hb1
  have HN1 := hide n1
  have HW1 := hide hW1
  obtain ⟨d0, d1, d2, d3, d4, d5⟩ := n1.cells
  clear hx hb1 n1
  unfold ctV
  by_cases h0 : c.ranges.length = 0
  · have HV : Hid (cutErr c = 23) := hide (by unfold cutErr; rw [if_pos h0])
    have hd : ((c.ranges.length : Int) == 0) = true := by simp [h0]
    clear h0 hW1
    go_enter Tryz.func34, Tryz.ntmps34
    go_wp2_with fail
    go_ret
    exact ⟨by rw [HV.out]; rfl, by rw [HW1.out]; exact HB1.out⟩
  · have hd : ((c.ranges.length : Int) == 0) = false := by simp [h0]
    by_cases h64 : 64 < c.ranges.length
    · have HV : Hid (cutErr c = 2) := hide (by unfold cutErr; rw [if_neg h0, if_pos h64])
      have hd2 : (64 : Int) < (c.ranges.length : Int) := by omega
      clear h0 hW1
      go_enter Tryz.func34, Tryz.ntmps34
      go_wp2_with fail
      go_ret
      exact ⟨by rw [HV.out]; rfl, by rw [HW1.out]; exact HB1.out⟩
    · have hd2 : ¬ ((64 : Int) < (c.ranges.length : Int)) := by omega
      have HER : Hid (cutErr c = if c.ranges.all rngOk then (if cform c then 5 else 0) else 3) := hide (by unfold cutErr; rw [if_neg h0, if_neg h64])
      have HLE : Hid (c.ranges.length ≤ 64) := hide (by omega)
      clear h0 h64
      go_enter Tryz.func34, Tryz.ntmps34
      go_wp2_with fail
      (try rw [hW1])
      clear hW1
      obtain ⟨rs, hrs⟩ : ∃ rs, c.ranges = rs := ⟨_, rfl⟩
      rw [hrs] at HX HN1 HER HLE hcap ⊢
      have HRS := hide hrs
      clear hrs
      go_loopw [18] (fun i wr => ∃ k : Nat, k ≤ rs.length ∧ i = .int .i64 (k : Int) ∧ Hid ((rs.take k).all rngOk = true) ∧ Hid (CtIn wr w.heap.size 43 c (.slice A rs.length cap)) ∧ Hid (Below w.heap.size w wr)) (fun i _ => rs.length - (intOf i).toNat)
      case atStart => exact ⟨0, by omega, rfl, hide rfl, HN1, HB1⟩
      case round =>
        clear d0 d1 d2 d3 d4 d5 hd hd2
        obtain ⟨k, hk, rfl, HS, HN, HB⟩ := hrel
        by_cases hlt : k < rs.length
        · obtain ⟨b, o, rfl, hb, hj⟩ := HX.out (by omega)
          obtain ⟨a1, a2⟩ := rngCells_at rs k rs[k] (List.getElem?_eq_getElem hlt)
          have c0 : wr.cell? ⟨b, o + k * 2, none⟩ = some (.int .i64 rs[k].1) := (HB.out.cell (p := ⟨b, o + k * 2, none⟩) hb).trans (hj _ _ a1)
          have c1 : wr.cell? ⟨b, o + k * 2 + 1, none⟩ = some (.int .i64 rs[k].2) := (HB.out.cell (p := ⟨b, o + k * 2 + 1, none⟩) hb).trans (hj (k * 2 + 1) _ a2)
          have HNX : Hid (rngOk rs[k] = true → (rs.take (k + 1)).all rngOk = true) := hide (fun h => by rw [List.take_succ_eq_append_getElem hlt, List.all_append, HS.out]; simpa using h)
          have HBAD : Hid (rngOk rs[k] = false → cutErr c = 3) := hide (fun h => by
            rw [HER.out]
            have : rs.all rngOk = false := by
              rw [Bool.eq_false_iff]
              intro h'
              have := List.all_eq_true.1 h' _ (List.getElem_mem hlt)
              rw [h] at this; cases this
            rw [this]; rfl)
          obtain ⟨r1, hr1⟩ : ∃ x, rs[k].1 = x := ⟨_, rfl⟩
          obtain ⟨r2, hr2⟩ : ∃ x, rs[k].2 = x := ⟨_, rfl⟩
          have he : rs[k] = (r1, r2) := by rw [← hr1, ← hr2]
          rw [hr1] at c0
          rw [hr2] at c1
          rw [he] at HNX HBAD
          have hal := (Below.refl wr.heap.size wr).alloc (Nat.le_refl _) (.cells #[.int .i64 r1, .int .i64 r2] 69)
          have HB2 := hide (HB.out.trans (hal.mono HB.out.size))
          have HN2 := hide (HN.out.below hal HN.out.lt)
          clear hj a1 a2 hr1 hr2 he hal
          have hd : (k : Int) < (rs.length : Int) := by omega
          have e0 : (wr.alloc (.cells #[.int .i64 r1, .int .i64 r2] 69)).cell? ⟨wr.heap.size, 0, none⟩ = some (.int .i64 r1) := by rw [World.cell?_alloc_new]; rfl
          have e1 : (wr.alloc (.cells #[.int .i64 r1, .int .i64 r2] 69)).cell? ⟨wr.heap.size, 1, none⟩ = some (.int .i64 r2) := by rw [World.cell?_alloc_new]; rfl
          cases ht1 : (decide (1 ≤ r1) && decide (r1 ≤ 4096))
          · skip
            have HV := hide (HBAD.out (by simp [rngOk, ht1]))
            clear HNX HBAD
            go_wp2_with fail
            refine (within_any _ _ _ _).mono ?_
            rintro e w' ⟨rfl, rfl⟩
            rw [ht1]
            go_wp2_with fail
            go_ret
            exact ⟨by rw [HV.out]; rfl, HB2.out⟩
          · cases h2 : (r2 != 0)
            · have h2' : (r2 == 0) = true := by simpa using h2
              have HOK := hide (HNX.out (by simp [rngOk, ht1, h2']))
              clear HNX HBAD
              go_wp2_with fail
              refine (within_any _ _ _ _).mono ?_
              rintro e w' ⟨rfl, rfl⟩
              rw [ht1]
              go_wp2_with fail
              go_roundw
              case rel => exact ⟨k + 1, by omega, by go_num, HOK, HN2, HB2⟩
              case measure => simp [intOf]; omega
            · have h2' : (r2 == 0) = false := by simpa using h2
              cases ht2 : (decide (r1 ≤ r2) && decide (r2 ≤ 4096))
              · skip
                have HV := hide (HBAD.out (by simp [rngOk, ht1, h2', ht2]))
                clear HNX HBAD
                go_wp2_with fail
                refine (within_any _ _ _ _).mono ?_
                rintro e w' ⟨rfl, rfl⟩
                rw [ht1]
                go_wp2_with fail
                refine (within_any _ _ _ _).mono ?_
                rintro e w' ⟨rfl, rfl⟩
                rw [ht2]
                go_wp2_with fail
                go_ret
                exact ⟨by rw [HV.out]; rfl, HB2.out⟩
              · skip
                have HOK := hide (HNX.out (by simp [rngOk, ht1, h2', ht2]))
                clear HNX HBAD
                go_wp2_with fail
                refine (within_any _ _ _ _).mono ?_
                rintro e w' ⟨rfl, rfl⟩
                rw [ht1]
                go_wp2_with fail
                refine (within_any _ _ _ _).mono ?_
                rintro e w' ⟨rfl, rfl⟩
                rw [ht2]
                go_wp2_with fail
                go_roundw
                case rel => exact ⟨k + 1, by omega, by go_num, HOK, HN2, HB2⟩
                case measure => simp [intOf]; omega
        · obtain rfl : k = rs.length := by omega
          have hd : ¬ ((rs.length : Int) < (rs.length : Int)) := by omega
          rw [List.take_length] at HS
          have HCE : Hid (cutErr c = if cform c then 5 else 0) := hide (by rw [HER.out, HS.out]; rfl)
          obtain ⟨d0, d1, d2, d3, d4, d5⟩ := HN.out.cells
          cases hf : c.fields
          · cases hem : c.sep.toList.isEmpty
            · skip
              have HV : Hid (cutErr c = 5) := hide (by rw [HCE.out]; simp [cform, hf, hem])
              clear HCE
              go_wp2_with fail
              go_ret
              exact ⟨by rw [HV.out]; rfl, HB.out⟩
            · skip
              go_wp2_with fail
              refine (containsNlC_any _ _).mono ?_
              rintro e w' ⟨rfl, rfl⟩
              cases hnb : nlC c.betw
              · by_cases hbig : (4096 : Int) < (c.betw.size : Int)
                · skip
                  have HV : Hid (cutErr c = 5) := hide (by rw [HCE.out]; simp [cform, hf, hem, hnb, hbig])
                  clear HCE
                  go_wp2_with fail
                  go_ret
                  exact ⟨by rw [HV.out]; rfl, HB.out⟩
                · skip
                  have HV : Hid (cutErr c = 0) := hide (by rw [HCE.out]; simp [cform, hf, hem, hnb, hbig])
                  clear HCE
                  go_wp2_with fail
                  go_ret
                  exact ⟨by rw [HV.out]; rfl, HB.out⟩
              · skip
                have HV : Hid (cutErr c = 5) := hide (by rw [HCE.out]; simp [cform, hf, hem, hnb])
                clear HCE
                go_wp2_with fail
                go_ret
                exact ⟨by rw [HV.out]; rfl, HB.out⟩
          · cases hs1 : ((c.sep.size : Int) != 1)
            · cases hs2 : (c.sep.toList == [10])
              · skip
                go_wp2_with fail
                refine (containsNlC_any _ _).mono ?_
                rintro e w' ⟨rfl, rfl⟩
                cases hnb : nlC c.betw
                · by_cases hbig : (4096 : Int) < (c.betw.size : Int)
                  · skip
                    have HV : Hid (cutErr c = 5) := hide (by rw [HCE.out]; simp [cform, hf, hs1, hs2, hnb, hbig])
                    clear HCE
                    go_wp2_with fail
                    go_ret
                    exact ⟨by rw [HV.out]; rfl, HB.out⟩
                  · skip
                    have HV : Hid (cutErr c = 0) := hide (by rw [HCE.out]; simp [cform, hf, hs1, hs2, hnb, hbig])
                    clear HCE
                    go_wp2_with fail
                    go_ret
                    exact ⟨by rw [HV.out]; rfl, HB.out⟩
                · skip
                  have HV : Hid (cutErr c = 5) := hide (by rw [HCE.out]; simp [cform, hf, hs1, hs2, hnb])
                  clear HCE
                  go_wp2_with fail
                  go_ret
                  exact ⟨by rw [HV.out]; rfl, HB.out⟩
              · skip
                have HV : Hid (cutErr c = 5) := hide (by rw [HCE.out]; simp [cform, hf, hs1, hs2])
                clear HCE
                go_wp2_with fail
                go_ret
                exact ⟨by rw [HV.out]; rfl, HB.out⟩
            · skip
              have HV : Hid (cutErr c = 5) := hide (by rw [HCE.out]; simp [cform, hf, hs1])
              clear HCE
              go_wp2_with fail
              go_ret
              exact ⟨by rw [HV.out]; rfl, HB.out⟩
theorem inNl_any (s : ByteArray) (w : World) (hs : s.size ≤ maxLen) :
    Calls Tryz.prog 42 #[.string s, .int .u8 10] w fun e w' => e = .returned (.bool (nlC s)) ∧ w = w' := inIx_any s 10 10 w hs rfl
set_option maxHeartbeats 4000000 in
set_option maxRecDepth 100000 in
theorem cutErrorR_any (c : Ct) (rv : Value) (w : World) (h : RngIn w rv c.ranges) (hbw : c.betw.size ≤ 9223372036854775807) :
    Calls Tryz.prog 18 #[ctV c rv] w fun e w' => e = .returned (.int .i64 (cutErr c)) ∧ Below w.heap.size w w' := by
  obtain ⟨_, A, cap, rfl, hcap, hmax, hx⟩ := h
  unfold maxLen at hmax
  have HX := hide hx
  have hb1 := (Below.refl w.heap.size w).alloc (Nat.le_refl _) (.cells #[.bool c.fields, .slice A c.ranges.length cap, .bool c.compl, .string c.sep, .bool c.only, .string c.betw] 43)
  have n1 : CtIn (w.alloc (.cells #[.bool c.fields, .slice A c.ranges.length cap, .bool c.compl, .string c.sep, .bool c.only, .string c.betw] 43)) w.heap.size 43 c (.slice A c.ranges.length cap) := heap_alloc_new _ _
  obtain ⟨W1, hW1⟩ : ∃ W1, w.alloc (.cells #[.bool c.fields, .slice A c.ranges.length cap, .bool c.compl, .string c.sep, .bool c.only, .string c.betw] 43) = W1 := ⟨_, rfl⟩
  rw [hW1] at hb1 n1
  have HB1 := hide hb1
  have HN1 := hide n1
  have HW1 := hide hW1
  obtain ⟨d0, d1, d2, d3, d4, d5⟩ := n1.cells
  clear hx hb1 n1
  unfold ctV
  by_cases h0 : c.ranges.length = 0
  · have HV : Hid (cutErr c = 23) := hide (by unfold cutErr; rw [if_pos h0])
    have hd : ((c.ranges.length : Int) == 0) = true := by simp [h0]
    clear h0 hW1
    go_enter Tryz.func18, Tryz.ntmps18
    go_wp2_with fail
    go_ret
    exact ⟨by rw [HV.out]; rfl, by rw [HW1.out]; exact HB1.out⟩
  · have hd : ((c.ranges.length : Int) == 0) = false := by simp [h0]
    by_cases h64 : 64 < c.ranges.length
    · have HV : Hid (cutErr c = 2) := hide (by unfold cutErr; rw [if_neg h0, if_pos h64])
      have hd2 : (64 : Int) < (c.ranges.length : Int) := by omega
      clear h0 hW1
      go_enter Tryz.func18, Tryz.ntmps18
      go_wp2_with fail
      go_ret
      exact ⟨by rw [HV.out]; rfl, by rw [HW1.out]; exact HB1.out⟩
    · have hd2 : ¬ ((64 : Int) < (c.ranges.length : Int)) := by omega
      have HER : Hid (cutErr c = if c.ranges.all rngOk then (if cform c then 5 else 0) else 3) := hide (by unfold cutErr; rw [if_neg h0, if_neg h64])
      have HLE : Hid (c.ranges.length ≤ 64) := hide (by omega)
      clear h0 h64
      go_enter Tryz.func18, Tryz.ntmps18
      go_wp2_with fail
      (try rw [hW1])
      clear hW1
      obtain ⟨rs, hrs⟩ : ∃ rs, c.ranges = rs := ⟨_, rfl⟩
      rw [hrs] at HX HN1 HER HLE hcap ⊢
      have HRS := hide hrs
      clear hrs
      go_loopw [16] (fun i wr => ∃ k : Nat, k ≤ rs.length ∧ i = .int .i64 (k : Int) ∧ Hid ((rs.take k).all rngOk = true) ∧ Hid (CtIn wr w.heap.size 43 c (.slice A rs.length cap)) ∧ Hid (Below w.heap.size w wr)) (fun i _ => rs.length - (intOf i).toNat)
      case atStart => exact ⟨0, by omega, rfl, hide rfl, HN1, HB1⟩
      case round =>
        clear d0 d1 d2 d3 d4 d5 hd hd2
        obtain ⟨k, hk, rfl, HS, HN, HB⟩ := hrel
        by_cases hlt : k < rs.length
        · obtain ⟨b, o, rfl, hb, hj⟩ := HX.out (by omega)
          obtain ⟨a1, a2⟩ := rngCells_at rs k rs[k] (List.getElem?_eq_getElem hlt)
          have c0 : wr.cell? ⟨b, o + k * 2, none⟩ = some (.int .i64 rs[k].1) := (HB.out.cell (p := ⟨b, o + k * 2, none⟩) hb).trans (hj _ _ a1)
          have c1 : wr.cell? ⟨b, o + k * 2 + 1, none⟩ = some (.int .i64 rs[k].2) := (HB.out.cell (p := ⟨b, o + k * 2 + 1, none⟩) hb).trans (hj (k * 2 + 1) _ a2)
          have HNX : Hid (rngOk rs[k] = true → (rs.take (k + 1)).all rngOk = true) := hide (fun h => by rw [List.take_succ_eq_append_getElem hlt, List.all_append, HS.out]; simpa using h)
          have HBAD : Hid (rngOk rs[k] = false → cutErr c = 3) := hide (fun h => by
            rw [HER.out]
            have : rs.all rngOk = false := by
              rw [Bool.eq_false_iff]
              intro h'
              have := List.all_eq_true.1 h' _ (List.getElem_mem hlt)
              rw [h] at this; cases this
            rw [this]; rfl)
          obtain ⟨r1, hr1⟩ : ∃ x, rs[k].1 = x := ⟨_, rfl⟩
          obtain ⟨r2, hr2⟩ : ∃ x, rs[k].2 = x := ⟨_, rfl⟩
          have he : rs[k] = (r1, r2) := by rw [← hr1, ← hr2]
          rw [hr1] at c0
          rw [hr2] at c1
          rw [he] at HNX HBAD
          have hal := (Below.refl wr.heap.size wr).alloc (Nat.le_refl _) (.cells #[.int .i64 r1, .int .i64 r2] 69)
          have HB2 := hide (HB.out.trans (hal.mono HB.out.size))
          have HN2 := hide (HN.out.below hal HN.out.lt)
          clear hj a1 a2 hr1 hr2 he hal
          have hd : (k : Int) < (rs.length : Int) := by omega
          have e0 : (wr.alloc (.cells #[.int .i64 r1, .int .i64 r2] 69)).cell? ⟨wr.heap.size, 0, none⟩ = some (.int .i64 r1) := by rw [World.cell?_alloc_new]; rfl
          have e1 : (wr.alloc (.cells #[.int .i64 r1, .int .i64 r2] 69)).cell? ⟨wr.heap.size, 1, none⟩ = some (.int .i64 r2) := by rw [World.cell?_alloc_new]; rfl
          by_cases g1 : r1 < 1
          · skip
            have HV := hide (HBAD.out (by simp [rngOk, show ¬ (1 ≤ r1) by omega]))
            clear HNX HBAD
            go_wp2_with fail
            go_ret
            exact ⟨by rw [HV.out]; rfl, HB2.out⟩
          · by_cases g2 : (4096 : Int) < r1
            · skip
              have HV := hide (HBAD.out (by simp [rngOk, show ¬ (r1 ≤ 4096) by omega]))
              clear HNX HBAD
              go_wp2_with fail
              go_ret
              exact ⟨by rw [HV.out]; rfl, HB2.out⟩
            · cases h2 : (r2 != 0)
              · have h2' : r2 = 0 := by simpa using h2
                subst h2'
                have HOK := hide (HNX.out (by simp [rngOk, show 1 ≤ r1 by omega, show r1 ≤ 4096 by omega]))
                clear HNX HBAD
                go_wp2_with fail
                go_roundw
                case rel => exact ⟨k + 1, by omega, by go_num, HOK, HN2, HB2⟩
                case measure => simp [intOf]; omega
              · have h2' : (r2 == 0) = false := by simpa using h2
                by_cases g3 : r2 < r1
                · skip
                  have HV := hide (HBAD.out (by simp [rngOk, h2', show ¬ (r1 ≤ r2) by omega]))
                  clear HNX HBAD
                  go_wp2_with fail
                  go_ret
                  exact ⟨by rw [HV.out]; rfl, HB2.out⟩
                · by_cases g4 : (4096 : Int) < r2
                  · skip
                    have HV := hide (HBAD.out (by simp [rngOk, h2', show ¬ (r2 ≤ 4096) by omega]))
                    clear HNX HBAD
                    go_wp2_with fail
                    go_ret
                    exact ⟨by rw [HV.out]; rfl, HB2.out⟩
                  · skip
                    have HOK := hide (HNX.out (by simp [rngOk, show 1 ≤ r1 by omega, show r1 ≤ 4096 by omega, h2', show r1 ≤ r2 by omega, show r2 ≤ 4096 by omega]))
                    clear HNX HBAD
                    go_wp2_with fail
                    go_roundw
                    case rel => exact ⟨k + 1, by omega, by go_num, HOK, HN2, HB2⟩
                    case measure => simp [intOf]; omega
        · obtain rfl : k = rs.length := by omega
          have hd : ¬ ((rs.length : Int) < (rs.length : Int)) := by omega
          rw [List.take_length] at HS
          have HCE : Hid (cutErr c = if cform c then 5 else 0) := hide (by rw [HER.out, HS.out]; rfl)
          obtain ⟨d0, d1, d2, d3, d4, d5⟩ := HN.out.cells
          cases hf : c.fields
          · cases hem : c.sep.toList.isEmpty
            · skip
              have HV : Hid (cutErr c = 5) := hide (by rw [HCE.out]; simp [cform, hf, hem])
              clear HCE
              go_wp2_with fail
              go_ret
              exact ⟨by rw [HV.out]; rfl, HB.out⟩
            · skip
              go_wp2_with fail
              refine (inNl_any _ _ (by unfold maxLen; omega)).mono ?_
              rintro e w' ⟨rfl, rfl⟩
              cases hnb : nlC c.betw
              · by_cases hbig : (4096 : Int) < (c.betw.size : Int)
                · skip
                  have HV : Hid (cutErr c = 5) := hide (by rw [HCE.out]; simp [cform, hf, hem, hnb, hbig])
                  clear HCE
                  go_wp2_with fail
                  go_ret
                  exact ⟨by rw [HV.out]; rfl, HB.out⟩
                · skip
                  have HV : Hid (cutErr c = 0) := hide (by rw [HCE.out]; simp [cform, hf, hem, hnb, hbig])
                  clear HCE
                  go_wp2_with fail
                  go_ret
                  exact ⟨by rw [HV.out]; rfl, HB.out⟩
              · skip
                have HV : Hid (cutErr c = 5) := hide (by rw [HCE.out]; simp [cform, hf, hem, hnb])
                clear HCE
                go_wp2_with fail
                go_ret
                exact ⟨by rw [HV.out]; rfl, HB.out⟩
          · cases hs1 : ((c.sep.size : Int) != 1)
            · cases hs2 : (c.sep.toList == [10])
              · skip
                go_wp2_with fail
                refine (inNl_any _ _ (by unfold maxLen; omega)).mono ?_
                rintro e w' ⟨rfl, rfl⟩
                cases hnb : nlC c.betw
                · by_cases hbig : (4096 : Int) < (c.betw.size : Int)
                  · skip
                    have HV : Hid (cutErr c = 5) := hide (by rw [HCE.out]; simp [cform, hf, hs1, hs2, hnb, hbig])
                    clear HCE
                    go_wp2_with fail
                    go_ret
                    exact ⟨by rw [HV.out]; rfl, HB.out⟩
                  · skip
                    have HV : Hid (cutErr c = 0) := hide (by rw [HCE.out]; simp [cform, hf, hs1, hs2, hnb, hbig])
                    clear HCE
                    go_wp2_with fail
                    go_ret
                    exact ⟨by rw [HV.out]; rfl, HB.out⟩
                · skip
                  have HV : Hid (cutErr c = 5) := hide (by rw [HCE.out]; simp [cform, hf, hs1, hs2, hnb])
                  clear HCE
                  go_wp2_with fail
                  go_ret
                  exact ⟨by rw [HV.out]; rfl, HB.out⟩
              · skip
                have HV : Hid (cutErr c = 5) := hide (by rw [HCE.out]; simp [cform, hf, hs1, hs2])
                clear HCE
                go_wp2_with fail
                go_ret
                exact ⟨by rw [HV.out]; rfl, HB.out⟩
            · skip
              have HV : Hid (cutErr c = 5) := hide (by rw [HCE.out]; simp [cform, hf, hs1])
              clear HCE
              go_wp2_with fail
              go_ret
              exact ⟨by rw [HV.out]; rfl, HB.out⟩
end Go.Proofs.YtkikbejpgfhfoaaGreatDoor
