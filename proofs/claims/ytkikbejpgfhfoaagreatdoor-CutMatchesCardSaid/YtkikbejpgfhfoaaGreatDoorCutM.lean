/- The law CutMatches: the walk. -/
import Derived.Test.YtkikbejpgfhfoaaGreatDoorCutT
import Derived.Test.YtkikbejpgfhfoaaGreatDoorCutF
import Derived.Test.YtkikbejpgfhfoaaGreatDoorLawK2
set_option linter.unusedVariables false
set_option linter.unusedSimpArgs false
namespace Go.Proofs.YtkikbejpgfhfoaaGreatDoor
open Go.RowKit Go.Pw
theorem rd_two_c (w : World) (x y : Int) (t : TypeId) : Rd (w.alloc (.cells #[.int .i64 x, .int .i64 y] t)) 1 (.slice (some ⟨w.heap.size, 0, none⟩) 2 2) 2 ([x, y].map (Value.int .i64)) := by
  refine ⟨rfl, _, _, rfl, Nat.le_refl _, by unfold maxLen; omega, fun _ => ⟨w.heap.size, 0, rfl, by simp, fun j u hu => ?_⟩⟩
  rw [World.cell?_alloc_new]
  simpa using hu
theorem firstTwoC_any (w : World) (x y : Int) : Calls Tryz.prog 6 #[.slice (some ⟨w.heap.size, 0, none⟩) 2 2] (w.alloc (.cells #[.int .i64 x, .int .i64 y] 26)) fun e w' => e = .returned (.int .i64 (firstNZ [x, y])) ∧ w' = w.alloc (.cells #[.int .i64 x, .int .i64 y] 26) :=
  (first_any _ [x, y] _ (rd_two_c w x y _)).mono fun e w' ⟨h1, h2⟩ => ⟨h1, h2.symm⟩
theorem briefC_any (s : ByteArray) (w : World) : Calls Tryz.prog 11 #[.string s] w fun e w' => e = .returned (.bool (decide (s.size ≤ 3000))) ∧ w = w' := by
  go_enter Tryz.func11, Tryz.ntmps11
  go_wp2_with fail
  go_ret
  exact ⟨ret_bool (decide_eq_decide.2 (by omega)), rfl⟩
theorem largeC_any (s : ByteArray) (w : World) (hs : s.size ≤ maxLen) : Calls Tryz.prog 9 #[.slice (some ⟨w.heap.size, 0, none⟩) 1 1] (w.alloc (.cells #[.string s] 9)) fun e w' => e = .returned (.int .i64 (if bigB s then 2 else 0)) ∧ Below w.heap.size w w' :=
  (largeL_any _ [s] _ (strs_one w s 9 hs)).mono fun e w' ⟨h1, h2⟩ => ⟨by rw [h1]; simp, ((Below.refl _ _).alloc (Nat.le_refl _) _).trans (h2.mono (by simp))⟩
set_option maxHeartbeats 2000000 in
set_option maxRecDepth 100000 in
theorem cutMatches_bad (c : Ct) (rv : Value) (s : ByteArray) (n : Int) (w : World) (h : RngIn w rv c.ranges) (hbw : c.betw.size ≤ maxLen) (hs : s.size ≤ maxLen) (hn : n ≠ 0) (he : cutErr2 c s = n) :
    Calls Tryz.prog 4 #[ctV c rv, .string s] w fun e w' => e = .returned (.bool true) ∧ Below w.heap.size w w' := by
  obtain ⟨A, cap, rfl⟩ : ∃ A cap, rv = .slice A c.ranges.length cap := by
    obtain ⟨_, A, cap, h, _⟩ := h
    exact ⟨A, cap, h⟩
  have hb1 := (Below.refl w.heap.size w).alloc (Nat.le_refl _) (.cells #[.bool c.fields, .slice A c.ranges.length cap, .bool c.compl, .string c.sep, .bool c.only, .string c.betw] 43)
  have n1 : CtIn (w.alloc (.cells #[.bool c.fields, .slice A c.ranges.length cap, .bool c.compl, .string c.sep, .bool c.only, .string c.betw] 43)) w.heap.size 43 c (.slice A c.ranges.length cap) := heap_alloc_new _ _
  obtain ⟨W1, hW1⟩ : ∃ W1, w.alloc (.cells #[.bool c.fields, .slice A c.ranges.length cap, .bool c.compl, .string c.sep, .bool c.only, .string c.betw] 43) = W1 := ⟨_, rfl⟩
  rw [hW1] at hb1 n1
  have HB1 := hide hb1
  have HN1 := hide n1
  have HF := hide (fun W (hb : Below w.heap.size w W) => cut_bad c (.slice A c.ranges.length cap) s n W (h.below hb) hs hn he)
  have HCE := hide (fun W (hb : Below w.heap.size w W) => cutErrorR_any c (.slice A c.ranges.length cap) W (h.below hb) (by unfold maxLen at hbw; omega))
  have HLG := hide (fun W => largeC_any s W hs)
  have HE : Hid (firstNZ [cutErr c, if bigB s then 2 else 0] = n) := hide he
  have HN := hide hn
  have hnb : (n != 0) = true := by simpa using hn
  obtain ⟨x1, hx1⟩ : ∃ x, cutErr c = x := ⟨_, rfl⟩
  rw [hx1] at HE HCE
  obtain ⟨x2, hx2⟩ : ∃ x : Int, (if bigB s then 2 else 0) = x := ⟨_, rfl⟩
  rw [hx2] at HE HLG
  obtain ⟨d0, d1, d2, d3, d4, d5⟩ := n1.cells
  unfold ctV at HF HCE ⊢
  clear hb1 n1 h he hn hx1 hx2
  go_enter Tryz.func4, Tryz.ntmps4
  go_wp2_with fail
  (try rw [hW1])
  clear hW1
  refine (HF.out _ HB1.out).mono ?_
  rintro e w1 ⟨rfl, hb1⟩
  have HB2 := hide (HB1.out.trans (hb1.mono HB1.out.size))
  have HN2 := hide (HN1.out.below hb1 HN1.out.lt)
  clear hb1 d0 d1 d2 d3 d4 d5
  obtain ⟨d0, d1, d2, d3, d4, d5⟩ := HN2.out.cells
  go_wp2_with fail
  refine (HCE.out _ HB2.out).mono ?_
  rintro e w2 ⟨rfl, hb2⟩
  have HB3 := hide (HB2.out.trans (hb2.mono HB2.out.size))
  clear hb2 d0 d1 d2 d3 d4 d5
  go_wp2_with fail
  refine (HLG.out _).mono ?_
  rintro e w3 ⟨rfl, hb3⟩
  have HB4 := hide (HB3.out.trans (hb3.mono HB3.out.size))
  clear hb3
  go_wp2_with fail
  refine (firstTwoC_any _ _ _).mono ?_
  rintro e w4 ⟨rfl, rfl⟩
  rw [HE.out]
  have HB5 := hide (HB4.out.alloc HB4.out.size (.cells #[.int .i64 x1, .int .i64 x2] 26))
  obtain ⟨W3, hW3⟩ : ∃ W3, w3.alloc (.cells #[.int .i64 x1, .int .i64 x2] 26) = W3 := ⟨_, rfl⟩
  rw [hW3] at HB5 ⊢
  clear hW3
  go_wp2_with fail
  refine (sorts_any _).mono ?_
  rintro e w5 ⟨rfl, hb5⟩
  have HB6 := hide (HB5.out.trans (hb5.mono HB5.out.size))
  clear hb5
  go_wp2_with fail
  refine (outcome_bad _ _ _ HN.out).mono ?_
  rintro e w' ⟨rfl, rfl⟩
  go_wp2_with fail
  go_ret
  exact ⟨rfl, HB6.out⟩
set_option maxHeartbeats 4000000 in
set_option maxRecDepth 100000 in
theorem cutMatches_good (c : Ct) (rv : Value) (s : ByteArray) (w : World) (h : RngIn w rv c.ranges) (he : cutErr c = 0) (hb : bigB s = false) :
    Calls Tryz.prog 4 #[ctV c rv, .string s] w fun e w' => e = .returned (.bool true) ∧ Below w.heap.size w w' := by
  obtain ⟨A, cap, rfl⟩ : ∃ A cap, rv = .slice A c.ranges.length cap := by
    obtain ⟨_, A, cap, h, _⟩ := h
    exact ⟨A, cap, h⟩
  have hb1 := (Below.refl w.heap.size w).alloc (Nat.le_refl _) (.cells #[.bool c.fields, .slice A c.ranges.length cap, .bool c.compl, .string c.sep, .bool c.only, .string c.betw] 43)
  have n1 : CtIn (w.alloc (.cells #[.bool c.fields, .slice A c.ranges.length cap, .bool c.compl, .string c.sep, .bool c.only, .string c.betw] 43)) w.heap.size 43 c (.slice A c.ranges.length cap) := heap_alloc_new _ _
  obtain ⟨W1, hW1⟩ : ∃ W1, w.alloc (.cells #[.bool c.fields, .slice A c.ranges.length cap, .bool c.compl, .string c.sep, .bool c.only, .string c.betw] 43) = W1 := ⟨_, rfl⟩
  rw [hW1] at hb1 n1
  have HB1 := hide hb1
  have HN1 := hide n1
  obtain ⟨hr64, hsp, hbw⟩ := cutErr_zero he
  have hlt0 := n1.lt
  have h1 := (linesOf_bound s).2
  have hbg := hb
  unfold bigB at hbg
  simp at hbg
  have hls : ∀ x ∈ linesOf s, x.size ≤ 65536 := fun x hx => by have := h1 x hx; omega
  have hln : (linesOf s).length ≤ 4096 := by omega
  have hsl := sumL_lines s
  have HF := hide (fun W (hW : Below w.heap.size w W) => cut_good c (.slice A c.ranges.length cap) s W (h.below hW) he hb)
  have HCE := hide (fun W (hW : Below w.heap.size w W) => cutErrorR_any c (.slice A c.ranges.length cap) W (h.below hW) (by omega))
  have HCL := hide (fun (y : ByteArray) W (hW : Below w.heap.size w W) (hy : y.size ≤ 65536) => cutLineR_any c (.slice A c.ranges.length cap) y W (h.below hW) (by omega) hy hbw hsp)
  have HLG := hide (fun W => largeC_any s W (by unfold maxLen; omega))
  simp only [he] at HCE
  simp only [hb] at HLG
  have HLI := hide (fun W => linesOf_any s W (by omega))
  have hrb := cutLs_sum c (linesOf s)
  have hrm : sumL (linesOf s) * (c.betw.size + 2) ≤ 65537 * 4098 := Nat.mul_le_mul (by omega) (by omega)
  have HRL : Hid ((resL (cutLs c (linesOf s))).length ≤ 1000000000) := hide (by rw [resL_len]; omega)
  have HLS := hide hls
  obtain ⟨L, hL⟩ : ∃ L, linesOf s = L := ⟨_, rfl⟩
  rw [hL] at HLI HRL HLS hln HF
  have HCZ : Hid (∀ x ∈ cutLs c L, x.size ≤ maxLen) := hide (fun y hy => by
    unfold cutLs at hy
    obtain ⟨x, hx, hxy⟩ := List.mem_filterMap.1 hy
    have h1 := cutLine_size hxy
    have h2 := HLS.out x hx
    have h3 : (x.size + 1) * (c.betw.size + 1) ≤ 65537 * 4097 := Nat.mul_le_mul (by omega) (by omega)
    unfold maxLen; omega)
  obtain ⟨T, hT⟩ : ∃ T, mkB (resL (cutLs c L)) = T := ⟨_, rfl⟩
  rw [hT] at HF
  have HTT := hide hT
  obtain ⟨d0, d1, d2, d3, d4, d5⟩ := n1.cells
  unfold ctV at HF HCE HCL ⊢
  clear hb1 n1 h he hb hbg h1 hls hsl hrb hrm hL hT
  go_enter Tryz.func4, Tryz.ntmps4
  go_wp2_with fail
  (try rw [hW1])
  clear hW1
  refine (HF.out _ HB1.out).mono ?_
  rintro e w1 ⟨rfl, hb1⟩
  have HB2 := hide (HB1.out.trans (hb1.mono HB1.out.size))
  have HN2 := hide (HN1.out.below hb1 HN1.out.lt)
  clear hb1 d0 d1 d2 d3 d4 d5
  obtain ⟨d0, d1, d2, d3, d4, d5⟩ := HN2.out.cells
  go_wp2_with fail
  refine (HCE.out _ HB2.out).mono ?_
  rintro e w2 ⟨rfl, hb2⟩
  have HB3 := hide (HB2.out.trans (hb2.mono HB2.out.size))
  have HN3 := hide (HN2.out.below hb2 HN2.out.lt)
  clear hb2 d0 d1 d2 d3 d4 d5
  go_wp2_with fail
  refine (HLG.out _).mono ?_
  rintro e w3 ⟨rfl, hb3⟩
  have HB4 := hide (HB3.out.trans (hb3.mono HB3.out.size))
  have HN4 := hide (HN3.out.below hb3 HN3.out.lt)
  clear hb3
  go_wp2_with fail
  refine (firstTwoC_any _ _ _).mono ?_
  rintro e w4 ⟨rfl, rfl⟩
  have e00 : firstNZ [(0 : Int), 0] = 0 := rfl
  rw [e00]
  have hal := (Below.refl w3.heap.size w3).alloc (Nat.le_refl _) (.cells #[.int .i64 0, .int .i64 0] 26)
  have HB5 := hide (HB4.out.trans (hal.mono HB4.out.size))
  have HN5 := hide (HN4.out.below hal HN4.out.lt)
  obtain ⟨W3, hW3⟩ : ∃ W3, w3.alloc (.cells #[.int .i64 0, .int .i64 0] 26) = W3 := ⟨_, rfl⟩
  rw [hW3] at HB5 HN5 ⊢
  clear hW3 hal e00
  go_wp2_with fail
  refine (briefC_any _ _).mono ?_
  rintro e w' ⟨rfl, rfl⟩
  cases hbr : decide (s.size ≤ 3000)
  · clear hbr
    go_wp2_with fail
    refine (sorts_any _).mono ?_
    rintro e w4 ⟨rfl, hb4⟩
    have HB6 := hide (HB5.out.trans (hb4.mono HB5.out.size))
    clear hb4
    go_wp2_with fail
    refine (outcome_good _ _).mono ?_
    rintro e w' ⟨rfl, rfl⟩
    go_wp2_with fail
    go_ret
    exact ⟨rfl, HB6.out⟩
  · clear hbr
    go_wp2_with fail
    refine (HLI.out _).mono ?_
    rintro e w4 ⟨v, rfl, ho4, hb4⟩
    have HB6 := hide (HB5.out.trans (hb4.mono HB5.out.size))
    have HN6 := hide (HN5.out.below hb4 HN5.out.lt)
    have HV := hide (ho4.strs (fun x hx => by have := HLS.out x hx; unfold maxLen; omega))
    clear hb4 ho4
    obtain ⟨⟨_, LA, lc, rfl, hcap, hmax, hx⟩, _⟩ := HV.out
    have HX := hide hx
    clear hx HV
    unfold maxLen at hmax
    go_wp2_with fail
    go_loopw [8, 44] (fun v i wr => ∃ k : Nat, k ≤ L.length ∧ i = .int .i64 (k : Int) ∧ Hid (OwnS 9 wr w4.heap.size v (cutLs c (L.take k))) ∧ Hid (Below w4.heap.size w4 wr)) (fun _ i _ => L.length - (intOf i).toNat)
    case atStart => exact ⟨0, by omega, rfl, World.ownsRow_nil _ _ _ _, Below.refl _ _⟩
    case round =>
      obtain ⟨k, hk, rfl, HO0, HB0⟩ := hrel
      obtain ⟨OA, oc, rfl⟩ := own_slice HO0.out
      have HN0 := hide (HN6.out.below HB0.out HN6.out.lt)
      by_cases hlt : k < L.length
      · obtain ⟨b3, o3, rfl, hb3, hj3⟩ := HX.out (by omega)
        have hc : wr.cell? ⟨b3, o3 + k, none⟩ = some (.string L[k]) := (HB0.out.cell (p := ⟨b3, o3 + k, none⟩) hb3).trans (hj3 k _ (by simp [hlt]))
        have HNX := hide (cutLs_next (c := c) hlt)
        have hyz : L[k].size ≤ 65536 := HLS.out _ (List.getElem_mem hlt)
        have hdl : (cutLs c (L.take k)).length ≤ k := Nat.le_trans (cutLs_len c _) (by rw [List.length_take]; omega)
        obtain ⟨D, hD⟩ : ∃ D, cutLs c (L.take k) = D := ⟨_, rfl⟩
        obtain ⟨y, hy⟩ : ∃ y, L[k] = y := ⟨_, rfl⟩
        rw [hD] at HO0 HNX hdl ⊢
        rw [hy] at hc HNX hyz
        clear hj3 hD hy
        have hd4 : (k : Int) < (L.length : Int) := by omega
        obtain ⟨d0, d1, d2, d3, d4, d5⟩ := HN0.out.cells
        have HCY := hide (HCL.out y wr (HB6.out.trans (HB0.out.mono HB6.out.size)) hyz)
        go_wp2_with fail
        refine HCY.out.mono ?_
        rintro e w5 ⟨⟨u, b, rfl, hu⟩, hb5⟩
        have HU := hide hu
        have HO5 : Hid (OwnS 9 w5 w4.heap.size (.slice OA D.length oc) D) := hide (own_below HO0.out hb5)
        have HB7 := hide (HB0.out.trans (hb5.mono HB0.out.size))
        have hz5 := HB7.out.size
        clear hb5 hc hu HCY d0 d1 d2 d3 d4 d5
        cases b
        · have HNX2 : Hid (cutLs c (L.take (k + 1)) = D) := hide (by rw [HNX.out, HU.out]; simp)
          go_wp2_with fail
          go_roundw
          case rel => exact ⟨k + 1, by omega, by go_num, by rw [HNX2.out]; exact HO5, HB7⟩
          case measure => simp [intOf]; omega
        · have HNX2 : Hid (cutLs c (L.take (k + 1)) = D ++ [u]) := hide (by rw [HNX.out, HU.out]; rfl)
          go_wp2_with (at_builtin; refine wpList_app_one rfl _ _ rfl w4.heap.size _ _ rfl HO5.out rfl (by omega) hz5 ?_)
          intro A2 c2 w6 ho6 hb6
          have HO6 : Hid (OwnS 9 w6 w4.heap.size (.slice A2 (D.length + 1) c2) (cutLs c (L.take (k + 1)))) := hide (by rw [HNX2.out]; exact ho6)
          have HB8 := hide (HB7.out.trans hb6)
          clear ho6 hb6
          go_wp2_with fail
          go_roundw
          case rel => exact ⟨k + 1, by omega, by go_num, HO6, HB8⟩
          case measure => simp [intOf]; omega
      · obtain rfl : k = L.length := by omega
        have hd4 : ¬ ((L.length : Int) < (L.length : Int)) := by omega
        rw [List.take_length] at HO0 ⊢
        have HST := hide (OwnS.strs HO0.out HCZ.out)
        have HBX := hide (HB6.out.trans (HB0.out.mono HB6.out.size))
        go_wp2_with fail
        refine (sorts_any _).mono ?_
        rintro e w5 ⟨rfl, hb5⟩
        have HB7 := hide (HBX.out.trans (hb5.mono HBX.out.size))
        have HRS := hide (resultOf_any _ _ w5 (HST.out.below hb5) HRL.out)
        rw [HTT.out] at HRS
        clear hb5
        go_wp2_with fail
        refine HRS.out.mono ?_
        rintro e w' ⟨rfl, rfl⟩
        go_wp2_with fail
        refine (outcome_good _ _).mono ?_
        rintro e w' ⟨rfl, rfl⟩
        go_wp2_with fail
        go_ret
        exact ⟨rfl, HB7.out⟩
theorem cutMatches_any (c : Ct) (rv : Value) (s : ByteArray) (w : World) (h : RngIn w rv c.ranges) (hbw : c.betw.size ≤ maxLen) (hs : s.size ≤ maxLen) :
    Calls Tryz.prog 4 #[ctV c rv, .string s] w fun e w' => e = .returned (.bool true) ∧ Below w.heap.size w w' := by
  by_cases he : cutErr2 c s = 0
  · have h2 : cutErr c = 0 ∧ bigB s = false := by
      unfold cutErr2 at he
      by_cases h0 : cutErr c = 0
      · cases hb : bigB s
        · exact ⟨h0, rfl⟩
        · rw [h0, hb] at he
          simp [firstNZ] at he
      · simp [firstNZ, h0] at he
    exact cutMatches_good c rv s w h h2.1 h2.2
  · exact cutMatches_bad c rv s _ w h hbw hs he rfl
end Go.Proofs.YtkikbejpgfhfoaaGreatDoor
