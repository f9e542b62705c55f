/- The law PasteMatches: the walk. -/
import Derived.Test.YtkikbejpgfhfoaaDoorPasteG
import Derived.Test.YtkikbejpgfhfoaaDoorJoinW
import Derived.Test.YtkikbejpgfhfoaaDoorLawK2
import Derived.Test.YtkikbejpgfhfoaaDoorLawKit
import Derived.Test.YtkikbejpgfhfoaaDoorSorts
set_option linter.unusedVariables false
set_option linter.unusedSimpArgs false
namespace Go.Pw
open Go.RowKit
theorem rd_four (w : World) (x y z u : Int) (t : TypeId) : Rd (w.alloc (.cells #[.int .i64 x, .int .i64 y, .int .i64 z, .int .i64 u] t)) 1 (.slice (some ⟨w.heap.size, 0, none⟩) 4 4) 4 ([x, y, z, u].map (Value.int .i64)) := by
  refine ⟨rfl, _, _, rfl, Nat.le_refl _, by unfold maxLen; omega, fun _ => ⟨w.heap.size, 0, rfl, by simp, fun j u hu => ?_⟩⟩
  rw [World.cell?_alloc_new]
  simpa using hu
theorem sumB_mem {l : List ByteArray} {s : ByteArray} (h : s ∈ l) : s.size ≤ sumB l := by
  unfold sumB
  induction l with
  | nil => cases h
  | cons x l ih =>
    rw [List.map_cons, List.sum_cons]
    rcases List.mem_cons.1 h with rfl | h
    · omega
    · have := ih h; omega
theorem sumB_bound {l : List ByteArray} {M n : Nat} (h : ∀ s ∈ l, s.size ≤ M) (hn : l.length ≤ n) : sumB l ≤ n * M := by
  have : sumB l ≤ l.length * M := by
    unfold sumB
    clear hn
    induction l with
    | nil => simp
    | cons x l ih =>
      rw [List.map_cons, List.sum_cons, List.length_cons, Nat.add_mul]
      have h1 := h x (by simp)
      have h2 := ih (fun s hs => h s (List.mem_cons_of_mem x hs))
      omega
  exact Nat.le_trans this (Nat.mul_le_mul hn (Nat.le_refl _))
theorem pasteErr_zero {l : List ByteArray} {bt : ByteArray} (he : pasteErr l bt = 0) : l.length ≠ 0 ∧ l.length ≤ 16 ∧ nlP bt = false ∧ bt.size ≤ 16 ∧ l.any bigB = false := by
  unfold pasteErr at he
  simp only [firstNZ] at he
  by_cases a : l.length = 0
  · simp [a] at he
  · by_cases b : 16 < l.length
    · simp [a, b] at he
    · cases c : nlP bt
      · by_cases d : 16 < bt.size
        · simp [a, b, c, d] at he
        · cases e : l.any bigB
          · exact ⟨a, by omega, rfl, by omega, rfl⟩
          · simp [a, b, c, d, e] at he
      · simp [a, b, c] at he
theorem jnB_size (l : List ByteArray) : (jnB ⟨#[]⟩ l).size = sumB l := by
  unfold jnB
  rw [mkB_size, jnP_len _ _ _ (Nat.le_refl _), List.take_length, show (⟨#[]⟩ : ByteArray).size = 0 from rfl, Nat.zero_mul, Nat.add_zero]
end Go.Pw
namespace Go.Proofs.YtkikbejpgfhfoaaDoor
open Go.RowKit Go.Pw
theorem briefS_any (s : ByteArray) (w : World) : Calls Tryd.prog 23 #[.string s] w fun e w' => e = .returned (.bool (decide (s.size ≤ 3000))) ∧ w = w' := by
  go_enter Tryd.func23, Tryd.ntmps23
  go_wp2_with fail
  go_ret
  exact ⟨ret_bool (decide_eq_decide.2 (by omega)), rfl⟩
theorem firstFour_any (w : World) (x y z u : Int) : Calls Tryd.prog 14 #[.slice (some ⟨w.heap.size, 0, none⟩) 4 4] (w.alloc (.cells #[.int .i64 x, .int .i64 y, .int .i64 z, .int .i64 u] 25)) fun e w' => e = .returned (.int .i64 (firstNZ [x, y, z, u])) ∧ w' = w.alloc (.cells #[.int .i64 x, .int .i64 y, .int .i64 z, .int .i64 u] 25) :=
  (first_any _ [x, y, z, u] _ (rd_four w x y z u _)).mono fun e w' ⟨h1, h2⟩ => ⟨h1, h2.symm⟩
/-- the four errors as the law computes them -/
theorem pasteWhens (l : List ByteArray) (bt : ByteArray) : ∃ x1 x2 x3 x4 : Int, pasteErr l bt = firstNZ [x1, x2, x3, x4] ∧ (if l.any bigB then (2 : Int) else 0) = x4
    ∧ (∀ W, Calls Tryd.prog 16 #[.bool ((l.length : Int) == 0), .int .i64 23] W fun e w' => e = .returned (.int .i64 x1) ∧ W = w')
    ∧ (∀ W, Calls Tryd.prog 16 #[.bool (decide ((16 : Int) < (l.length : Int))), .int .i64 2] W fun e w' => e = .returned (.int .i64 x2) ∧ W = w')
    ∧ (nlP bt = true → x3 = 5) ∧ (nlP bt = false → ∀ W, Calls Tryd.prog 16 #[.bool (decide ((16 : Int) < (bt.size : Int))), .int .i64 5] W fun e w' => e = .returned (.int .i64 x3) ∧ W = w') := by
  refine ⟨_, _, _, _, rfl, rfl, fun W => ?_, fun W => ?_, fun h => ?_, fun h W => ?_⟩
  · refine (when_any _ _ W).mono fun e w' ⟨h1, h2⟩ => ⟨?_, h2⟩
    rw [h1]
    by_cases a : l.length = 0 <;> simp [a]
  · refine (when_any _ _ W).mono fun e w' ⟨h1, h2⟩ => ⟨?_, h2⟩
    rw [h1]
    by_cases a : 16 < l.length
    · have : (16 : Int) < (l.length : Int) := by omega
      simp [a, this]
    · have : ¬ (16 : Int) < (l.length : Int) := by omega
      simp [a, this]
  · rw [h]; rfl
  · refine (when_any _ _ W).mono fun e w' ⟨h1, h2⟩ => ⟨?_, h2⟩
    rw [h1, h]
    by_cases a : 16 < bt.size
    · have : (16 : Int) < (bt.size : Int) := by omega
      simp [a, this]
    · have : ¬ (16 : Int) < (bt.size : Int) := by omega
      simp [a, this]
set_option maxHeartbeats 2000000 in
set_option maxRecDepth 100000 in
theorem pasteMatches_bad (v : Value) (l : List ByteArray) (bt : ByteArray) (sr : Bool) (n : Int) (w : World) (h : Strs w v l) (hbt : bt.size ≤ maxLen) (hn : n ≠ 0) (he : pasteErr l bt = n) :
    Calls Tryd.prog 11 #[v, .string bt, .bool sr] w fun e w' => e = .returned (.bool true) ∧ Below w.heap.size w w' := by
  have HP := hide (paste_bad v l bt sr n w h hbt hn he)
  have HC := hide (fun W => containsNl_any bt W)
  have H0 := hide h
  have HLG := hide (fun W (hb : Below w.heap.size w W) => largeL_any v l W (H0.out.below hb))
  obtain ⟨⟨_, A, cap, rfl, hcap, hmax, hx⟩, hsz⟩ := h
  unfold maxLen at hmax hbt
  clear hx hsz
  have HN := hide hn
  have hnb : (n != 0) = true := by simpa using hn
  obtain ⟨x1, x2, x3, x4, e0, e4, g1, g2, g3, g3'⟩ := pasteWhens l bt
  rw [he] at e0
  simp only [e4] at HLG
  have HF := hide e0
  have HG1 := hide g1
  have HG2 := hide g2
  have HG3 := hide g3
  have HG4 := hide g3'
  clear e0 e4 g1 g2 g3 g3' hn he
  obtain ⟨c1, hc1⟩ : ∃ c, nlP bt = c := ⟨_, rfl⟩
  simp only [hc1] at HC HG3 HG4
  clear hc1
  go_enter Tryd.func11, Tryd.ntmps11
  go_wp2_with fail
  refine HP.out.mono ?_
  rintro e w1 ⟨rfl, hb1⟩
  have HB1 := hide hb1
  clear hb1
  go_wp2_with fail
  refine (HG1.out _).mono ?_
  rintro e w' ⟨rfl, rfl⟩
  go_wp2_with fail
  refine (HG2.out _).mono ?_
  rintro e w' ⟨rfl, rfl⟩
  go_wp2_with fail
  refine (HC.out _).mono ?_
  rintro e w' ⟨rfl, rfl⟩
  cases c1
  · go_wp2_with fail
    refine (HG4.out (by first | trivial | rfl) _).mono ?_
    rintro e w' ⟨rfl, rfl⟩
    go_wp2_with fail
    refine (HLG.out _ HB1.out).mono ?_
    rintro e w2 ⟨rfl, hb2⟩
    have HB2 := hide (HB1.out.trans (hb2.mono HB1.out.size))
    clear hb2
    go_wp2_with fail
    refine (firstFour_any _ _ _ _ _).mono ?_
    rintro e w3 ⟨rfl, rfl⟩
    rw [← HF.out]
    have HB3 := hide (HB2.out.alloc HB2.out.size (.cells #[.int .i64 x1, .int .i64 x2, .int .i64 x3, .int .i64 x4] 25))
    go_wp2_with fail
    refine (sorts_any _).mono ?_
    rintro e w4 ⟨rfl, hb4⟩
    have HB4 := hide (HB3.out.trans (hb4.mono HB3.out.size))
    clear hb4
    go_wp2_with fail
    refine (outcome_bad _ _ _ HN.out).mono ?_
    rintro e w' ⟨rfl, rfl⟩
    go_wp2_with fail
    go_ret
    exact ⟨rfl, HB4.out⟩
  · have hx3 := HG3.out (by first | trivial | rfl)
    subst hx3
    go_wp2_with fail
    refine (when_any _ _ _).mono ?_
    rintro e w' ⟨rfl, rfl⟩
    go_wp2_with fail
    refine (HLG.out _ HB1.out).mono ?_
    rintro e w2 ⟨rfl, hb2⟩
    have HB2 := hide (HB1.out.trans (hb2.mono HB1.out.size))
    clear hb2
    go_wp2_with fail
    refine (firstFour_any _ _ _ _ _).mono ?_
    rintro e w3 ⟨rfl, rfl⟩
    rw [← HF.out]
    have HB3 := hide (HB2.out.alloc HB2.out.size (.cells #[.int .i64 x1, .int .i64 x2, .int .i64 5, .int .i64 x4] 25))
    go_wp2_with fail
    refine (sorts_any _).mono ?_
    rintro e w4 ⟨rfl, hb4⟩
    have HB4 := hide (HB3.out.trans (hb4.mono HB3.out.size))
    clear hb4
    go_wp2_with fail
    refine (outcome_bad _ _ _ HN.out).mono ?_
    rintro e w' ⟨rfl, rfl⟩
    go_wp2_with fail
    go_ret
    exact ⟨rfl, HB4.out⟩
set_option maxHeartbeats 4000000 in
set_option maxRecDepth 100000 in
theorem pasteMatches_good (v : Value) (l : List ByteArray) (bt : ByteArray) (sr : Bool) (w : World) (h : Strs w v l) (he : pasteErr l bt = 0) :
    Calls Tryd.prog 11 #[v, .string bt, .bool sr] w fun e w' => e = .returned (.bool true) ∧ Below w.heap.size w w' := by
  have HP := hide (paste_good v l bt sr w h he)
  obtain ⟨p1, p2, p3, p4, p5⟩ := pasteErr_zero he
  have HC := hide (fun W => containsNl_any bt W)
  have H0 := hide h
  have HLG := hide (fun W (hb : Below w.heap.size w W) => largeL_any v l W (H0.out.below hb))
  have HLO := hide (map_lines_ok p5)
  have HNB : Hid (∀ s ∈ l, s.size ≤ 65536) := hide (fun s hs => (bigB_parts (by
    cases e : bigB s
    · rfl
    · exact absurd (List.any_eq_true.2 ⟨s, hs, e⟩) (by rw [p5]; simp))).1)
  have HSM : Hid (sumB l ≤ 16 * 65536) := hide (sumB_bound HNB.out p2)
  have HJN := hide (fun W (hb : Below w.heap.size w W) => join_any v l ⟨#[]⟩ W (H0.out.below hb) (by have := HSM.out; omega) (by decide) (by omega))
  have HJS := hide (jnB_size l)
  obtain ⟨J, hJ⟩ : ∃ J, jnB ⟨#[]⟩ l = J := ⟨_, rfl⟩
  simp only [hJ] at HJN
  rw [hJ] at HJS
  clear hJ
  simp only [p5] at HLG
  simp only [p3] at HC
  obtain ⟨⟨_, A, cap, rfl, hcap, hmax, hx⟩, hsz⟩ := h
  unfold maxLen at hmax
  have HX := hide hx
  have hne0 : ((l.length : Int) == 0) = false := beq_eq_false_iff_ne.2 (by omega)
  have hd0 : ¬ ((16 : Int) < (l.length : Int)) := by omega
  have hd1 : ¬ ((16 : Int) < (bt.size : Int)) := by omega
  obtain ⟨T, hT⟩ : ∃ T, mkB (resL (pasteL bt sr (l.map linesOf))) = T := ⟨_, rfl⟩
  simp only [hT] at HP
  have HT := hide hT
  clear hx hsz he p5 p3 hT
  go_enter Tryd.func11, Tryd.ntmps11
  go_wp2_with fail
  refine HP.out.mono ?_
  rintro e w1 ⟨rfl, hb1⟩
  have HB1 := hide hb1
  clear hb1
  go_wp2_with fail
  refine (when_any _ _ _).mono ?_
  rintro e w' ⟨rfl, rfl⟩
  go_wp2_with fail
  refine (when_any _ _ _).mono ?_
  rintro e w' ⟨rfl, rfl⟩
  go_wp2_with fail
  refine (HC.out _).mono ?_
  rintro e w' ⟨rfl, rfl⟩
  go_wp2_with fail
  refine (when_any _ _ _).mono ?_
  rintro e w' ⟨rfl, rfl⟩
  go_wp2_with fail
  refine (HLG.out _ HB1.out).mono ?_
  rintro e w2 ⟨rfl, hb2⟩
  have HB2 := hide (HB1.out.trans (hb2.mono HB1.out.size))
  clear hb2
  go_wp2_with fail
  refine (firstFour_any _ _ _ _ _).mono ?_
  rintro e w3 ⟨rfl, rfl⟩
  have hf0 : firstNZ [(0 : Int), 0, 0, 0] = 0 := rfl
  rw [hf0]
  have HB3 := hide (HB2.out.alloc HB2.out.size (.cells #[.int .i64 0, .int .i64 0, .int .i64 0, .int .i64 0] 25))
  obtain ⟨w3, hw3⟩ : ∃ w3, w2.alloc (.cells #[.int .i64 0, .int .i64 0, .int .i64 0, .int .i64 0] 25) = w3 := ⟨_, rfl⟩
  rw [hw3] at HB3 ⊢
  clear hw3 hf0
  go_wp2_with fail
  refine (HJN.out _ HB3.out).mono ?_
  rintro e w4 ⟨rfl, hb4⟩
  have HB4 := hide (HB3.out.trans (hb4.mono HB3.out.size))
  clear hb4
  go_wp2_with fail
  refine (briefS_any _ _).mono ?_
  rintro e w' ⟨rfl, rfl⟩
  cases hbr : decide (J.size ≤ 3000)
  · clear hbr
    go_wp2_with fail
    refine (sorts_any _).mono ?_
    rintro e w5 ⟨rfl, hb5⟩
    have HB5 := hide (HB4.out.trans (hb5.mono HB4.out.size))
    clear hb5
    go_wp2_with fail
    refine (outcome_good _ _).mono ?_
    rintro e w' ⟨rfl, rfl⟩
    go_wp2_with fail
    go_ret
    exact ⟨rfl, HB5.out⟩
  · have hbr2 : J.size ≤ 3000 := by simpa using hbr
    rw [HJS.out] at hbr2
    have HSL : Hid (∀ s ∈ l, s.size ≤ 3000) := hide (fun s hs => by have := sumB_mem hs; omega)
    have HLB : Hid (∀ x ∈ l.map linesOf, x.length ≤ 3001 ∧ ∀ s ∈ x, s.size ≤ 3000) := hide (fun x hx => by
      obtain ⟨s, hs, rfl⟩ := List.mem_map.1 hx
      have h1 := HSL.out s hs
      have h2 := linesOf_bound s
      exact ⟨by omega, fun y hy => by have := h2.2 y hy; omega⟩)
    clear hbr hbr2
    go_wp2_with fail
    go_loopw [10, 58] (fun a i wr => ∃ (k : Nat) (vs : List Value), k ≤ l.length ∧ i = .int .i64 (k : Int) ∧ Hid (RowsR 40 wr w.heap.size a vs ((l.take k).map linesOf)) ∧ Hid (Below w.heap.size w wr)) (fun _ i _ => l.length - (intOf i).toNat)
    case atStart => exact ⟨0, [], by omega, rfl, RowsR.nil _ _ _, HB4⟩
    case round =>
      clear HB1 HB2 HB3 HB4
      obtain ⟨k, vs, hk, rfl, HR, HB⟩ := hrel
      by_cases hlt : k < l.length
      · obtain ⟨bb, o, rfl, hbb, hj⟩ := HX.out (by omega)
        have hc : wr.cell? ⟨bb, o + k, none⟩ = some (.string l[k]) := (HB.out.cell (p := ⟨bb, o + k, none⟩) hbb).trans (hj k _ (by simp [hlt]))
        have HN := hide (take_map_snoc linesOf l k hlt)
        have hxs := HSL.out _ (List.getElem_mem hlt)
        have hlk : ((l.take k).map linesOf).length = k := by rw [List.length_map, List.length_take]; omega
        obtain ⟨D, hD⟩ : ∃ D, (l.take k).map linesOf = D := ⟨_, rfl⟩
        rw [hD] at HR HN hlk
        obtain ⟨x, hx⟩ : ∃ x, l[k] = x := ⟨_, rfl⟩
        rw [hx] at hc HN hxs
        have HLK := hide hlk
        clear hD hj hx hlk
        have hd : (k : Int) < (l.length : Int) := by omega
        obtain ⟨RA, rc, rfl⟩ := own_slice HR.out.own
        have hz := HB.out.size
        go_wp2_with fail
        refine (linesOf_any x wr (by omega)).mono ?_
        rintro e w5 ⟨u, rfl, ho, hb5⟩
        have hbd := linesOf_bound x
        have HU := hide (ho.strs (fun s hs => by have := hbd.2 s hs; unfold maxLen; omega))
        have HQ1 : Hid (Lies w5 u) := hide (fun q hq => own_lt ho q hq)
        have HQ : Hid (∀ q, u.ownBlock = some q → (Value.slice RA D.length rc).ownBlock ≠ some q) := hide (fun q hq e => by
          have h1 := own_ge ho q hq
          have h2 := own_lt HR.out.own q e
          omega)
        obtain ⟨U, uc, rfl⟩ := own_slice ho
        have HR2 := hide (HR.out.below hb5)
        have HB5 := hide (HB.out.trans (hb5.mono hz))
        have hz2 := HB5.out.size
        clear hb5 ho hc hbd
        go_wp2_with (at_builtin; refine wpList_app_row rfl _ _ rfl w.heap.size _ _ _ rfl HR2.out HU.out HQ1.out HQ.out rfl (by have := HLK.out; omega) hz2 ?_)
        intro g c w6 hr6 hb6
        have HR6 := hide hr6
        rw [← HN.out] at HR6
        have HB6 := hide (HB5.out.trans hb6)
        clear hr6 hb6
        go_wp2_with fail
        go_roundw
        case rel => exact ⟨k + 1, _, by omega, by go_num, HR6, HB6⟩
        case measure => simp [intOf]; omega
      · obtain rfl : k = l.length := by omega
        have hd : ¬ ((l.length : Int) < (l.length : Int)) := by omega
        rw [List.take_length] at HR
        have HBD := hide (pasteL_bound (bt := bt) (ls := l.map linesOf) (M := 3000) (L := 3001) sr (by rw [List.length_map]; exact p2) HLB.out)
        have HOK := hide (pstOk_of (bt := bt) (ls := l.map linesOf) (by rw [List.length_map]; exact p2) HLO.out p4)
        have HH : Hid (highN (l.map linesOf) ≤ 4096) := hide (highN_bound fun x hx => (HLO.out x hx).1)
        obtain ⟨ls, hls⟩ : ∃ ls, l.map linesOf = ls := ⟨_, rfl⟩
        rw [hls] at HR HBD HOK HH HT
        obtain ⟨RA, rc, rfl⟩ := own_slice HR.out.own
        clear hls HLO HLB
        go_wp2_with fail
        refine (sorts_any _).mono ?_
        rintro e w5 ⟨rfl, hb5⟩
        have HB5 := hide (HB.out.trans (hb5.mono HB.out.size))
        have HL := hide (HR.out.below hb5).strsL
        have HPA : Hid (Calls Tryd.prog 49 #[.slice RA ls.length rc, .string bt, .bool sr] w5 fun e w' => ∃ v, e = .returned v ∧ OwnS 9 w' (w5.heap.size + 1) v (pasteL bt sr ls) ∧ Below w5.heap.size w5 w') := hide (by
          cases sr
          · exact pastedSide_any RA rc ls bt w5 HL.out HOK.out (by have := HH.out; omega)
          · exact pastedSerial_any RA rc ls bt w5 HL.out HOK.out)
        clear hb5
        go_wp2_with fail
        refine HPA.out.mono ?_
        rintro e w6 ⟨y, rfl, ho, hb6⟩
        have HB6 := hide (HB5.out.trans (hb6.mono HB5.out.size))
        have hbd := HBD.out
        have HRS := hide (resultOf_any y _ w6 (ho.strs (fun s hs => by have := hbd.2 s hs; unfold maxLen; omega)) (by have := hbd.1; omega))
        rw [HT.out] at HRS
        clear hb6 ho HPA hbd
        go_wp2_with fail
        refine HRS.out.mono ?_
        rintro e w' ⟨rfl, rfl⟩
        go_wp2_with fail
        refine (outcome_good _ _).mono ?_
        rintro e w' ⟨rfl, rfl⟩
        go_wp2_with fail
        go_ret
        exact ⟨rfl, HB6.out⟩
theorem pasteMatches_any (v : Value) (l : List ByteArray) (bt : ByteArray) (sr : Bool) (w : World) (h : Strs w v l) (hbt : bt.size ≤ maxLen) :
    Calls Tryd.prog 11 #[v, .string bt, .bool sr] w fun e w' => e = .returned (.bool true) ∧ Below w.heap.size w w' := by
  by_cases he : pasteErr l bt = 0
  · exact pasteMatches_good v l bt sr w h he
  · exact pasteMatches_bad v l bt sr _ w h hbt he rfl
end Go.Proofs.YtkikbejpgfhfoaaDoor
