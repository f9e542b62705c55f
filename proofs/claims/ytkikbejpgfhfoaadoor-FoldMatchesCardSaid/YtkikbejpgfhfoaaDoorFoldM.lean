/- The reference's Folded, text.Fold where it is refused, and the law FoldMatches: the walk. -/
import Derived.Test.YtkikbejpgfhfoaaDoorFoldB
import Derived.Test.YtkikbejpgfhfoaaDoorAppS
set_option linter.unusedVariables false
set_option linter.unusedSimpArgs false
namespace Go.Proofs.YtkikbejpgfhfoaaDoor
open Go.RowKit Go.Pw
theorem blankF_any (c : UInt8) (w : World) : Calls Tryd.prog 80 #[.int .u8 (c.toNat : Int)] w fun e w' => e = .returned (.bool (isBl c)) ∧ w = w' := by
  have H : Hid (isBl c = (((c.toNat : Int) == 9) || ((c.toNat : Int) == 32))) := by
    show _ = _
    unfold isBl
    rw [Bool.eq_iff_iff]
    simp [← UInt8.toNat_inj]
    omega
  by_cases h : (c.toNat : Int) = 9
  · have h1 : ((c.toNat : Int) == 9) = true := by simpa using h
    rw [h1] at H
    clear h
    go_enter Tryd.func80, Tryd.ntmps80
    go_wp2
    go_ret
    exact ⟨by rw [H.out]; rfl, rfl⟩
  · have h1 : ((c.toNat : Int) == 9) = false := by simpa using h
    rw [h1] at H
    clear h
    go_enter Tryd.func80, Tryd.ntmps80
    go_wp2
    go_ret
    exact ⟨by rw [H.out]; rfl, rfl⟩
set_option maxHeartbeats 1000000 in
set_option maxRecDepth 100000 in
theorem fold_bad (s : ByteArray) (wd : Int) (bs : Bool) (n : Int) (w : World) (hs : s.size ≤ maxLen) (hn : n ≠ 0) (he : foldErr s wd = n) :
    Calls Tryd.prog 39 #[.string s, .int .i64 wd, .bool bs] w fun e w' => e = .returned (.tuple #[.string ⟨#[]⟩, .int .i64 n]) ∧ Below w.heap.size w w' := by
  unfold maxLen at hs
  have HLG := hide (fun W => large_any s W (by omega))
  have HWM : Hid (∀ W, Calls Tryd.prog 66 #[.int .i64 wd, .int .i64 1, .int .i64 1000] W fun e w' => e = .returned (.bool (inF 1 1000 wd)) ∧ W = w') := hide (fun W => within_any wd 1 1000 W)
  have HE := hide he
  unfold foldErr at HE
  cases h1 : inF 1 1000 wd
  · simp only [h1] at HWM HE
    have h3 : (3 : Int) = n := by have := HE.out; simpa [firstNZ] using this
    subst h3
    go_enter Tryd.func39, Tryd.ntmps39
    go_wp2_with fail
    refine (HWM.out _).mono ?_
    rintro e w' ⟨rfl, rfl⟩
    go_wp2_with fail
    go_ret2
    exact ⟨rfl, Below.refl _ _⟩
  · simp only [h1] at HWM HE
    cases h2 : bigB s
    · exfalso
      have := HE.out
      simp [firstNZ, h2] at this
      exact hn this.symm
    · simp only [h2] at HLG HE
      have h3 : (2 : Int) = n := by have := HE.out; simpa [firstNZ] using this
      subst h3
      go_enter Tryd.func39, Tryd.ntmps39
      go_wp2_with fail
      refine (HWM.out _).mono ?_
      rintro e w' ⟨rfl, rfl⟩
      go_wp2_with fail
      refine (HLG.out _).mono ?_
      rintro e w1 ⟨rfl, hb1⟩
      go_wp2_with fail
      go_ret2
      exact ⟨rfl, hb1⟩
set_option maxHeartbeats 4000000 in
set_option maxRecDepth 100000 in
theorem foldedR_any (y : ByteArray) (wd : Nat) (bs : Bool) (w : World) (hy : y.size ≤ 65536) (hw1 : 1 ≤ wd) (hw2 : wd ≤ 1000) :
    Calls Tryd.prog 40 #[.string y, .int .i64 (wd : Int), .bool bs] w fun e w' => ∃ v, e = .returned v ∧ OwnS 9 w' w.heap.size v (folded wd bs y) ∧ Below w.heap.size w w' := by
  have HBD := hide (folded_bound (bs := bs) hw1 y.size y (Nat.le_refl _)).1
  go_enter Tryd.func40, Tryd.ntmps40
  go_wp2_with fail
  go_loopw [0, 7] (fun ln v wq => ∃ (done : List ByteArray) (r : ByteArray), ln = .string r ∧ Hid (done ++ folded wd bs r = folded wd bs y) ∧ r.size ≤ 65536 ∧ Hid (OwnS 9 wq w.heap.size v done) ∧ Hid (Below w.heap.size w wq)) (fun ln _ _ => strLen ln)
  case atStart => exact ⟨[], y, rfl, hide rfl, hy, World.ownsRow_nil _ _ _ _, Below.refl _ _⟩
  case round =>
    obtain ⟨done, r, rfl, HEQ, hrz, HO, HB⟩ := hrel
    have HLK : Hid (done.length ≤ 65537) := hide (by
      have h1 := HBD.out
      rw [← HEQ.out, List.length_append] at h1
      omega)
    have hz := HB.out.size
    obtain ⟨RA, rc, rfl⟩ := own_slice HO.out
    by_cases hlong : wd < r.size
    · have hd5 : (wd : Int) < (r.size : Int) := by omega
      have hd6 : (wd : Int) ≤ (r.size : Int) := by omega
      have hd7 : (0 : Int) ≤ (wd : Int) := by omega
      have HFL := hide (folded_long (bs := bs) hw1 hlong)
      obtain ⟨q, hq⟩ : ∃ q, lastB r wd = q := ⟨_, rfl⟩
      have hqw : q ≤ wd := by rw [← hq]; exact lastB_le _ _
      have hcut : cutAt r wd bs = if bs = true ∧ 0 < q then q else wd := by unfold cutAt; rw [hq]
      rw [hcut] at HFL
      have HQ := hide hq
      clear hcut hq
      cases bs
      · rw [if_neg (by simp)] at HFL
        go_wp2_with (at_builtin; refine wpList_app_one rfl _ _ rfl w.heap.size _ _ rfl HO.out rfl (by have := HLK.out; omega) hz ?_)
        intro A2 c2 w6 ho6 hb6
        have HO6 := hide ho6
        have HB6 := hide (HB.out.trans hb6)
        clear ho6 hb6
        go_wp2_with fail
        go_roundw
        case rel => exact ⟨done ++ [r.extract 0 (wd)], r.extract (wd) r.size, by go_num, hide (by rw [← HEQ.out, HFL.out]; simp), by rw [ByteArray.size_extract]; omega, HO6, HB6⟩
        case measure => simp [strLen, ByteArray.size_extract]; omega
      · go_wp2_with fail
        go_loop [8, 9] (fun n i => n = .int .i64 (wd : Int) ∧ ∃ k : Nat, i = .int .i64 (k : Int) ∧ k ≤ wd ∧ Hid (lastB r k = q)) (fun _ i => (intOf i).toNat)
        case atStart => exact ⟨rfl, wd, rfl, Nat.le_refl _, HQ⟩
        case round =>
          obtain ⟨rfl, k, rfl, hkw, HK⟩ := hrel
          cases k with
          | zero =>
            have hq0 : 0 = q := HK.out
            subst hq0
            rw [if_neg (by simp)] at HFL
            go_wp2_with (at_builtin; refine wpList_app_one rfl _ _ rfl w.heap.size _ _ rfl HO.out rfl (by have := HLK.out; omega) hz ?_)
            intro A2 c2 w6 ho6 hb6
            have HO6 := hide ho6
            have HB6 := hide (HB.out.trans hb6)
            clear ho6 hb6
            go_wp2_with fail
            go_roundw
            case rel => exact ⟨done ++ [r.extract 0 (wd)], r.extract (wd) r.size, by go_num, hide (by rw [← HEQ.out, HFL.out]; simp), by rw [ByteArray.size_extract]; omega, HO6, HB6⟩
            case measure => simp [strLen, ByteArray.size_extract]; omega
          | succ k =>
            have hkp : (0 : Int) < ((k + 1 : Nat) : Int) := by omega
            have hkm : ((k + 1 : Nat) : Int) - 1 = (k : Int) := by omega
            have hki : k < r.size := by omega
            have hkl : (k : Int) < (r.size : Int) := by omega
            have hk0 : (0 : Int) ≤ (k : Int) := by omega
            obtain ⟨x, hx⟩ : ∃ x : UInt8, r[k]'hki = x := ⟨_, rfl⟩
            have hxg : r.get! k = x := by
              rw [get!_eq hki, ← hx]
              rfl
            have hnx : lastB r (k + 1) = if isBl x = true then k + 1 else lastB r k := by
              show (if isBl (r.get! k) = true then k + 1 else lastB r k) = _
              rw [hxg]
            rw [HK.out] at hnx
            have HI := hide (blankF_any x)
            cases hb : isBl x
            · rw [hb, if_neg (by decide)] at hnx
              simp only [hb] at HI
              have HNX := hide hnx.symm
              clear hnx hxg
              go_wp2_with fail
              refine (HI.out _).mono ?_
              rintro e w' ⟨rfl, rfl⟩
              go_wp2_with fail
              go_round
              case rel => exact ⟨rfl, k, by go_num, by omega, HNX⟩
              case measure => simp [intOf]
            · rw [hb, if_pos rfl] at hnx
              simp only [hb] at HI
              subst hnx
              rw [if_pos (by simp)] at HFL
              have hd8 : ((k + 1 : Nat) : Int) ≤ (r.size : Int) := by omega
              have hd9 : (0 : Int) ≤ ((k + 1 : Nat) : Int) := by omega
              clear hxg
              go_wp2_with fail
              refine (HI.out _).mono ?_
              rintro e w' ⟨rfl, rfl⟩
              go_wp2_with (at_builtin; refine wpList_app_one rfl _ _ rfl w.heap.size _ _ rfl HO.out rfl (by have := HLK.out; omega) hz ?_)
              intro A2 c2 w6 ho6 hb6
              have HO6 := hide ho6
              have HB6 := hide (HB.out.trans hb6)
              clear ho6 hb6
              go_wp2_with fail
              go_roundw
              case rel => exact ⟨done ++ [r.extract 0 (k + 1)], r.extract (k + 1) r.size, by go_num, hide (by rw [← HEQ.out, HFL.out]; simp), by rw [ByteArray.size_extract]; omega, HO6, HB6⟩
              case measure => simp [strLen, ByteArray.size_extract]; omega
    · have hd5 : ¬ ((wd : Int) < (r.size : Int)) := by omega
      have HFS := hide (folded_short (wd := wd) (bs := bs) (s := r) (by omega))
      go_wp2_with (at_builtin; refine wpList_app_one rfl _ _ rfl w.heap.size _ _ rfl HO.out rfl (by have := HLK.out; omega) hz ?_)
      intro A2 c2 w6 ho6 hb6
      have HO6 := hide ho6
      have HB6 := hide (HB.out.trans hb6)
      clear ho6 hb6
      go_wp2_with fail
      go_ret
      exact ⟨_, rfl, by rw [← HEQ.out, HFS.out]; exact HO6.out, HB6.out⟩
theorem rd_two' (w : World) (x y : Int) (t : TypeId) : Rd (w.alloc (.cells #[.int .i64 x, .int .i64 y] t)) 1 (.slice (some ⟨w.heap.size, 0, none⟩) 2 2) 2 ([x, y].map (Value.int .i64)) := by
  refine ⟨rfl, _, _, rfl, Nat.le_refl _, by unfold maxLen; omega, fun _ => ⟨w.heap.size, 0, rfl, by simp, fun j u hu => ?_⟩⟩
  rw [World.cell?_alloc_new]
  simpa using hu
theorem firstTwo'_any (w : World) (x y : Int) : Calls Tryd.prog 14 #[.slice (some ⟨w.heap.size, 0, none⟩) 2 2] (w.alloc (.cells #[.int .i64 x, .int .i64 y] 25)) fun e w' => e = .returned (.int .i64 (firstNZ [x, y])) ∧ w' = w.alloc (.cells #[.int .i64 x, .int .i64 y] 25) :=
  (first_any _ [x, y] _ (rd_two' w x y _)).mono fun e w' ⟨h1, h2⟩ => ⟨h1, h2.symm⟩
theorem briefF_any (s : ByteArray) (w : World) : Calls Tryd.prog 23 #[.string s] w fun e w' => e = .returned (.bool (decide (s.size ≤ 3000))) ∧ w = w' := by
  go_enter Tryd.func23, Tryd.ntmps23
  go_wp2_with fail
  go_ret
  exact ⟨ret_bool (decide_eq_decide.2 (by omega)), rfl⟩
theorem largeF_any (s : ByteArray) (w : World) (hs : s.size ≤ maxLen) : Calls Tryd.prog 22 #[.slice (some ⟨w.heap.size, 0, none⟩) 1 1] (w.alloc (.cells #[.string s] 9)) fun e w' => e = .returned (.int .i64 (if bigB s then 2 else 0)) ∧ Below w.heap.size w w' :=
  (largeL_any _ [s] _ (strs_one w s 9 hs)).mono fun e w' ⟨h1, h2⟩ => ⟨by rw [h1]; simp, ((Below.refl _ _).alloc (Nat.le_refl _) _).trans (h2.mono (by simp))⟩
theorem foldWhens (s : ByteArray) (wd : Int) (hs : s.size ≤ maxLen) : ∃ (rm : Bool) (x1 x2 : Int), foldErr s wd = firstNZ [x1, x2]
    ∧ (∀ W, Calls Tryd.prog 32 #[.int .i64 wd, .int .i64 1, .int .i64 1000] W fun e w' => e = .returned (.bool rm) ∧ W = w')
    ∧ (∀ W, Calls Tryd.prog 16 #[.bool (!rm), .int .i64 3] W fun e w' => e = .returned (.int .i64 x1) ∧ W = w')
    ∧ (∀ W : World, Calls Tryd.prog 22 #[.slice (some ⟨W.heap.size, 0, none⟩) 1 1] (W.alloc (.cells #[.string s] 9)) fun e w' => e = .returned (.int .i64 x2) ∧ Below W.heap.size W w') :=
  ⟨_, _, _, rfl, fun W => withinL_any _ _ _ W, fun W => when_any _ _ W, fun W => largeF_any s W hs⟩
set_option maxHeartbeats 2000000 in
set_option maxRecDepth 100000 in
theorem foldMatches_bad (s : ByteArray) (wd : Int) (bs : Bool) (n : Int) (w : World) (hs : s.size ≤ maxLen) (hn : n ≠ 0) (he : foldErr s wd = n) :
    Calls Tryd.prog 8 #[.string s, .int .i64 wd, .bool bs] w fun e w' => e = .returned (.bool true) ∧ Below w.heap.size w w' := by
  have HF := hide (fun W => fold_bad s wd bs n W hs hn he)
  obtain ⟨rm, x1, x2, e0, g1, g2, g3⟩ := foldWhens s wd hs
  rw [he] at e0
  have HE := hide e0
  have HG1 := hide g1
  have HG2 := hide g2
  have HG3 := hide g3
  have HN := hide hn
  have hnb : (n != 0) = true := by simpa using hn
  clear e0 g1 g2 g3 he hn
  go_enter Tryd.func8, Tryd.ntmps8
  go_wp2_with fail
  refine (HF.out _).mono ?_
  rintro e w1 ⟨rfl, hb1⟩
  have HB1 := hide hb1
  clear hb1
  go_wp2_with fail
  refine (HG1.out _).mono ?_
  rintro e w' ⟨rfl, rfl⟩
  go_wp2_with fail
  refine (HG2.out _).mono ?_
  rintro e w' ⟨rfl, rfl⟩
  go_wp2_with fail
  refine (HG3.out _).mono ?_
  rintro e w2 ⟨rfl, hb2⟩
  have HB2 := hide (HB1.out.trans (hb2.mono HB1.out.size))
  clear hb2
  go_wp2_with fail
  refine (firstTwo'_any _ _ _).mono ?_
  rintro e w3 ⟨rfl, rfl⟩
  rw [← HE.out]
  have HB3 := hide (HB2.out.alloc HB2.out.size (.cells #[.int .i64 x1, .int .i64 x2] 25))
  go_wp2_with fail
  refine (sorts_any _).mono ?_
  rintro e w4 ⟨rfl, hb4⟩
  have HB4 := hide (HB3.out.trans (hb4.mono HB3.out.size))
  clear hb4
  go_wp2_with fail
  refine (outcome_bad _ _ _ HN.out).mono ?_
  rintro e w' ⟨rfl, rfl⟩
  go_wp2_with fail
  go_ret
  exact ⟨rfl, HB4.out⟩
set_option maxHeartbeats 4000000 in
set_option maxRecDepth 100000 in
theorem foldMatches_good (s : ByteArray) (wd : Nat) (bs : Bool) (w : World) (hz : foldErr s wd = 0) (hT : Lib.Utf8Tabs 1 2 w) :
    Calls Tryd.prog 8 #[.string s, .int .i64 (wd : Int), .bool bs] w fun e w' => e = .returned (.bool true) ∧ Below w.heap.size w w' := by
  obtain ⟨hb, h1, h2⟩ := foldErr_zero hz
  have hw1 : 1 ≤ wd := by omega
  have hw2 : wd ≤ 1000 := by omega
  obtain ⟨hsz, hln, hls⟩ := bigB_no hb
  have HF := hide (fold_good s wd bs w hb hw1 hw2 hT)
  obtain ⟨rm, x1, x2, e0, g1, g2, g3⟩ := foldWhens s wd (by unfold maxLen; omega)
  rw [hz] at e0
  have HE := hide e0
  have HG1 := hide g1
  have HG2 := hide g2
  have HG3 := hide g3
  have HLI := hide (fun W => linesOf_any s W (by omega))
  have hx1 : ∀ (k : Nat), k ≤ (linesOf s).length → (foldLs wd bs ((linesOf s).take k)).length ≤ k * 65537 := fun k hk => by
    have := (foldLs_bound (bs := bs) hw1 (M := 65536) ((linesOf s).take k) (fun x hx => hls x (List.mem_of_mem_take hx))).1
    rwa [List.length_take, Nat.min_eq_left hk] at this
  have HX1 := hide hx1
  have HX2 := hide (foldLs_bound (bs := bs) hw1 (M := 65536) (linesOf s) hls)
  have HLS := hide hls
  obtain ⟨L, hL⟩ : ∃ L, linesOf s = L := ⟨_, rfl⟩
  rw [hL] at HX1 HX2 HLS HLI hln HF
  obtain ⟨T, hTT⟩ : ∃ T, mkB (resL (foldLs wd bs L)) = T := ⟨_, rfl⟩
  rw [hTT] at HF
  have HTT := hide hTT
  clear e0 g1 g2 g3 hz hb hls hx1 hL hTT hT
  go_enter Tryd.func8, Tryd.ntmps8
  go_wp2_with fail
  refine HF.out.mono ?_
  rintro e w1 ⟨rfl, hb1⟩
  have HB1 := hide hb1
  clear hb1
  go_wp2_with fail
  refine (HG1.out _).mono ?_
  rintro e w' ⟨rfl, rfl⟩
  go_wp2_with fail
  refine (HG2.out _).mono ?_
  rintro e w' ⟨rfl, rfl⟩
  go_wp2_with fail
  refine (HG3.out _).mono ?_
  rintro e w2 ⟨rfl, hb2⟩
  have HB2 := hide (HB1.out.trans (hb2.mono HB1.out.size))
  clear hb2
  go_wp2_with fail
  refine (firstTwo'_any _ _ _).mono ?_
  rintro e w3 ⟨rfl, rfl⟩
  rw [← HE.out]
  have HB3 := hide (HB2.out.alloc HB2.out.size (.cells #[.int .i64 x1, .int .i64 x2] 25))
  obtain ⟨W3, hW3⟩ : ∃ W3, w2.alloc (.cells #[.int .i64 x1, .int .i64 x2] 25) = W3 := ⟨_, rfl⟩
  rw [hW3] at HB3 ⊢
  clear hW3
  go_wp2_with fail
  refine (briefF_any _ _).mono ?_
  rintro e w' ⟨rfl, rfl⟩
  cases hbr : decide (s.size ≤ 3000)
  · clear hbr
    go_wp2_with fail
    refine (sorts_any _).mono ?_
    rintro e w4 ⟨rfl, hb4⟩
    have HB4 := hide (HB3.out.trans (hb4.mono HB3.out.size))
    clear hb4
    go_wp2_with fail
    refine (outcome_good _ _).mono ?_
    rintro e w' ⟨rfl, rfl⟩
    go_wp2_with fail
    go_ret
    exact ⟨rfl, HB4.out⟩
  · clear hbr
    go_wp2_with fail
    refine (HLI.out _).mono ?_
    rintro e w4 ⟨v, rfl, ho4, hb4⟩
    have HB4 := hide (HB3.out.trans (hb4.mono HB3.out.size))
    have HV := hide (ho4.strs (fun x hx => by have := HLS.out x hx; unfold maxLen; omega))
    clear hb4 ho4
    obtain ⟨⟨_, A, cap, rfl, hcap, hmax, hx⟩, _⟩ := HV.out
    have HX := hide hx
    clear hx HV
    unfold maxLen at hmax
    go_wp2_with fail
    go_loopw [10, 47] (fun v i wr => ∃ k : Nat, k ≤ L.length ∧ i = .int .i64 (k : Int) ∧ Hid (OwnS 9 wr w4.heap.size v (foldLs wd bs (L.take k))) ∧ Hid (Below w4.heap.size w4 wr)) (fun _ i _ => L.length - (intOf i).toNat)
    case atStart => exact ⟨0, by omega, rfl, World.ownsRow_nil _ _ _ _, Below.refl _ _⟩
    case round =>
      obtain ⟨k, hk, rfl, HO0, HB0⟩ := hrel
      by_cases hlt : k < L.length
      · obtain ⟨b3, o3, rfl, hb3, hj3⟩ := HX.out (by omega)
        have hc : wr.cell? ⟨b3, o3 + k, none⟩ = some (.string L[k]) := (HB0.out.cell (p := ⟨b3, o3 + k, none⟩) hb3).trans (hj3 k _ (by simp [hlt]))
        have HNX := hide (foldLs_next (wd := wd) (bs := bs) hlt)
        have hbd := HX1.out k (by omega)
        have hyz : L[k].size ≤ 65536 := HLS.out _ (List.getElem_mem hlt)
        obtain ⟨D, hD⟩ : ∃ D, foldLs wd bs (L.take k) = D := ⟨_, rfl⟩
        obtain ⟨y, hy⟩ : ∃ y, L[k] = y := ⟨_, rfl⟩
        rw [hD] at HO0 HNX hbd
        rw [hy] at hc HNX hyz
        have HBD : Hid (D.length ≤ 4096 * 65537) := hide (Nat.le_trans hbd (Nat.mul_le_mul (by omega) (Nat.le_refl _)))
        have HFB := hide (folded_bound (bs := bs) hw1 y.size y (Nat.le_refl _))
        have HFR := hide (fun W => foldedR_any y wd bs W hyz hw1 hw2)
        obtain ⟨G, hG⟩ : ∃ G, folded wd bs y = G := ⟨_, rfl⟩
        simp only [hG] at HFR HFB HNX
        clear hj3 hD hy hbd hG
        have hd4 : (k : Int) < (L.length : Int) := by omega
        obtain ⟨OA, oc, rfl⟩ := own_slice HO0.out
        go_wp2_with fail
        refine (HFR.out _).mono ?_
        rintro e w5 ⟨v5, rfl, ho5, hb5⟩
        have HS5 := hide (OwnS.strs ho5 (fun x hx => by have := HFB.out.2.2 x hx; unfold maxLen; omega))
        have HO5 := hide (own_below HO0.out hb5)
        have HB5 := hide (HB0.out.trans (hb5.mono HB0.out.size))
        have hz5 := HB5.out.size
        have HBG : Hid (D.length + G.length ≤ 1000000000000) := hide (by have := HBD.out; have := HFB.out.1; omega)
        have hown := HO5.out
        unfold OwnS at hown
        clear ho5 hb5 hc
        go_wp2_with (at_builtin; refine wpList_app_strs rfl _ _ rfl w4.heap.size _ D rfl hown _ G rfl HS5.out HBG.out hz5 ?_)
        intro v' w6 hown' hgrow
        have HO6 : Hid (OwnS 9 w6 w4.heap.size v' (foldLs wd bs (L.take (k + 1)))) := hide (by rw [HNX.out]; unfold OwnS; rw [List.length_append, List.map_append]; simpa using hown')
        have HB6 := hide (HB5.out.trans ((Below.refl _ _).grown hgrow hz5 (own_ge hown)))
        clear hown hown' hgrow
        go_wp2_with fail
        go_roundw
        case rel => exact ⟨k + 1, by omega, by go_num, HO6, HB6⟩
        case measure => simp [intOf]; omega
      · obtain rfl : k = L.length := by omega
        have hd4 : ¬ ((L.length : Int) < (L.length : Int)) := by omega
        rw [List.take_length] at HO0
        obtain ⟨OA, oc, rfl⟩ := own_slice HO0.out
        have hst := OwnS.strs HO0.out (fun x hx => by have := HX2.out.2.2 x hx; unfold maxLen; omega)
        have HST := hide hst
        have HBX := hide (HB4.out.trans (HB0.out.mono HB4.out.size))
        have HLR : Hid ((resL (foldLs wd bs L)).length ≤ 1000000000) := hide (by have h1 := HX2.out.2.1; have h2 : L.length * (2 * 65536 + 1) ≤ 4096 * 131073 := Nat.mul_le_mul hln (Nat.le_refl _); omega)
        clear hst
        go_wp2_with fail
        refine (sorts_any _).mono ?_
        rintro e w5 ⟨rfl, hb5⟩
        have HB5 := hide (HBX.out.trans (hb5.mono HBX.out.size))
        have HRS := hide (resultOf_any _ _ w5 (HST.out.below hb5) HLR.out)
        rw [HTT.out] at HRS
        clear hb5
        go_wp2_with fail
        refine HRS.out.mono ?_
        rintro e w' ⟨rfl, rfl⟩
        go_wp2_with fail
        refine (outcome_good _ _).mono ?_
        rintro e w' ⟨rfl, rfl⟩
        go_wp2_with fail
        go_ret
        exact ⟨rfl, HB5.out⟩
theorem foldMatches_any (s : ByteArray) (wd : Int) (bs : Bool) (w : World) (hs : s.size ≤ maxLen) (hT : Lib.Utf8Tabs 1 2 w) :
    Calls Tryd.prog 8 #[.string s, .int .i64 wd, .bool bs] w fun e w' => e = .returned (.bool true) ∧ Below w.heap.size w w' := by
  by_cases h : foldErr s wd = 0
  · obtain ⟨_, h1, h2⟩ := foldErr_zero h
    obtain ⟨k, rfl⟩ : ∃ k : Nat, wd = (k : Int) := ⟨wd.toNat, by omega⟩
    exact foldMatches_good s k bs w h hT
  · exact foldMatches_bad s wd bs _ w hs h rfl
end Go.Proofs.YtkikbejpgfhfoaaDoor
