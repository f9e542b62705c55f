/- The law UniqMatches: the walk. -/
import Derived.Test.YtbelbgfigmbobaaGreatDoorUniqR
import Derived.Test.YtbelbgfigmbobaaGreatDoorLawK2
set_option linter.unusedVariables false
set_option linter.unusedSimpArgs false
namespace Go.Proofs.YtbelbgfigmbobaaGreatDoor
open Go.RowKit Go.Pw
theorem rd_two_u (w : World) (x y : Int) (t : TypeId) : Rd (w.alloc (.cells #[.int .i64 x, .int .i64 y] t)) 1 (.slice (some ⟨w.heap.size, 0, none⟩) 2 2) 2 ([x, y].map (Value.int .i64)) := by
  refine ⟨rfl, _, _, rfl, Nat.le_refl _, by unfold maxLen; omega, fun _ => ⟨w.heap.size, 0, rfl, by simp, fun j u hu => ?_⟩⟩
  rw [World.cell?_alloc_new]
  simpa using hu
theorem firstTwoU_any (w : World) (x y : Int) : Calls Tryz.prog 10 #[.slice (some ⟨w.heap.size, 0, none⟩) 2 2] (w.alloc (.cells #[.int .i64 x, .int .i64 y] 24)) fun e w' => e = .returned (.int .i64 (firstNZ [x, y])) ∧ w' = w.alloc (.cells #[.int .i64 x, .int .i64 y] 24) :=
  (first_any _ [x, y] _ (rd_two_u w x y _)).mono fun e w' ⟨h1, h2⟩ => ⟨h1, h2.symm⟩
theorem briefU_any (s : ByteArray) (w : World) : Calls Tryz.prog 13 #[.string s] w fun e w' => e = .returned (.bool (decide (s.size ≤ 3000))) ∧ w = w' := by
  go_enter Tryz.func13, Tryz.ntmps13
  go_wp2_with fail
  go_ret
  exact ⟨ret_bool (decide_eq_decide.2 (by omega)), rfl⟩
theorem largeU_any (s : ByteArray) (w : World) (hs : s.size ≤ maxLen) : Calls Tryz.prog 12 #[.slice (some ⟨w.heap.size, 0, none⟩) 1 1] (w.alloc (.cells #[.string s] 9)) fun e w' => e = .returned (.int .i64 (if bigB s then 2 else 0)) ∧ Below w.heap.size w w' :=
  (largeL_any _ [s] _ (strs_one w s 9 hs)).mono fun e w' ⟨h1, h2⟩ => ⟨by rw [h1]; simp, ((Below.refl _ _).alloc (Nat.le_refl _) _).trans (h2.mono (by simp))⟩
set_option maxHeartbeats 4000000 in
set_option maxRecDepth 100000 in
theorem uniqMatches_bad (o : Uq) (s : ByteArray) (n : Int) (w : World) (hs : s.size ≤ maxLen) (hn : n ≠ 0) (he : uqErr o s = n) :
    Calls Tryz.prog 3 #[uqV o, .string s] w fun e w' => e = .returned (.bool true) ∧ Below w.heap.size w w' := by
  have hb1 := (Below.refl w.heap.size w).alloc (Nat.le_refl _) (.cells #[.int .i64 o.fields, .int .i64 o.skip, .int .i64 o.bytes, .bool o.fold, .bool o.count, .bool o.rep, .bool o.alone] 23)
  have n1 : UqIn (w.alloc (.cells #[.int .i64 o.fields, .int .i64 o.skip, .int .i64 o.bytes, .bool o.fold, .bool o.count, .bool o.rep, .bool o.alone] 23)) w.heap.size 23 o := heap_alloc_new _ _
  obtain ⟨W1, hW1⟩ : ∃ W1, w.alloc (.cells #[.int .i64 o.fields, .int .i64 o.skip, .int .i64 o.bytes, .bool o.fold, .bool o.count, .bool o.rep, .bool o.alone] 23) = W1 := ⟨_, rfl⟩
  rw [hW1] at hb1 n1
  have HB1 := hide hb1
  have HN1 := hide n1
  have HF := hide (fun W => uniq_bad o s n W hs hn he)
  have HLG := hide (fun W => largeU_any s W hs)
  have HWa : Hid (∀ W, Calls Tryz.prog 9 #[.int .i64 o.fields, .int .i64 0, .int .i64 4096] W fun e w' => e = .returned (.bool (inU o.fields)) ∧ W = w') := hide (fun W => withinL_any _ _ _ W)
  have HWb : Hid (∀ W, Calls Tryz.prog 9 #[.int .i64 o.skip, .int .i64 0, .int .i64 4096] W fun e w' => e = .returned (.bool (inU o.skip)) ∧ W = w') := hide (fun W => withinL_any _ _ _ W)
  have HWc : Hid (∀ W, Calls Tryz.prog 9 #[.int .i64 o.bytes, .int .i64 0, .int .i64 4096] W fun e w' => e = .returned (.bool (inU o.bytes)) ∧ W = w') := hide (fun W => withinL_any _ _ _ W)
  have HX : Hid (firstNZ [if (inU o.fields && inU o.skip) && inU o.bytes then 0 else 3, if bigB s then 2 else 0] = n) := hide he
  have HN := hide hn
  have hnb : (n != 0) = true := by simpa using hn
  obtain ⟨x2, hx2⟩ : ∃ x : Int, (if bigB s then 2 else 0) = x := ⟨_, rfl⟩
  rw [hx2] at HX HLG
  obtain ⟨a, ha⟩ : ∃ a, inU o.fields = a := ⟨_, rfl⟩
  obtain ⟨b, hb⟩ : ∃ b, inU o.skip = b := ⟨_, rfl⟩
  obtain ⟨c, hc⟩ : ∃ c, inU o.bytes = c := ⟨_, rfl⟩
  simp only [ha] at HWa
  simp only [hb] at HWb
  simp only [hc] at HWc
  simp only [ha, hb, hc] at HX
  have HW1 := hide hW1
  obtain ⟨d0, d1, d2, d3, d4, d5, d6⟩ := n1.cells
  unfold uqV at HF ⊢
  clear hb1 n1 hn he hx2 ha hb hc hW1
  go_enter Tryz.func3, Tryz.ntmps3
  go_wp2_with fail
  (try rw [HW1.out])
  refine (HF.out _).mono ?_
  rintro e w1 ⟨rfl, hb1⟩
  have HB2 := hide (HB1.out.trans (hb1.mono HB1.out.size))
  have HN2 := hide (HN1.out.below hb1 HN1.out.lt)
  clear hb1 d0 d1 d2 d3 d4 d5 d6
  obtain ⟨d0, d1, d2, d3, d4, d5, d6⟩ := HN2.out.cells
  go_wp2_with fail
  refine (HWa.out _).mono ?_
  rintro e w' ⟨rfl, rfl⟩
  cases a
  · have HE : Hid (firstNZ [(3 : Int), x2] = n) := hide HX.out
    go_wp2_with fail
    refine (when_any _ _ _).mono ?_
    rintro e w' ⟨rfl, rfl⟩
    go_wp2_with fail
    refine (HLG.out _).mono ?_
    rintro e w3 ⟨rfl, hb3⟩
    have HB4 := hide (HB2.out.trans (hb3.mono HB2.out.size))
    clear hb3
    go_wp2_with fail
    refine (firstTwoU_any _ _ _).mono ?_
    rintro e w4 ⟨rfl, rfl⟩
    rw [HE.out]
    have HB5 := hide (HB4.out.alloc HB4.out.size (.cells #[.int .i64 3, .int .i64 x2] 24))
    obtain ⟨W3, hW3⟩ : ∃ W3, w3.alloc (.cells #[.int .i64 3, .int .i64 x2] 24) = W3 := ⟨_, rfl⟩
    have HW3 := hide hW3
    rw [hW3] at HB5
    clear hW3
    go_wp2_with fail
    (try rw [HW3.out])
    refine (sorts_any _).mono ?_
    rintro e w5 ⟨rfl, hb5⟩
    have HB6 := hide (HB5.out.trans (hb5.mono HB5.out.size))
    clear hb5
    go_wp2_with fail
    refine (outcome_bad _ _ _ HN.out).mono ?_
    rintro e w' ⟨rfl, rfl⟩
    go_wp2_with fail
    go_ret
    exact ⟨rfl, HB6.out⟩
  · go_wp2_with fail
    refine (HWb.out _).mono ?_
    rintro e w' ⟨rfl, rfl⟩
    cases b
    · have HE : Hid (firstNZ [(3 : Int), x2] = n) := hide HX.out
      go_wp2_with fail
      refine (when_any _ _ _).mono ?_
      rintro e w' ⟨rfl, rfl⟩
      go_wp2_with fail
      refine (HLG.out _).mono ?_
      rintro e w3 ⟨rfl, hb3⟩
      have HB4 := hide (HB2.out.trans (hb3.mono HB2.out.size))
      clear hb3
      go_wp2_with fail
      refine (firstTwoU_any _ _ _).mono ?_
      rintro e w4 ⟨rfl, rfl⟩
      rw [HE.out]
      have HB5 := hide (HB4.out.alloc HB4.out.size (.cells #[.int .i64 3, .int .i64 x2] 24))
      obtain ⟨W3, hW3⟩ : ∃ W3, w3.alloc (.cells #[.int .i64 3, .int .i64 x2] 24) = W3 := ⟨_, rfl⟩
      have HW3 := hide hW3
      rw [hW3] at HB5
      clear hW3
      go_wp2_with fail
      (try rw [HW3.out])
      refine (sorts_any _).mono ?_
      rintro e w5 ⟨rfl, hb5⟩
      have HB6 := hide (HB5.out.trans (hb5.mono HB5.out.size))
      clear hb5
      go_wp2_with fail
      refine (outcome_bad _ _ _ HN.out).mono ?_
      rintro e w' ⟨rfl, rfl⟩
      go_wp2_with fail
      go_ret
      exact ⟨rfl, HB6.out⟩
    · go_wp2_with fail
      refine (HWc.out _).mono ?_
      rintro e w' ⟨rfl, rfl⟩
      cases c
      · have HE : Hid (firstNZ [(3 : Int), x2] = n) := hide HX.out
        go_wp2_with fail
        refine (when_any _ _ _).mono ?_
        rintro e w' ⟨rfl, rfl⟩
        go_wp2_with fail
        refine (HLG.out _).mono ?_
        rintro e w3 ⟨rfl, hb3⟩
        have HB4 := hide (HB2.out.trans (hb3.mono HB2.out.size))
        clear hb3
        go_wp2_with fail
        refine (firstTwoU_any _ _ _).mono ?_
        rintro e w4 ⟨rfl, rfl⟩
        rw [HE.out]
        have HB5 := hide (HB4.out.alloc HB4.out.size (.cells #[.int .i64 3, .int .i64 x2] 24))
        obtain ⟨W3, hW3⟩ : ∃ W3, w3.alloc (.cells #[.int .i64 3, .int .i64 x2] 24) = W3 := ⟨_, rfl⟩
        have HW3 := hide hW3
        rw [hW3] at HB5
        clear hW3
        go_wp2_with fail
        (try rw [HW3.out])
        refine (sorts_any _).mono ?_
        rintro e w5 ⟨rfl, hb5⟩
        have HB6 := hide (HB5.out.trans (hb5.mono HB5.out.size))
        clear hb5
        go_wp2_with fail
        refine (outcome_bad _ _ _ HN.out).mono ?_
        rintro e w' ⟨rfl, rfl⟩
        go_wp2_with fail
        go_ret
        exact ⟨rfl, HB6.out⟩
      · have HE : Hid (firstNZ [(0 : Int), x2] = n) := hide HX.out
        go_wp2_with fail
        refine (when_any _ _ _).mono ?_
        rintro e w' ⟨rfl, rfl⟩
        go_wp2_with fail
        refine (HLG.out _).mono ?_
        rintro e w3 ⟨rfl, hb3⟩
        have HB4 := hide (HB2.out.trans (hb3.mono HB2.out.size))
        clear hb3
        go_wp2_with fail
        refine (firstTwoU_any _ _ _).mono ?_
        rintro e w4 ⟨rfl, rfl⟩
        rw [HE.out]
        have HB5 := hide (HB4.out.alloc HB4.out.size (.cells #[.int .i64 0, .int .i64 x2] 24))
        obtain ⟨W3, hW3⟩ : ∃ W3, w3.alloc (.cells #[.int .i64 0, .int .i64 x2] 24) = W3 := ⟨_, rfl⟩
        have HW3 := hide hW3
        rw [hW3] at HB5
        clear hW3
        go_wp2_with fail
        (try rw [HW3.out])
        refine (sorts_any _).mono ?_
        rintro e w5 ⟨rfl, hb5⟩
        have HB6 := hide (HB5.out.trans (hb5.mono HB5.out.size))
        clear hb5
        go_wp2_with fail
        refine (outcome_bad _ _ _ HN.out).mono ?_
        rintro e w' ⟨rfl, rfl⟩
        go_wp2_with fail
        go_ret
        exact ⟨rfl, HB6.out⟩
structure WEnv (T : TypeId) (bu : Nat) (o : Uq) (w W : World) : Prop where
  un : UqIn W bu T o
  bel : Below w.heap.size w W
theorem WEnv.next {T : TypeId} {bu M : Nat} {o : Uq} {w W V w' : World} (h : WEnv T bu o w W) (hb : Below M V w') (e1 : V.heap = W.heap) (e2 : V.os = W.os) (e3 : V.tape = W.tape) (e4 : V.output = W.output) (hM : W.heap.size ≤ M) : WEnv T bu o w w' :=
  ⟨(hb.block bu (Nat.lt_of_lt_of_le h.un.lt hM)).trans (by rw [e1]; exact h.un), below_next h.bel hb e1 e2 e3 e4 (Nat.le_trans h.bel.size hM)⟩
theorem WEnv.like {T : TypeId} {bu : Nat} {o : Uq} {w W V : World} (h : WEnv T bu o w W) (e1 : V.heap = W.heap) (e2 : V.os = W.os) (e3 : V.tape = W.tape) (e4 : V.output = W.output) : WEnv T bu o w V :=
  ⟨by unfold UqIn; rw [e1]; exact h.un, ⟨by rw [e2]; exact h.bel.os, by rw [e3]; exact h.bel.tape, by rw [e4]; exact h.bel.output, by rw [e1]; exact h.bel.size, fun k hk => by rw [e1]; exact h.bel.block k hk⟩⟩
set_option maxHeartbeats 4000000 in
set_option maxRecDepth 100000 in
theorem uniqMatches_good (o : Uq) (s : ByteArray) (w : World) (hok : uqOk o = true) (hb : bigB s = false) (hT : PowTab w) :
    Calls Tryz.prog 3 #[uqV o, .string s] w fun e w' => e = .returned (.bool true) ∧ Below w.heap.size w w' := by
  have hb1 := (Below.refl w.heap.size w).alloc (Nat.le_refl _) (.cells #[.int .i64 o.fields, .int .i64 o.skip, .int .i64 o.bytes, .bool o.fold, .bool o.count, .bool o.rep, .bool o.alone] 23)
  have n1 : UqIn (w.alloc (.cells #[.int .i64 o.fields, .int .i64 o.skip, .int .i64 o.bytes, .bool o.fold, .bool o.count, .bool o.rep, .bool o.alone] 23)) w.heap.size 23 o := heap_alloc_new _ _
  obtain ⟨W1, hW1⟩ : ∃ W1, w.alloc (.cells #[.int .i64 o.fields, .int .i64 o.skip, .int .i64 o.bytes, .bool o.fold, .bool o.count, .bool o.rep, .bool o.alone] 23) = W1 := ⟨_, rfl⟩
  rw [hW1] at hb1 n1
  have HB1 := hide hb1
  have HN1 := hide n1
  obtain ⟨hsz, hln, hls⟩ := bigB_prt hb
  have ho := uqOk_good hok
  have HF := hide (fun W (hW : Below w.heap.size w W) => uniq_good o s W hok hb (hT.below hW))
  have HLG := hide (fun W => largeU_any s W (by unfold maxLen; omega))
  simp only [hb] at HLG
  unfold uqOk at hok
  simp only [Bool.and_eq_true] at hok
  have HWa : Hid (∀ W, Calls Tryz.prog 9 #[.int .i64 o.fields, .int .i64 0, .int .i64 4096] W fun e w' => e = .returned (.bool true) ∧ W = w') := hide (fun W => by rw [← hok.1.1]; exact withinL_any _ _ _ W)
  have HWb : Hid (∀ W, Calls Tryz.prog 9 #[.int .i64 o.skip, .int .i64 0, .int .i64 4096] W fun e w' => e = .returned (.bool true) ∧ W = w') := hide (fun W => by rw [← hok.1.2]; exact withinL_any _ _ _ W)
  have HWc : Hid (∀ W, Calls Tryz.prog 9 #[.int .i64 o.bytes, .int .i64 0, .int .i64 4096] W fun e w' => e = .returned (.bool true) ∧ W = w') := hide (fun W => by rw [← hok.2]; exact withinL_any _ _ _ W)
  have HLI := hide (fun W => linesOf_any s W (by omega))
  have hgb := grpU_bound o (linesOf s) 65536 (by omega) hls (linesOf s).length 0 (by omega)
  have HGR := hide (fun (lv : Value) W (hW : Below w.heap.size w W) (hv : Strs W lv (linesOf s)) => grouped_any o lv (linesOf s) W ho hv hln hls (hT.below hW))
  have HLS := hide hls
  obtain ⟨L, hL⟩ : ∃ L, linesOf s = L := ⟨_, rfl⟩
  simp only [hL] at HLI HGR HLS hln hgb HF
  have HGZ := hide hgb.2.1
  have HRL : Hid ((resL (grpU o L 0)).length ≤ 1000000000) := hide (by
    have h1 := hgb.2.2
    have h2 : (L.length - 0) * (65536 + 23) ≤ 4096 * (65536 + 23) := Nat.mul_le_mul (by omega) (Nat.le_refl _)
    omega)
  obtain ⟨G, hG⟩ : ∃ G, grpU o L 0 = G := ⟨_, rfl⟩
  simp only [hG] at HGR HGZ HRL HF
  have HRS := hide (fun (v : Value) W (hv : Strs W v G) => resultOf_any v G W hv HRL.out)
  obtain ⟨TT, hTT⟩ : ∃ TT, mkB (resL G) = TT := ⟨_, rfl⟩
  simp only [hTT] at HF HRS
  have HUL : Hid (w.heap.size < W1.heap.size) := hide n1.lt
  have HW1 := hide hW1
  obtain ⟨d0, d1, d2, d3, d4, d5, d6⟩ := n1.cells
  unfold uqV at HF HGR ⊢
  clear hb1 n1 hok hb ho hL hG hTT hgb hls hW1 hsz
  go_enter Tryz.func3, Tryz.ntmps3
  go_wp2_with fail
  (try rw [HW1.out])
  refine (HF.out _ HB1.out).mono ?_
  rintro e w1 ⟨rfl, hb1⟩
  have HB2 := hide (HB1.out.trans (hb1.mono HB1.out.size))
  have HN2 := hide (HN1.out.below hb1 HN1.out.lt)
  clear hb1 d0 d1 d2 d3 d4 d5 d6
  obtain ⟨d0, d1, d2, d3, d4, d5, d6⟩ := HN2.out.cells
  go_wp2_with fail
  refine (HWa.out _).mono ?_
  rintro e w' ⟨rfl, rfl⟩
  go_wp2_with fail
  refine (HWb.out _).mono ?_
  rintro e w' ⟨rfl, rfl⟩
  go_wp2_with fail
  refine (HWc.out _).mono ?_
  rintro e w' ⟨rfl, rfl⟩
  go_wp2_with fail
  refine (when_any _ _ _).mono ?_
  rintro e w' ⟨rfl, rfl⟩
  go_wp2_with fail
  refine (HLG.out _).mono ?_
  rintro e w3 ⟨rfl, hb3⟩
  have HB4 := hide (HB2.out.trans (hb3.mono HB2.out.size))
  have HN4 := hide (HN2.out.below hb3 HN2.out.lt)
  clear hb3
  go_wp2_with fail
  refine (firstTwoU_any _ _ _).mono ?_
  rintro e w4 ⟨rfl, rfl⟩
  have e00 : firstNZ [(0 : Int), 0] = 0 := rfl
  rw [e00]
  have hal := (Below.refl w3.heap.size w3).alloc (Nat.le_refl _) (.cells #[.int .i64 0, .int .i64 0] 24)
  have HB5 := hide (HB4.out.trans (hal.mono HB4.out.size))
  have HN5 := hide (HN4.out.below hal HN4.out.lt)
  obtain ⟨W3, hW3⟩ : ∃ W3, w3.alloc (.cells #[.int .i64 0, .int .i64 0] 24) = W3 := ⟨_, rfl⟩
  rw [hW3] at HB5 HN5 ⊢
  clear hW3 hal e00 d0 d1 d2 d3 d4 d5 d6
  go_wp2_with fail
  refine (briefU_any _ _).mono ?_
  rintro e w' ⟨rfl, rfl⟩
  cases hbr : decide (s.size ≤ 3000)
  · clear hbr
    go_wp2_with fail
    refine (sorts_any _).mono ?_
    rintro e w4 ⟨rfl, hb4⟩
    have HB6 := hide (HB5.out.trans (hb4.mono HB5.out.size))
    clear hb4
    go_wp2_with fail
    refine (outcome_good _ _).mono ?_
    rintro e w' ⟨rfl, rfl⟩
    go_wp2_with fail
    go_ret
    exact ⟨rfl, HB6.out⟩
  · clear hbr
    go_wp2_with fail
    obtain ⟨d0, d1, d2, d3, d4, d5, d6⟩ := HN5.out.cells
    have EN : Hid (WEnv 23 w.heap.size o w W3) := hide ⟨HN5.out, HB5.out⟩
    have HSL : Hid (∀ x ∈ L, x.size ≤ maxLen) := hide (fun x hx => by have := HLS.out x hx; unfold maxLen; omega)
    have HSG : Hid (∀ x ∈ G, x.size ≤ maxLen) := hide (fun x hx => by have := HGZ.out x hx; unfold maxLen; omega)
    go_region_held3 (fun w' => w'.cell? ⟨w.heap.size, 0, none⟩ = some (.int .i64 o.fields) ∧ w'.cell? ⟨w.heap.size, 1, none⟩ = some (.int .i64 o.skip) ∧ w'.cell? ⟨w.heap.size, 2, none⟩ = some (.int .i64 o.bytes) ∧ w'.cell? ⟨w.heap.size, 3, none⟩ = some (.bool o.fold) ∧ w'.cell? ⟨w.heap.size, 4, none⟩ = some (.bool o.count) ∧ w'.cell? ⟨w.heap.size, 5, none⟩ = some (.bool o.rep) ∧ w'.cell? ⟨w.heap.size, 6, none⟩ = some (.bool o.alone)) (go_keep)
      (first
        | (go_at_call 14; (with_reducible refine (sorts_any _).mono ?_); rintro e wa ⟨rfl, hba⟩; have EN := hide (WEnv.next EN.out hba rfl rfl rfl rfl (Nat.le_refl _)); clear hba; obtain ⟨q0, q1, q2, q3, q4, q5, q6⟩ := EN.out.un.cells)
        | (go_at_call 18; (with_reducible refine (HLI.out _).mono ?_); rintro e wb ⟨vb, rfl, hob, hbb⟩; have EN := hide (WEnv.next EN.out hbb rfl rfl rfl rfl (Nat.le_refl _)); have HV := hide (hob.strs HSL.out); clear hob hbb; obtain ⟨q0, q1, q2, q3, q4, q5, q6⟩ := EN.out.un.cells)
        | (go_at_call 17; (with_reducible refine (HGR.out _ _ (by exact (WEnv.like EN.out rfl rfl rfl rfl).bel) (by exact HV.out)).mono ?_); rintro e wc ⟨vc, rfl, hoc, hbc⟩; have EN := hide (WEnv.next EN.out hbc rfl rfl rfl rfl (Nat.le_refl _)); have HVC := hide (hoc.strs HSG.out); clear hoc hbc; obtain ⟨q0, q1, q2, q3, q4, q5, q6⟩ := EN.out.un.cells)
        | (go_at_call 16; (with_reducible refine (HRS.out _ _ (by exact HVC.out)).mono ?_); rintro e w' ⟨rfl, rfl⟩)
        | (go_at_call 15; (with_reducible refine (outcome_good _ _).mono ?_); rintro e w' ⟨rfl, rfl⟩))
    all_goals
      have HBE := hide EN.out.bel
      go_wp2_with fail
      go_ret
      exact ⟨rfl, HBE.out⟩
theorem uniqMatches_any (o : Uq) (s : ByteArray) (w : World) (hs : s.size ≤ maxLen) (hT : PowTab w) :
    Calls Tryz.prog 3 #[uqV o, .string s] w fun e w' => e = .returned (.bool true) ∧ Below w.heap.size w w' := by
  by_cases he : uqErr o s = 0
  · unfold uqErr at he
    cases hok : uqOk o
    · rw [hok] at he
      simp [firstNZ] at he
    · cases hb : bigB s
      · exact uniqMatches_good o s w hok hb hT
      · rw [hok, hb] at he
        simp [firstNZ] at he
  · exact uniqMatches_bad o s _ w hs he rfl
end Go.Proofs.YtbelbgfigmbobaaGreatDoor
