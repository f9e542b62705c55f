import Derived.Test.YtafgncledbddiaaMarkedText
import Derived.Deep.RegionHeld3
set_option linter.unusedSimpArgs false
set_option linter.unusedVariables false
namespace Go.Proofs.Ytafgncledbddiaa
open Go.RowKit Go.Pw

theorem firstNZ_snoc (l : List Int) (x : Int) : firstNZ (l ++ [x]) = if firstNZ l = 0 then x else firstNZ l := by
  induction l with
  | nil => by_cases h : x = 0 <;> simp [firstNZ, h]
  | cons y l ih =>
    simp only [List.cons_append, firstNZ, ih]
    split <;> rfl
theorem errs_take_succ {ps : List Pc} {k : Nat} (h : k < ps.length) : firstNZ ((ps.take (k + 1)).map pcErr) = if firstNZ ((ps.take k).map pcErr) = 0 then pcErr ps[k] else firstNZ ((ps.take k).map pcErr) := by
  rw [List.take_succ_eq_append_getElem h, List.map_append, List.map_cons, List.map_nil, firstNZ_snoc]
theorem three_first (A E : Int) (p : Pc) (he : listsErr [p.lines, p.base, p.a, p.b] = E) (bd : Bool) (hb : pcBad p = bd) :
    firstNZ [A, if bd then 5 else 0, E] = if A = 0 then pcErr p else A := by
  subst he hb
  by_cases h : A = 0
  · subst h
    by_cases hl : listsErr [p.lines, p.base, p.a, p.b] = 0
    · cases hb : pcBad p <;> simp [firstNZ, pcErr, hb, hl]
    · cases hb : pcBad p <;> simp [firstNZ, pcErr, hb, hl]
  · simp [firstNZ, h]
theorem rd_three (w : World) (a b c : Int) (t : TypeId) : Rd (w.alloc (.cells #[.int .i64 a, .int .i64 b, .int .i64 c] t)) 1 (.slice (some ⟨w.heap.size, 0, none⟩) 3 3) [a, b, c].length ([a, b, c].map (Value.int .i64)) := by
  refine ⟨rfl, _, 3, rfl, Nat.le_refl _, by unfold maxLen; omega, fun _ => ⟨w.heap.size, 0, rfl, by simp, fun j u hu => ?_⟩⟩
  rw [World.cell?_alloc_new]
  simpa using hu

theorem listsError_eq (v : Value) (ls : List (List ByteArray)) (E : Int) (w : World) (he : listsErr ls = E) (h : StrsL w v ls) :
    Calls Try.prog 14 #[v] w fun e w' => e = .returned (.int .i64 E) ∧ w = w' := by
  subst he; exact listsError_any v ls w h
theorem StrsL.drew {w : World} {v : Value} {l : List (List ByteArray)} (h : StrsL w v l) : StrsL w.drew v l := h
theorem Rd.drew {w : World} {n k : Nat} {v : Value} {l : List Value} (h : Rd w k v n l) : Rd w.drew k v n l := h

set_option maxHeartbeats 4000000 in
set_option maxRecDepth 100000 in
theorem markedMatches_any (v : Value) (ps : List Pc) (w : World) (h : Pieces w v ps) (hw : pcsW ps ≤ 1048576) :
    Calls Try.prog 5 #[v] w fun e w' => e = .returned (.bool true) ∧ Below w.heap.size w w' := by
  have HH := hide h
  obtain ⟨vs, hvs, ⟨_, A, ca, rfl, hca, hma, hxa⟩, hel⟩ := h
  unfold maxLen at hma
  have HVS := hide hvs
  have HXA := hide hxa
  have HE := hide hel
  clear hvs hxa hel
  obtain ⟨mt, me, hmv⟩ : ∃ (mt : ByteArray) (me : Int), markedVal ps = .tuple #[.string mt, .int .i64 me] := by
    unfold markedVal; split <;> exact ⟨_, _, rfl⟩
  have HMV := hide hmv
  clear hmv
  go_enter Try.func5, Try.ntmps5
  go_wp2_with fail
  refine (marked_any _ ps _ HH.out hw).mono ?_
  rintro e w1 ⟨rfl, hb1⟩
  rw [HMV.out]
  go_wp2_with fail
  go_loopw [5, 16] (fun e i wr => ∃ k : Nat, k ≤ ps.length ∧ i = .int .i64 (k : Int) ∧ e = .int .i64 (firstNZ ((ps.take k).map pcErr)) ∧ Below w.heap.size w wr) (fun _ i _ => ps.length - (intOf i).toNat)
  case atStart => exact ⟨0, by omega, rfl, rfl, hb1⟩
  case round =>
    obtain ⟨k, hk, rfl, rfl, hbw⟩ := hrel
    by_cases hlt : k < ps.length
    · obtain ⟨ba, oa, rfl, hba, hja⟩ := HXA.out (by omega)
      have kv : k < vs.length := by rw [HVS.out]; exact hlt
      have cs := pcCells_at ps vs k ps[k] vs[k] (List.getElem?_eq_getElem hlt) (List.getElem?_eq_getElem kv) HVS.out
      rw [Nat.mul_comm] at cs
      have a0 := (hbw.cell hba).trans (hja _ _ cs.1)
      have a1 := (hbw.cell hba).trans (hja _ _ cs.2.1)
      have a2 := (hbw.cell hba).trans (hja _ _ cs.2.2.1)
      have a3 := (hbw.cell hba).trans (hja _ _ cs.2.2.2.1)
      have a4 := (hbw.cell hba).trans (hja _ _ cs.2.2.2.2)
      clear cs hja
      simp only [← Nat.add_assoc] at a0 a1 a2 a3 a4
      have s1 := HE.out k ps[k] vs[k] (List.getElem?_eq_getElem hlt) (List.getElem?_eq_getElem kv)
      have hpw : pcW ps[k] ≤ 1048576 := Nat.le_trans (pcsW_mem (List.getElem_mem hlt)) hw
      have HT := hide (errs_take_succ hlt)
      obtain ⟨p, hp⟩ : ∃ p, ps[k] = p := ⟨_, rfl⟩
      obtain ⟨u, hu⟩ : ∃ u, vs[k] = u := ⟨_, rfl⟩
      rw [hp] at a0 s1 hpw HT
      rw [hu] at a1 a2 a3 a4 s1
      clear hp hu kv
      obtain ⟨cf, ls, bs, la, bbs⟩ := p
      obtain ⟨x1, x2, x3, x4⟩ := u
      obtain ⟨t1, t2, t3, t4⟩ := s1
      simp only at a0 a1 a2 a3 a4 t1 t2 t3 t4
      obtain ⟨A1, n1, c1, e1⟩ := strs_form t1
      obtain ⟨A2, n2, c2, e2⟩ := strs_form t2
      obtain ⟨A3, n3, c3, e3⟩ := strs_form t3
      obtain ⟨A4, n4, c4, e4⟩ := strs_form t4
      subst e1 e2 e3 e4
      obtain rfl := t1.len
      obtain rfl := t2.len
      obtain rfl := t3.len
      obtain rfl := t4.len
      have T1 := hide t1
      have T2 := hide t2
      have T3 := hide t3
      have T4 := hide t4
      clear t1 t2 t3 t4
      have lza : ba < wr.heap.size := by have := hbw.size; omega
      have hW : linesW ls + linesW bs + linesW la + linesW bbs + 1 ≤ 1048576 := hpw
      clear hpw
      have hzz := hbw.size
      have bb1 := (Below.refl wr.heap.size wr).alloc (Nat.le_refl _) (.cells #[.bool cf, .slice A1 ls.length c1, .slice A2 bs.length c2, .slice A3 la.length c3, .slice A4 bbs.length c4] 42)
      have hbp : Below w.heap.size w (wr.alloc (.cells #[.bool cf, .slice A1 ls.length c1, .slice A2 bs.length c2, .slice A3 la.length c3, .slice A4 bbs.length c4] 42)) := hbw.trans (bb1.mono hzz)
      clear bb1
      have h3 : ∀ m : List ByteArray, m.length ≤ linesW m := by
        intro m
        induction m with
        | nil => simp
        | cons s m ih => simp [linesW]; omega
      have l1 : ls.length ≤ 1048576 := by have := h3 ls; omega
      have l2 : bs.length ≤ 1048576 := by have := h3 bs; omega
      have l3 : la.length ≤ 1048576 := by have := h3 la; omega
      have l4 : bbs.length ≤ 1048576 := by have := h3 bbs; omega
      clear h3
      have hSL0 := strsL_four _ _ _ _ _ ls bs la bbs 22 (T1.out.below hbp) (T2.out.below hbp) (T3.out.below hbp) (T4.out.below hbp)
      rw [size_alloc] at hSL0
      have hSL := hide hSL0
      clear hSL0
      obtain ⟨W0, hW0⟩ : ∃ W0, firstNZ ((ps.take k).map pcErr) = W0 := ⟨_, rfl⟩
      rw [hW0] at HT ⊢
      clear hW0
      obtain ⟨E, hE⟩ : ∃ E, listsErr [ls, bs, la, bbs] = E := ⟨_, rfl⟩
      have HEE := hide hE
      clear hE
      cases cf
      · by_cases hbad : pcBad ⟨false, ls, bs, la, bbs⟩ = true
        · have hs0 : (0 : Int) < (bs.length : Int) + (la.length : Int) + (bbs.length : Int) := by simp only [pcBad, Bool.false_eq_true, if_false, if_true, decide_eq_true_eq, Bool.not_eq_true, decide_eq_false_iff_not] at hbad; omega
          have H3 := hide (three_first W0 E ⟨false, ls, bs, la, bbs⟩ HEE.out true hbad)
          clear hbad
          have hR3 := rd_three ((wr.alloc (.cells #[.bool false, .slice A1 ls.length c1, .slice A2 bs.length c2, .slice A3 la.length c3, .slice A4 bbs.length c4] 42)).alloc (.cells #[.slice A1 ls.length c1, .slice A2 bs.length c2, .slice A3 la.length c3, .slice A4 bbs.length c4] 22)) W0 (if true then 5 else 0) E 24
          rw [size_alloc, size_alloc] at hR3
          have HR3 := hide hR3
          clear hR3
          go_wp2_with fail
          go_region_held3 (fun w' => w'.cell? ⟨wr.heap.size, 1, none⟩ = some (.slice A1 ls.length c1) ∧ w'.cell? ⟨wr.heap.size, 2, none⟩ = some (.slice A2 bs.length c2) ∧ w'.cell? ⟨wr.heap.size, 3, none⟩ = some (.slice A3 la.length c3) ∧ w'.cell? ⟨wr.heap.size, 4, none⟩ = some (.slice A4 bbs.length c4)) (go_keep) (first | (go_at_call 23; refine (when_any _ _ _).mono ?_; rintro e w' ⟨rfl, rfl⟩) | (go_at_call 14; refine (listsError_eq _ [ls, bs, la, bbs] E _ HEE.out (StrsL.drew hSL.out)).mono ?_; rintro e w' ⟨rfl, rfl⟩) | (go_at_call 22; refine (first_any _ [W0, if true then 5 else 0, E] _ (Rd.drew HR3.out)).mono ?_; rintro e w' ⟨rfl, rfl⟩))
          all_goals
            go_wp2_with fail
            go_roundw
            case rel => exact ⟨k + 1, by omega, by go_num, by rw [HT.out]; exact congrArg (Value.int .i64) H3.out, ((hbp.alloc (by simp; omega) _).alloc (by simp; omega) _).drew⟩
            case measure => simp [intOf]; omega
        · replace hbad : pcBad ⟨false, ls, bs, la, bbs⟩ = false := by simpa using hbad
          have hs0 : ¬ (0 : Int) < (bs.length : Int) + (la.length : Int) + (bbs.length : Int) := by simp only [pcBad, Bool.false_eq_true, if_false, if_true, decide_eq_true_eq, Bool.not_eq_true, decide_eq_false_iff_not] at hbad; omega
          have H3 := hide (three_first W0 E ⟨false, ls, bs, la, bbs⟩ HEE.out false hbad)
          clear hbad
          have hR3 := rd_three ((wr.alloc (.cells #[.bool false, .slice A1 ls.length c1, .slice A2 bs.length c2, .slice A3 la.length c3, .slice A4 bbs.length c4] 42)).alloc (.cells #[.slice A1 ls.length c1, .slice A2 bs.length c2, .slice A3 la.length c3, .slice A4 bbs.length c4] 22)) W0 (if false then 5 else 0) E 24
          rw [size_alloc, size_alloc] at hR3
          have HR3 := hide hR3
          clear hR3
          go_wp2_with fail
          go_region_held3 (fun w' => w'.cell? ⟨wr.heap.size, 1, none⟩ = some (.slice A1 ls.length c1) ∧ w'.cell? ⟨wr.heap.size, 2, none⟩ = some (.slice A2 bs.length c2) ∧ w'.cell? ⟨wr.heap.size, 3, none⟩ = some (.slice A3 la.length c3) ∧ w'.cell? ⟨wr.heap.size, 4, none⟩ = some (.slice A4 bbs.length c4)) (go_keep) (first | (go_at_call 23; refine (when_any _ _ _).mono ?_; rintro e w' ⟨rfl, rfl⟩) | (go_at_call 14; refine (listsError_eq _ [ls, bs, la, bbs] E _ HEE.out (StrsL.drew hSL.out)).mono ?_; rintro e w' ⟨rfl, rfl⟩) | (go_at_call 22; refine (first_any _ [W0, if false then 5 else 0, E] _ (Rd.drew HR3.out)).mono ?_; rintro e w' ⟨rfl, rfl⟩))
          all_goals
            go_wp2_with fail
            go_roundw
            case rel => exact ⟨k + 1, by omega, by go_num, by rw [HT.out]; exact congrArg (Value.int .i64) H3.out, ((hbp.alloc (by simp; omega) _).alloc (by simp; omega) _).drew⟩
            case measure => simp [intOf]; omega
      · by_cases hbad : pcBad ⟨true, ls, bs, la, bbs⟩ = true
        · have hs0 : 0 < ls.length := by simp only [pcBad, Bool.false_eq_true, if_false, if_true, decide_eq_true_eq, Bool.not_eq_true, decide_eq_false_iff_not] at hbad; omega
          have H3 := hide (three_first W0 E ⟨true, ls, bs, la, bbs⟩ HEE.out true hbad)
          clear hbad
          have hR3 := rd_three ((wr.alloc (.cells #[.bool true, .slice A1 ls.length c1, .slice A2 bs.length c2, .slice A3 la.length c3, .slice A4 bbs.length c4] 42)).alloc (.cells #[.slice A1 ls.length c1, .slice A2 bs.length c2, .slice A3 la.length c3, .slice A4 bbs.length c4] 22)) W0 (if true then 5 else 0) E 24
          rw [size_alloc, size_alloc] at hR3
          have HR3 := hide hR3
          clear hR3
          go_wp2_with fail
          go_region_held3 (fun w' => w'.cell? ⟨wr.heap.size, 1, none⟩ = some (.slice A1 ls.length c1) ∧ w'.cell? ⟨wr.heap.size, 2, none⟩ = some (.slice A2 bs.length c2) ∧ w'.cell? ⟨wr.heap.size, 3, none⟩ = some (.slice A3 la.length c3) ∧ w'.cell? ⟨wr.heap.size, 4, none⟩ = some (.slice A4 bbs.length c4)) (go_keep) (first | (go_at_call 23; refine (when_any _ _ _).mono ?_; rintro e w' ⟨rfl, rfl⟩) | (go_at_call 14; refine (listsError_eq _ [ls, bs, la, bbs] E _ HEE.out (StrsL.drew hSL.out)).mono ?_; rintro e w' ⟨rfl, rfl⟩) | (go_at_call 22; refine (first_any _ [W0, if true then 5 else 0, E] _ (Rd.drew HR3.out)).mono ?_; rintro e w' ⟨rfl, rfl⟩))
          all_goals
            go_wp2_with fail
            go_roundw
            case rel => exact ⟨k + 1, by omega, by go_num, by rw [HT.out]; exact congrArg (Value.int .i64) H3.out, ((hbp.alloc (by simp; omega) _).alloc (by simp; omega) _).drew⟩
            case measure => simp [intOf]; omega
        · replace hbad : pcBad ⟨true, ls, bs, la, bbs⟩ = false := by simpa using hbad
          have hs0 : ¬ 0 < ls.length := by simp only [pcBad, Bool.false_eq_true, if_false, if_true, decide_eq_true_eq, Bool.not_eq_true, decide_eq_false_iff_not] at hbad; omega
          have H3 := hide (three_first W0 E ⟨true, ls, bs, la, bbs⟩ HEE.out false hbad)
          clear hbad
          have hR3 := rd_three ((wr.alloc (.cells #[.bool true, .slice A1 ls.length c1, .slice A2 bs.length c2, .slice A3 la.length c3, .slice A4 bbs.length c4] 42)).alloc (.cells #[.slice A1 ls.length c1, .slice A2 bs.length c2, .slice A3 la.length c3, .slice A4 bbs.length c4] 22)) W0 (if false then 5 else 0) E 24
          rw [size_alloc, size_alloc] at hR3
          have HR3 := hide hR3
          clear hR3
          go_wp2_with fail
          go_region_held3 (fun w' => w'.cell? ⟨wr.heap.size, 1, none⟩ = some (.slice A1 ls.length c1) ∧ w'.cell? ⟨wr.heap.size, 2, none⟩ = some (.slice A2 bs.length c2) ∧ w'.cell? ⟨wr.heap.size, 3, none⟩ = some (.slice A3 la.length c3) ∧ w'.cell? ⟨wr.heap.size, 4, none⟩ = some (.slice A4 bbs.length c4)) (go_keep) (first | (go_at_call 23; refine (when_any _ _ _).mono ?_; rintro e w' ⟨rfl, rfl⟩) | (go_at_call 14; refine (listsError_eq _ [ls, bs, la, bbs] E _ HEE.out (StrsL.drew hSL.out)).mono ?_; rintro e w' ⟨rfl, rfl⟩) | (go_at_call 22; refine (first_any _ [W0, if false then 5 else 0, E] _ (Rd.drew HR3.out)).mono ?_; rintro e w' ⟨rfl, rfl⟩))
          all_goals
            go_wp2_with fail
            go_roundw
            case rel => exact ⟨k + 1, by omega, by go_num, by rw [HT.out]; exact congrArg (Value.int .i64) H3.out, ((hbp.alloc (by simp; omega) _).alloc (by simp; omega) _).drew⟩
            case measure => simp [intOf]; omega
    · have hall : ps.take k = ps := List.take_of_length_le (by omega)
      rw [hall]
      clear hall
      by_cases h0 : firstNZ (ps.map pcErr) = 0
      · have hg := marked_good h0
        rw [HMV.out] at hg
        simp only [Value.tuple.injEq, Array.mk.injEq, List.cons.injEq, Value.string.injEq, Value.int.injEq, true_and, and_true] at hg
        obtain ⟨rfl, rfl⟩ := hg
        rw [h0]
        clear h0
        go_wp2_with fail
        refine (differs_any _).mono ?_
        rintro e w3 ⟨rfl, hb3⟩
        have hb4 := hbw.trans (hb3.mono hbw.size)
        go_wp2_with fail
        refine (markedText_any _ ps _ (HH.out.below hb4) hw).mono ?_
        rintro e w5 ⟨rfl, hb5⟩
        have hb6 := hb4.trans (hb5.mono hb4.size)
        go_wp2_with fail
        refine (outcome_good _ _).mono ?_
        rintro e w6 ⟨rfl, rfl⟩
        go_wp2_with fail
        go_ret
        exact ⟨ret_bool (by simp), hb6⟩
      · have hg := marked_bad rfl h0
        rw [HMV.out] at hg
        simp only [Value.tuple.injEq, Array.mk.injEq, List.cons.injEq, Value.string.injEq, Value.int.injEq, true_and, and_true] at hg
        obtain ⟨rfl, hg2⟩ := hg
        rw [← hg2] at h0 ⊢
        have H0 := hide h0
        clear h0 hg2
        go_wp2_with fail
        refine (differs_any _).mono ?_
        rintro e w3 ⟨rfl, hb3⟩
        have hb4 := hbw.trans (hb3.mono hbw.size)
        go_wp2_with fail
        refine (markedText_any _ ps _ (HH.out.below hb4) hw).mono ?_
        rintro e w5 ⟨rfl, hb5⟩
        have hb6 := hb4.trans (hb5.mono hb4.size)
        go_wp2_with fail
        refine (outcome_bad _ _ _ H0.out).mono ?_
        rintro e w6 ⟨rfl, rfl⟩
        go_wp2_with fail
        go_ret
        exact ⟨ret_bool (by simp), hb6⟩
end Go.Proofs.Ytafgncledbddiaa
