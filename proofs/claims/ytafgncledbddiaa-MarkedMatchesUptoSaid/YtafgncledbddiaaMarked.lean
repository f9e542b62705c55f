import Derived.Test.YtafgncledbddiaaSigned
import Derived.Test.YtafgncledbddiaaDiffers
set_option linter.unusedSimpArgs false
set_option linter.unusedVariables false
namespace Go.Proofs.Ytafgncledbddiaa
open Go.RowKit Go.Pw

def pcBad (p : Pc) : Bool := if p.conf then decide (0 < p.lines.length) else decide (0 < p.base.length + p.a.length + p.b.length)
def pcErr (p : Pc) : Int := if pcBad p then 5 else listsErr [p.lines, p.base, p.a, p.b]

theorem strsL_four (w : World) (v1 v2 v3 v4 : Value) (a b c d : List ByteArray) (t : TypeId) (h1 : Strs w v1 a) (h2 : Strs w v2 b) (h3 : Strs w v3 c) (h4 : Strs w v4 d) :
    StrsL (w.alloc (.cells #[v1, v2, v3, v4] t)) (.slice (some ⟨w.heap.size, 0, none⟩) 4 4) [a, b, c, d] := by
  refine ⟨[v1, v2, v3, v4], rfl, ⟨by simp, _, 4, rfl, Nat.le_refl _, by unfold maxLen; omega, fun _ => ⟨w.heap.size, 0, rfl, by simp, fun j u hu => ?_⟩⟩, ?_⟩
  · rw [World.cell?_alloc_new]
    simpa using hu
  · intro i u l hu hl
    match i, hu, hl with
    | 0, hu, hl => simp at hu hl; subst hu hl; exact h1.alloc _
    | 1, hu, hl => simp at hu hl; subst hu hl; exact h2.alloc _
    | 2, hu, hl => simp at hu hl; subst hu hl; exact h3.alloc _
    | 3, hu, hl => simp at hu hl; subst hu hl; exact h4.alloc _
    | j + 4, hu, _ => simp at hu

/-- what Marked returns -/
def markedVal (ps : List Pc) : Value := if firstNZ (ps.map pcErr) = 0 then .tuple #[.string (strL (pcsT ps)), .int .i64 0] else .tuple #[.string ⟨#[]⟩, .int .i64 (firstNZ (ps.map pcErr))]
theorem marked_bad {ps : List Pc} {e : Int} (h : firstNZ (ps.map pcErr) = e) (he : ¬ e = 0) : markedVal ps = .tuple #[.string ⟨#[]⟩, .int .i64 e] := by
  unfold markedVal; rw [h, if_neg he]
theorem marked_good {ps : List Pc} (h : firstNZ (ps.map pcErr) = 0) : markedVal ps = .tuple #[.string (strL (pcsT ps)), .int .i64 0] := by
  unfold markedVal; rw [h, if_pos rfl]

set_option maxHeartbeats 4000000 in
set_option maxRecDepth 100000 in
theorem marked_any (v : Value) (ps : List Pc) (w : World) (h : Pieces w v ps) (hw : pcsW ps ≤ 1048576) :
    Calls Try.prog 21 #[v] w fun e w' => e = .returned (markedVal ps) ∧ Below w.heap.size w w' := by
  obtain ⟨vs, hvs, ⟨_, A, ca, rfl, hca, hma, hxa⟩, hel⟩ := h
  unfold maxLen at hma
  have HVS := hide hvs
  have HXA := hide hxa
  have HE := hide hel
  clear hvs hxa hel
  have htl : (pcsT ps).length ≤ 34603008 := Nat.le_trans (pcsT_length ps) (by omega)
  go_enter Try.func21, Try.ntmps21
  go_wp2_with fail
  go_loopw [10] (fun i wr => ∃ k : Nat, k ≤ ps.length ∧ i = .int .i64 (k : Int) ∧ Hid (firstNZ (ps.map pcErr) = firstNZ ((ps.drop k).map pcErr)) ∧ Bld w.heap.size w.heap.size (pcsT (ps.take k)) wr ∧ Below w.heap.size w wr) (fun i _ => ps.length - (intOf i).toNat)
  case atStart => exact ⟨0, by omega, rfl, rfl, bld_new w, (Below.refl _ _).alloc (Nat.le_refl _) _⟩
  case round =>
    obtain ⟨k, hk, rfl, hf, hbk, hbw⟩ := hrel
    by_cases hlt : k < ps.length
    · obtain ⟨ba, oa, rfl, hba, hja⟩ := HXA.out (by omega)
      have kv : k < vs.length := by rw [HVS.out]; exact hlt
      have cs := pcCells_at ps vs k ps[k] vs[k] (List.getElem?_eq_getElem hlt) (List.getElem?_eq_getElem kv) HVS.out
      rw [Nat.mul_comm] at cs
      have a0 := (hbw.cell hba).trans (hja _ _ cs.1)
      have a1 := (hbw.cell hba).trans (hja _ _ cs.2.1)
      have a2 := (hbw.cell hba).trans (hja _ _ cs.2.2.1)
      have a3 := (hbw.cell hba).trans (hja _ _ cs.2.2.2.1)
      have a4 := (hbw.cell hba).trans (hja _ _ cs.2.2.2.2)
      clear cs hja
      simp only [← Nat.add_assoc] at a0 a1 a2 a3 a4
      have s1 := HE.out k ps[k] vs[k] (List.getElem?_eq_getElem hlt) (List.getElem?_eq_getElem kv)
      have hpw : pcW ps[k] ≤ 1048576 := Nat.le_trans (pcsW_mem (List.getElem_mem hlt)) hw
      have hto : (pcsT (ps.take k)).length ≤ 34603008 := Nat.le_trans (pcsT_take_le ps k) htl
      have HT := hide (pcsT_take_succ hlt)
      obtain ⟨acc, hacc⟩ : ∃ acc, pcsT (ps.take k) = acc := ⟨_, rfl⟩
      rw [hacc] at hto HT hbk
      clear hacc
      obtain ⟨p, hp⟩ : ∃ p, ps[k] = p := ⟨_, rfl⟩
      obtain ⟨u, hu⟩ : ∃ u, vs[k] = u := ⟨_, rfl⟩
      rw [hp] at a0 s1 hpw HT
      rw [hu] at a1 a2 a3 a4 s1
      have HP := hide hp
      clear hp hu kv
      obtain ⟨cf, ls, bs, la, bbs⟩ := p
      obtain ⟨x1, x2, x3, x4⟩ := u
      obtain ⟨t1, t2, t3, t4⟩ := s1
      simp only at a0 a1 a2 a3 a4 t1 t2 t3 t4
      obtain ⟨A1, n1, c1, e1⟩ := strs_form t1
      obtain ⟨A2, n2, c2, e2⟩ := strs_form t2
      obtain ⟨A3, n3, c3, e3⟩ := strs_form t3
      obtain ⟨A4, n4, c4, e4⟩ := strs_form t4
      subst e1 e2 e3 e4
      obtain rfl := t1.len
      obtain rfl := t2.len
      obtain rfl := t3.len
      obtain rfl := t4.len
      have T1 := hide t1
      have T2 := hide t2
      have T3 := hide t3
      have T4 := hide t4
      clear t1 t2 t3 t4
      have lza : ba < wr.heap.size := by have := hbw.size; omega
      have hW : linesW ls + linesW bs + linesW la + linesW bbs + 1 ≤ 1048576 := hpw
      clear hpw
      have hzz := hbw.size
      have HL : Hid (ls.length ≤ 9223372036854775807 ∧ bs.length ≤ 1048576 ∧ la.length ≤ 1048576 ∧ bbs.length ≤ 1048576) := by
        have h3 : ∀ m : List ByteArray, m.length ≤ linesW m := by
          intro m
          induction m with
          | nil => simp
          | cons s m ih => simp [linesW]; omega
        have := h3 ls; have := h3 bs; have := h3 la; have := h3 bbs
        exact ⟨by omega, by omega, by omega, by omega⟩
      obtain ⟨l1, l2, l3, l4⟩ := HL.out
      clear HL
      have bb1 := (Below.refl wr.heap.size wr).alloc (Nat.le_refl _) (.cells #[.bool cf, .slice A1 ls.length c1, .slice A2 bs.length c2, .slice A3 la.length c3, .slice A4 bbs.length c4] 42)
      have bb2 := bb1.alloc (by simp) (.cells #[.slice A1 ls.length c1, .slice A2 bs.length c2, .slice A3 la.length c3, .slice A4 bbs.length c4] 22)
      have hbp : Below w.heap.size w (wr.alloc (.cells #[.bool cf, .slice A1 ls.length c1, .slice A2 bs.length c2, .slice A3 la.length c3, .slice A4 bbs.length c4] 42)) := hbw.trans (bb1.mono hzz)
      have hbq := hbw.trans (bb2.mono hzz)
      have hSL0 := strsL_four _ _ _ _ _ ls bs la bbs 22 (T1.out.below hbp) (T2.out.below hbp) (T3.out.below hbp) (T4.out.below hbp)
      rw [size_alloc] at hSL0
      have hSL := hide hSL0
      clear hSL0
      have hbkq := hbk.below bb2
      have HPB := hide (show (((wr.alloc (.cells #[.bool cf, .slice A1 ls.length c1, .slice A2 bs.length c2, .slice A3 la.length c3, .slice A4 bbs.length c4] 42)).alloc (.cells #[.slice A1 ls.length c1, .slice A2 bs.length c2, .slice A3 la.length c3, .slice A4 bbs.length c4] 22)).heap[wr.heap.size]? = some (.cells #[.bool cf, .slice A1 ls.length c1, .slice A2 bs.length c2, .slice A3 la.length c3, .slice A4 bbs.length c4] 42 (0, 0))) from by
        rw [Lib.alloc_old _ _ _ (by simp)]
        exact heap_alloc_new _ _)
      clear bb1 bb2
      by_cases hbad : pcBad ⟨cf, ls, bs, la, bbs⟩ = true
      · --<M1
        have HV := hide (marked_bad (fnz_hit hf hlt (by rw [HP.out, pcErr, if_pos hbad]) (by decide : (5 : Int) ≠ 0)).symm (by decide))
        cases cf
        · have hs0 : (0 : Int) < (bs.length : Int) + (la.length : Int) + (bbs.length : Int) := by
            simp [pcBad] at hbad; omega
          clear hbad
          go_wp2_with fail
          go_ret2
          exact ⟨by rw [HV.out]; rfl, hbp⟩
        · have hs0 : 0 < ls.length := by simpa [pcBad] using hbad
          clear hbad
          go_wp2_with fail
          go_ret2
          exact ⟨by rw [HV.out]; rfl, hbp⟩
        --M1>
      · have HER : Hid (pcErr ⟨cf, ls, bs, la, bbs⟩ = listsErr [ls, bs, la, bbs]) := by
          show _ = _
          rw [pcErr, if_neg hbad]
        obtain ⟨er, her⟩ : ∃ er, listsErr [ls, bs, la, bbs] = er := ⟨_, rfl⟩
        rw [her] at HER
        have HEE := hide her
        clear her
        cases cf
        · have hs0 : ¬ (0 : Int) < (bs.length : Int) + (la.length : Int) + (bbs.length : Int) := by
            simp only [pcBad, Bool.false_eq_true, if_false, decide_eq_true_eq] at hbad; omega
          clear hbad
          go_wp2_with fail
          refine (listed_any _ [ls, bs, la, bbs] _ hSL.out).mono ?_
          rintro e w1 ⟨rfl, rfl⟩
          rw [HEE.out]
          by_cases her : er = 0
          · have HM := fnz_miss hf hlt (by rw [HP.out, HER.out, her])
            subst her
            go_wp2_with fail
            refine (signed_any _ _ acc [] _ ls w _ T1.out (Nat.le_refl _) hbq hbq.size hbkq (by omega) (by decide) (by omega)).mono ?_
            rintro e w2 ⟨rfl, hb2, hbe2, hoff2⟩
            have HTT : Hid (acc ++ signedT [] ls = pcsT (ps.take (k + 1))) := by
              show _ = _
              rw [HT.out, pcT]; simp [resT]
            rw [HTT.out] at hb2
            have hbw2 := hbq.trans hbe2
            go_wp2_with fail
            go_roundw
            case rel => exact ⟨k + 1, by omega, by go_num, HM, hb2, hbw2⟩
            case measure => simp [intOf]; omega
          · have HV := hide (marked_bad (fnz_hit hf hlt (by rw [HP.out, HER.out]) her).symm her)
            have hn : (er != 0) = true := by simpa using her
            clear her
            go_wp2_with fail
            go_ret2
            exact ⟨by rw [HV.out]; rfl, hbq⟩
        · have hs0 : ¬ 0 < ls.length := by simpa [pcBad] using hbad
          have hln : ls = [] := List.eq_nil_of_length_eq_zero (by omega)
          have HLN := hide hln
          clear hbad hln
          go_wp2_with fail
          refine (listed_any _ [ls, bs, la, bbs] _ hSL.out).mono ?_
          rintro e w1 ⟨rfl, rfl⟩
          rw [HEE.out]
          by_cases her : er = 0
          · have HM := fnz_miss hf hlt (by rw [HP.out, HER.out, her])
            subst her
            go_wp2_with fail
            refine (writeString_off _ _ _ _ _ hbkq (by have : (⟨#[60, 60, 60, 60, 60, 60, 60, 10]⟩ : ByteArray).size = 8 := rfl; omega) hbq.size).mono ?_
            rintro e w2 ⟨rfl, hb2, hbe2, hoff2⟩
            have hT1 : ∀ l : List ByteArray, (signedT [] l).length = linesW l := resT_length
            have hsize8 : ∀ c : UInt8, (⟨#[c, c, c, c, c, c, c, 10]⟩ : ByteArray).size = 8 := fun _ => rfl
            have hdat : ∀ c : UInt8, (⟨#[c, c, c, c, c, c, c, 10]⟩ : ByteArray).data.toList = cut7 c := fun _ => rfl
            have HS8 := hide hsize8
            have HDT := hide hdat
            have HT1 := hide hT1
            clear hsize8 hdat hT1
            have hbw2 := hbq.trans hbe2
            have HP2 := hide ((hoff2 _ _ _ _ HPB.out (by decide) (by decide)).trans HPB.out)
            rw [HDT.out] at hb2
            have cc3 : w2.cell? ⟨wr.heap.size, 3, none⟩ = some (.slice A3 la.length c3) := by rw [Lib.cell_of_heap HP2.out]; rfl
            have hlen3 : (acc ++ cut7 60).length ≤ 1000000000000 := by simp only [List.length_append, cut7, List.length_cons, List.length_nil, HT1.out]; omega
            go_wp2_with fail
            refine (signed_any _ _ _ [] _ la w _ T3.out (Nat.le_refl _) hbw2 hbw2.size hb2 (by omega) (by decide) hlen3).mono ?_
            rintro e w3 ⟨rfl, hb3, hbe3, hoff3⟩
            clear cc3 hlen3
            have hbw3 := hbw2.trans hbe3
            have HP3 := hide ((hoff3 _ _ _ _ HP2.out (by decide) (by decide)).trans HP2.out)
            clear hbe3 hoff3 hb2 hbw2 HP2
            have hlen4 : (acc ++ cut7 60 ++ signedT [] la).length + (⟨#[124, 124, 124, 124, 124, 124, 124, 10]⟩ : ByteArray).size ≤ 140737488355328 := by rw [HS8.out 124]; simp only [List.length_append, cut7, List.length_cons, List.length_nil, HT1.out]; omega
            go_wp2_with fail
            refine (writeString_off _ _ _ _ _ hb3 hlen4 hbw3.size).mono ?_
            rintro e w4 ⟨rfl, hb4, hbe4, hoff4⟩
            rw [HDT.out] at hb4
            clear hlen4
            have hbw4 := hbw3.trans hbe4
            have HP4 := hide ((hoff4 _ _ _ _ HP3.out (by decide) (by decide)).trans HP3.out)
            clear hbe4 hoff4 hb3 hbw3 HP3
            have cc5 : w4.cell? ⟨wr.heap.size, 2, none⟩ = some (.slice A2 bs.length c2) := by rw [Lib.cell_of_heap HP4.out]; rfl
            have hlen5 : (acc ++ cut7 60 ++ signedT [] la ++ cut7 124).length ≤ 1000000000000 := by simp only [List.length_append, cut7, List.length_cons, List.length_nil, HT1.out]; omega
            go_wp2_with fail
            refine (signed_any _ _ _ [] _ bs w _ T2.out (Nat.le_refl _) hbw4 hbw4.size hb4 (by omega) (by decide) hlen5).mono ?_
            rintro e w5 ⟨rfl, hb5, hbe5, hoff5⟩
            clear cc5 hlen5
            have hbw5 := hbw4.trans hbe5
            have HP5 := hide ((hoff5 _ _ _ _ HP4.out (by decide) (by decide)).trans HP4.out)
            clear hbe5 hoff5 hb4 hbw4 HP4
            have hlen6 : (acc ++ cut7 60 ++ signedT [] la ++ cut7 124 ++ signedT [] bs).length + (⟨#[61, 61, 61, 61, 61, 61, 61, 10]⟩ : ByteArray).size ≤ 140737488355328 := by rw [HS8.out 61]; simp only [List.length_append, cut7, List.length_cons, List.length_nil, HT1.out]; omega
            go_wp2_with fail
            refine (writeString_off _ _ _ _ _ hb5 hlen6 hbw5.size).mono ?_
            rintro e w6 ⟨rfl, hb6, hbe6, hoff6⟩
            rw [HDT.out] at hb6
            clear hlen6
            have hbw6 := hbw5.trans hbe6
            have HP6 := hide ((hoff6 _ _ _ _ HP5.out (by decide) (by decide)).trans HP5.out)
            clear hbe6 hoff6 hb5 hbw5 HP5
            have cc7 : w6.cell? ⟨wr.heap.size, 4, none⟩ = some (.slice A4 bbs.length c4) := by rw [Lib.cell_of_heap HP6.out]; rfl
            have hlen7 : (acc ++ cut7 60 ++ signedT [] la ++ cut7 124 ++ signedT [] bs ++ cut7 61).length ≤ 1000000000000 := by simp only [List.length_append, cut7, List.length_cons, List.length_nil, HT1.out]; omega
            go_wp2_with fail
            refine (signed_any _ _ _ [] _ bbs w _ T4.out (Nat.le_refl _) hbw6 hbw6.size hb6 (by omega) (by decide) hlen7).mono ?_
            rintro e w7 ⟨rfl, hb7, hbe7, hoff7⟩
            clear cc7 hlen7
            have hbw7 := hbw6.trans hbe7
            have HP7 := hide ((hoff7 _ _ _ _ HP6.out (by decide) (by decide)).trans HP6.out)
            clear hbe7 hoff7 hb6 hbw6 HP6
            have hlen8 : (acc ++ cut7 60 ++ signedT [] la ++ cut7 124 ++ signedT [] bs ++ cut7 61 ++ signedT [] bbs).length + (⟨#[62, 62, 62, 62, 62, 62, 62, 10]⟩ : ByteArray).size ≤ 140737488355328 := by rw [HS8.out 62]; simp only [List.length_append, cut7, List.length_cons, List.length_nil, HT1.out]; omega
            go_wp2_with fail
            refine (writeString_off _ _ _ _ _ hb7 hlen8 hbw7.size).mono ?_
            rintro e w8 ⟨rfl, hb8, hbe8, hoff8⟩
            rw [HDT.out] at hb8
            clear hlen8
            have hbw8 := hbw7.trans hbe8
            have HP8 := hide ((hoff8 _ _ _ _ HP7.out (by decide) (by decide)).trans HP7.out)
            clear hbe8 hoff8 hb7 hbw7 HP7
            have HTT : Hid ((acc ++ cut7 60 ++ signedT [] la ++ cut7 124 ++ signedT [] bs ++ cut7 61 ++ signedT [] bbs ++ cut7 62) = pcsT (ps.take (k + 1))) := by
              show _ = _
              rw [HT.out, pcT, HLN.out]; simp [resT, confT, signedT]
            rw [HTT.out] at hb8
            go_wp2_with fail
            go_roundw
            case rel => exact ⟨k + 1, by omega, by go_num, HM, hb8, hbw8⟩
            case measure => simp [intOf]; omega
          · have HV := hide (marked_bad (fnz_hit hf hlt (by rw [HP.out, HER.out]) her).symm her)
            have hn : (er != 0) = true := by simpa using her
            clear her
            go_wp2_with fail
            go_ret2
            exact ⟨by rw [HV.out]; rfl, hbq⟩
    · have hfin : firstNZ (ps.map pcErr) = 0 := (fnz_end hf hlt).symm
      have HV := hide (marked_good hfin)
      have hall : ps.take k = ps := List.take_of_length_le (by omega)
      rw [hall] at hbk
      clear hfin hall
      have hz := hbw.size
      go_wp2_with fail
      refine (bldString_any _ _ _ _ hbk hz).mono ?_
      rintro e w2 ⟨rfl, hb2⟩
      go_wp2_with fail
      go_ret2
      exact ⟨by rw [HV.out]; rfl, hbw.trans hb2⟩
end Go.Proofs.Ytafgncledbddiaa
