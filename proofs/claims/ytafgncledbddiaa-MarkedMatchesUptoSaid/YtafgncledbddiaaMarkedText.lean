import Derived.Test.YtafgncledbddiaaMarked
import Derived.Deep.QuietTactic
import Derived.BigQuiet
set_option linter.unusedSimpArgs false
set_option linter.unusedVariables false
namespace Go.Proofs.Ytafgncledbddiaa
open Go.RowKit Go.Pw

theorem resultOf_same (v : Value) (l : List ByteArray) (r : ByteArray) (w : World) (h : Strs w v l) (hw : linesW l ≤ 1048576) (hr : strL (resT l) = r) :
    Calls Try.prog 67 #[v] w fun e w' => e = .returned (.string r) ∧ w' = w :=
  (resultOf_any v l w h hw).mono fun e w' ⟨h1, h2⟩ => ⟨by rw [h1, hr], h2.symm⟩
theorem strL_resT_size (l : List ByteArray) : (strL (resT l)).size = linesW l := by rw [strL_size, resT_length]

set_option maxHeartbeats 4000000 in
set_option maxRecDepth 100000 in
theorem markedText_any (v : Value) (ps : List Pc) (w : World) (h : Pieces w v ps) (hw : pcsW ps ≤ 1048576) :
    Calls Try.prog 25 #[v] w fun e w' => e = .returned (.string (strL (pcsT ps))) ∧ Below w.heap.size w w' := by
  obtain ⟨vs, hvs, ⟨_, A, ca, rfl, hca, hma, hxa⟩, hel⟩ := h
  unfold maxLen at hma
  have HVS := hide hvs
  have HXA := hide hxa
  have HE := hide hel
  clear hvs hxa hel
  have htl : (pcsT ps).length ≤ 34603008 := Nat.le_trans (pcsT_length ps) (by omega)
  go_enter Try.func25, Try.ntmps25
  go_wp2_with fail
  go_loopw [3, 8] (fun s i wr => ∃ k : Nat, k ≤ ps.length ∧ i = .int .i64 (k : Int) ∧ s = .string (strL (pcsT (ps.take k))) ∧ Below w.heap.size w wr) (fun _ i _ => ps.length - (intOf i).toNat)
  case atStart => exact ⟨0, by omega, rfl, rfl, Below.refl _ _⟩
  case round =>
    obtain ⟨k, hk, rfl, rfl, hbw⟩ := hrel
    by_cases hlt : k < ps.length
    · obtain ⟨ba, oa, rfl, hba, hja⟩ := HXA.out (by omega)
      have kv : k < vs.length := by rw [HVS.out]; exact hlt
      have cs := pcCells_at ps vs k ps[k] vs[k] (List.getElem?_eq_getElem hlt) (List.getElem?_eq_getElem kv) HVS.out
      rw [Nat.mul_comm] at cs
      have a0 := (hbw.cell hba).trans (hja _ _ cs.1)
      have a1 := (hbw.cell hba).trans (hja _ _ cs.2.1)
      have a2 := (hbw.cell hba).trans (hja _ _ cs.2.2.1)
      have a3 := (hbw.cell hba).trans (hja _ _ cs.2.2.2.1)
      have a4 := (hbw.cell hba).trans (hja _ _ cs.2.2.2.2)
      clear cs hja
      simp only [← Nat.add_assoc] at a0 a1 a2 a3 a4
      have s1 := HE.out k ps[k] vs[k] (List.getElem?_eq_getElem hlt) (List.getElem?_eq_getElem kv)
      have hpw : pcW ps[k] ≤ 1048576 := Nat.le_trans (pcsW_mem (List.getElem_mem hlt)) hw
      have hto : (strL (pcsT (ps.take k))).size ≤ 34603008 := by rw [strL_size]; exact Nat.le_trans (pcsT_take_le ps k) htl
      have HT := hide (pcsT_take_succ hlt)
      obtain ⟨acc, hacc⟩ : ∃ acc, strL (pcsT (ps.take k)) = acc := ⟨_, rfl⟩
      rw [hacc] at hto ⊢
      have HAC := hide hacc
      clear hacc
      obtain ⟨p, hp⟩ : ∃ p, ps[k] = p := ⟨_, rfl⟩
      obtain ⟨u, hu⟩ : ∃ u, vs[k] = u := ⟨_, rfl⟩
      rw [hp] at a0 s1 hpw HT
      rw [hu] at a1 a2 a3 a4 s1
      clear hp hu kv
      obtain ⟨cf, ls, bs, la, bbs⟩ := p
      obtain ⟨x1, x2, x3, x4⟩ := u
      obtain ⟨t1, t2, t3, t4⟩ := s1
      simp only at a0 a1 a2 a3 a4 t1 t2 t3 t4
      obtain ⟨A1, n1, c1, e1⟩ := strs_form t1
      obtain ⟨A2, n2, c2, e2⟩ := strs_form t2
      obtain ⟨A3, n3, c3, e3⟩ := strs_form t3
      obtain ⟨A4, n4, c4, e4⟩ := strs_form t4
      subst e1 e2 e3 e4
      obtain rfl := t1.len
      obtain rfl := t2.len
      obtain rfl := t3.len
      obtain rfl := t4.len
      have T1 := hide t1
      have T2 := hide t2
      have T3 := hide t3
      have T4 := hide t4
      clear t1 t2 t3 t4
      have lza : ba < wr.heap.size := by have := hbw.size; omega
      have hW : linesW ls + linesW bs + linesW la + linesW bbs + 1 ≤ 1048576 := hpw
      clear hpw
      have hzz := hbw.size
      have bb1 := (Below.refl wr.heap.size wr).alloc (Nat.le_refl _) (.cells #[.bool cf, .slice A1 ls.length c1, .slice A2 bs.length c2, .slice A3 la.length c3, .slice A4 bbs.length c4] 42)
      have hbp : Below w.heap.size w (wr.alloc (.cells #[.bool cf, .slice A1 ls.length c1, .slice A2 bs.length c2, .slice A3 la.length c3, .slice A4 bbs.length c4] 42)) := hbw.trans (bb1.mono hzz)
      clear bb1
      obtain ⟨R1, hR1⟩ : ∃ r, strL (resT ls) = r := ⟨_, rfl⟩
      obtain ⟨R2, hR2⟩ : ∃ r, strL (resT bs) = r := ⟨_, rfl⟩
      obtain ⟨R3, hR3⟩ : ∃ r, strL (resT la) = r := ⟨_, rfl⟩
      obtain ⟨R4, hR4⟩ : ∃ r, strL (resT bbs) = r := ⟨_, rfl⟩
      have z1 : R1.size ≤ 1048576 := by rw [← hR1, strL_resT_size]; omega
      have z2 : R2.size ≤ 1048576 := by rw [← hR2, strL_resT_size]; omega
      have z3 : R3.size ≤ 1048576 := by rw [← hR3, strL_resT_size]; omega
      have z4 : R4.size ≤ 1048576 := by rw [← hR4, strL_resT_size]; omega
      have H1 := hide hR1
      have H2 := hide hR2
      have H3 := hide hR3
      have H4 := hide hR4
      clear hR1 hR2 hR3 hR4
      have w1 : linesW ls ≤ 1048576 := by omega
      have w2 : linesW bs ≤ 1048576 := by omega
      have w3 : linesW la ≤ 1048576 := by omega
      have w4 : linesW bbs ≤ 1048576 := by omega
      go_wp2_with fail
      refine (resultOf_same _ ls R1 _ (T1.out.below hbp) w1 H1.out).mono ?_
      rintro e w5 ⟨rfl, rfl⟩
      cases cf
      · go_wp2_with fail
        go_roundw
        case rel => exact ⟨k + 1, by omega, by go_num, by rw [HT.out, ← strL_append, HAC.out, ← H1.out, pcT]; simp, hbp⟩
        case measure => simp [intOf]; omega
      · go_wp2_with fail
        go_quiet (first | (go_at_call 67; (with_reducible refine Calls.quiet_of_same (resultOf_same (.slice A3 la.length c3) la R3 _ ?_ w3 H3.out)); exact (T3.out.below hbp).drewN _) | (go_at_call 67; (with_reducible refine Calls.quiet_of_same (resultOf_same (.slice A2 bs.length c2) bs R2 _ ?_ w2 H2.out)); exact (T2.out.below hbp).drewN _) | (go_at_call 67; (with_reducible refine Calls.quiet_of_same (resultOf_same (.slice A4 bbs.length c4) bbs R4 _ ?_ w4 H4.out)); exact (T4.out.below hbp).drewN _))
        go_wp2_with fail
        go_roundw
        case rel =>
          refine ⟨k + 1, by omega, by go_num, ?_, below_drewN hbp _⟩
          rw [HT.out, ← strL_append, HAC.out, pcT]
          simp only [if_true]
          rw [← strL_append, H1.out, confT, ← strL_append, ← strL_append, ← strL_append, ← strL_append, ← strL_append, ← strL_append, H3.out, H2.out, H4.out]
          exact congrArg Value.string ByteArray.append_assoc
        case measure => simp [intOf]; omega
    · go_wp2_with fail
      go_ret
      exact ⟨by rw [List.take_of_length_le (by omega)]; rfl, hbw⟩
end Go.Proofs.Ytafgncledbddiaa
