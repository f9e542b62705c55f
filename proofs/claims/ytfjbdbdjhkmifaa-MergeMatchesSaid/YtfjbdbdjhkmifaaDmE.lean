/- samePieces: two slices of pieces are compared. -/
import Derived.Test.YtfjbdbdjhkmifaaDmQ
import Derived.Test.YtfjbdbdjhkmifaaSame
set_option linter.unusedVariables false
set_option linter.unusedSimpArgs false
namespace Go.Proofs.Ytfjbdbdjhkmifaa
open Go.RowKit Go.Pw
/-- two pieces' values, of the same piece -/
theorem samePiece_any (p : Pc) (u1 u2 : PcV) (w : World) (h1 : PcRd w p u1) (h2 : PcRd w p u2) :
    Calls Try.prog 39 #[.agg #[.bool p.conf, u1.lines, u1.base, u1.a, u1.b], .agg #[.bool p.conf, u2.lines, u2.base, u2.a, u2.b]] w fun e w' => e = .returned (.bool true) ∧ Below w.heap.size w w' := by
  obtain ⟨pc, pl, pb, pa, pq⟩ := p
  obtain ⟨l1, b1, a1, q1⟩ := u1
  obtain ⟨l2, b2, a2, q2⟩ := u2
  obtain ⟨x1, x2, x3, x4⟩ := h1
  obtain ⟨y1, y2, y3, y4⟩ := h2
  simp only at *
  have X1 := hide x1
  have X2 := hide x2
  have X3 := hide x3
  have X4 := hide x4
  have Y1 := hide y1
  have Y2 := hide y2
  have Y3 := hide y3
  have Y4 := hide y4
  clear x1 x2 x3 x4 y1 y2 y3 y4
  go_enter Try.func39, Try.ntmps39
  go_wp2_with fail
  refine (equal_any _ _ pl pl _ ((X1.out.alloc _).alloc _) ((Y1.out.alloc _).alloc _)).mono ?_
  rintro e w1 ⟨rfl, q, rfl⟩
  rw [show decide (pl = pl) = true by simp]
  go_wp2_with fail
  refine (equal_any _ _ pb pb _ (((X2.out.alloc _).alloc _).drewN _) (((Y2.out.alloc _).alloc _).drewN _)).mono ?_
  rintro e w1 ⟨rfl, q', rfl⟩
  rw [show decide (pb = pb) = true by simp]
  go_wp2_with fail
  refine (equal_any _ _ pa pa _ (((X3.out.alloc _).alloc _).drewN _) (((Y3.out.alloc _).alloc _).drewN _)).mono ?_
  rintro e w1 ⟨rfl, q'', rfl⟩
  rw [show decide (pa = pa) = true by simp]
  go_wp2_with fail
  refine (equal_any _ _ pq pq _ (((X4.out.alloc _).alloc _).drewN _) (((Y4.out.alloc _).alloc _).drewN _)).mono ?_
  rintro e w1 ⟨rfl, q''', rfl⟩
  rw [show decide (pq = pq) = true by simp]
  go_wp2_with fail
  go_ret
  exact ⟨rfl, below_drewN (below2 _ _ _) _⟩
theorem pc_form {w : World} {p : Pc} {u : PcV} (h : PcRd w p u) : ∃ A1 c1 A2 c2 A3 c3 A4 c4, u = ⟨.slice A1 p.lines.length c1, .slice A2 p.base.length c2, .slice A3 p.a.length c3, .slice A4 p.b.length c4⟩ := by
  obtain ⟨⟨⟨_, A1, c1, e1, _⟩, _⟩, ⟨⟨_, A2, c2, e2, _⟩, _⟩, ⟨⟨_, A3, c3, e3, _⟩, _⟩, ⟨⟨_, A4, c4, e4, _⟩, _⟩⟩ := h
  obtain ⟨a, b, c, d⟩ := u
  simp only at e1 e2 e3 e4
  subst e1 e2 e3 e4
  exact ⟨A1, c1, A2, c2, A3, c3, A4, c4, rfl⟩
set_option maxHeartbeats 4000000 in
set_option maxRecDepth 100000 in
theorem samePieces_any (v1 v2 : Value) (ps : List Pc) (w : World) (h1 : Pieces w v1 ps) (h2 : Pieces w v2 ps) (hn : ps.length ≤ 100000) :
    Calls Try.prog 10 #[v1, v2] w fun e w' => e = .returned (.bool true) ∧ Below w.heap.size w w' := by
  obtain ⟨vs, hvs, ⟨_, A, ca, rfl, hca, hma, hxa⟩, hel1⟩ := h1
  obtain ⟨us, hus, ⟨_, B, cb, rfl, hcb, hmb, hxb⟩, hel2⟩ := h2
  unfold maxLen at hma hmb
  have HVS := hide hvs
  have HUS := hide hus
  have HXA := hide hxa
  have HXB := hide hxb
  have HE1 := hide hel1
  have HE2 := hide hel2
  clear hvs hus hxa hxb hel1 hel2
  go_enter Try.func10, Try.ntmps10
  go_wp2
  go_loopw [17] (fun i wr => ∃ k : Nat, k ≤ ps.length ∧ i = .int .i64 (k : Int) ∧ Below w.heap.size w wr) (fun i _ => ps.length - (intOf i).toNat)
  case atStart => exact ⟨0, by omega, rfl, Below.refl _ _⟩
  case round =>
    obtain ⟨k, hk, rfl, hbl⟩ := hrel
    by_cases hlt : k < ps.length
    · obtain ⟨ba, oa, rfl, hba, hja⟩ := HXA.out (by omega)
      obtain ⟨bb, ob, rfl, hbb, hjb⟩ := HXB.out (by omega)
      have kv : k < vs.length := by rw [HVS.out]; exact hlt
      have ku : k < us.length := by rw [HUS.out]; exact hlt
      have cs := pcCells_at ps vs k ps[k] vs[k] (List.getElem?_eq_getElem hlt) (List.getElem?_eq_getElem kv) HVS.out
      have ds := pcCells_at ps us k ps[k] us[k] (List.getElem?_eq_getElem hlt) (List.getElem?_eq_getElem ku) HUS.out
      rw [Nat.mul_comm] at cs ds
      have a0 := (hbl.cell hba).trans (hja _ _ cs.1)
      have a1 := (hbl.cell hba).trans (hja _ _ cs.2.1)
      have a2 := (hbl.cell hba).trans (hja _ _ cs.2.2.1)
      have a3 := (hbl.cell hba).trans (hja _ _ cs.2.2.2.1)
      have a4 := (hbl.cell hba).trans (hja _ _ cs.2.2.2.2)
      have c0 := (hbl.cell hbb).trans (hjb _ _ ds.1)
      have c1 := (hbl.cell hbb).trans (hjb _ _ ds.2.1)
      have c2 := (hbl.cell hbb).trans (hjb _ _ ds.2.2.1)
      have c3 := (hbl.cell hbb).trans (hjb _ _ ds.2.2.2.1)
      have c4 := (hbl.cell hbb).trans (hjb _ _ ds.2.2.2.2)
      clear cs ds hja hjb
      simp only [← Nat.add_assoc] at a0 a1 a2 a3 a4 c0 c1 c2 c3 c4
      have r1 := (HE1.out k ps[k] vs[k] (List.getElem?_eq_getElem hlt) (List.getElem?_eq_getElem kv)).below hbl
      have r2 := (HE2.out k ps[k] us[k] (List.getElem?_eq_getElem hlt) (List.getElem?_eq_getElem ku)).below hbl
      have hbsz := hbl.size
      obtain ⟨p, hp⟩ : ∃ p, ps[k] = p := ⟨_, rfl⟩
      obtain ⟨v, hv⟩ : ∃ v, vs[k] = v := ⟨_, rfl⟩
      obtain ⟨u, hu⟩ : ∃ u, us[k] = u := ⟨_, rfl⟩
      rw [hp, hv] at r1
      rw [hp, hu] at r2
      rw [hp] at a0 c0
      rw [hv] at a1 a2 a3 a4
      rw [hu] at c1 c2 c3 c4
      obtain ⟨X1, m1, X2, m2, X3, m3, X4, m4, hvf⟩ := pc_form r1
      obtain ⟨Y1, n1, Y2, n2, Y3, n3, Y4, n4, huf⟩ := pc_form r2
      have HR1 := hide r1
      have HR2 := hide r2
      subst hvf huf
      clear r1 r2 hp hv hu kv ku
      dsimp only at a1 a2 a3 a4 c1 c2 c3 c4
      have lba : ba < wr.heap.size := by omega
      have lbb : bb < wr.heap.size := by omega
      have hb2 := below2 wr (.cells #[.bool p.conf, .slice X1 p.lines.length m1, .slice X2 p.base.length m2, .slice X3 p.a.length m3, .slice X4 p.b.length m4] 73) (.cells #[.bool p.conf, .slice Y1 p.lines.length n1, .slice Y2 p.base.length n2, .slice Y3 p.a.length n3, .slice Y4 p.b.length n4] 73)
      have HC := hide (samePiece_any p _ _ _ (HR1.out.below hb2) (HR2.out.below hb2))
      have HB2 := hide (hbl.trans (hb2.mono (by omega)))
      have hz2 := HB2.out.size
      clear hb2
      go_wp2_with fail
      refine HC.out.mono ?_
      rintro e w3 ⟨rfl, hb3⟩
      have HB3 := hide (HB2.out.trans (hb3.mono hz2))
      clear hb3
      go_wp2_with fail
      go_roundw
      case rel => exact ⟨k + 1, by omega, by go_num, HB3.out⟩
      case measure => simp [intOf]; omega
    · obtain rfl : k = ps.length := by omega
      go_wp2
      go_ret
      exact ⟨rfl, hbl⟩
end Go.Proofs.Ytfjbdbdjhkmifaa
