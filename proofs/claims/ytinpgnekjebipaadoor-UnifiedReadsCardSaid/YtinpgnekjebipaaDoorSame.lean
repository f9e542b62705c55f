import Derived.Test.YtinpgnekjebipaaDoorLists
import Derived.Test.YtinpgnekjebipaaDoorHunk
import Derived.Deep.QuietTactic
import Derived.BigQuiet
set_option linter.unusedSimpArgs false
set_option linter.unusedVariables false
namespace Go.Proofs.YtinpgnekjebipaaDoor
open Go.RowKit Go.Pw

/-- slices.Equal over strings -/
theorem equal_any (v1 v2 : Value) (l1 l2 : List ByteArray) (w : World) (h1 : Strs w v1 l1) (h2 : Strs w v2 l2) :
    Calls Tryd.prog 35 #[v1, v2] w fun e w' => e = .returned (.bool (decide (l1 = l2))) ∧ ∃ q, w' = w.drewN q := by
  obtain ⟨⟨_, A, ca, rfl, hca, hma, hxa⟩, _⟩ := h1
  obtain ⟨⟨_, B, cb, rfl, hcb, hmb, hxb⟩, _⟩ := h2
  unfold maxLen at hma hmb
  by_cases hl : l1.length = l2.length
  · by_cases h0 : l1.length = 0
    · have e1 : l1 = [] := List.eq_nil_of_length_eq_zero h0
      have e2 : l2 = [] := List.eq_nil_of_length_eq_zero (by omega)
      subst e1 e2
      refine (Tryd.slices_Equal_string_empty A B ca 0 cb w (by omega)).mono ?_
      rintro e w' ⟨rfl, rfl⟩
      exact ⟨by simp, 0, rfl⟩
    · obtain ⟨ba, oa, rfl, _, hja⟩ := hxa (by omega)
      obtain ⟨bb, ob, rfl, _, hjb⟩ := hxb (by omega)
      refine (Tryd.slices_Equal_string ba oa l1.length ca bb ob l2.length cb l1 l2 w (Nat.le_refl _) (Nat.le_refl _) (by omega) (by omega) (fun j hj => hja j _ (by simp [hj])) (fun j hj => hjb j _ (by simp [hj]))).mono ?_
      rintro e w' ⟨rfl, h⟩
      exact ⟨by rw [List.take_length, List.take_length], h⟩
  · refine (Tryd.slices_Equal_string_lens A B l1.length ca l2.length cb w hl).mono ?_
    rintro e w' ⟨rfl, rfl⟩
    refine ⟨ret_bool ?_, 0, rfl⟩
    symm
    simp
    intro e
    exact hl (by rw [e])

theorem below2 (w : World) (x y : Obj) : Below w.heap.size w ((w.alloc x).alloc y) := ((Below.refl _ _).alloc (Nat.le_refl _) x).alloc (by simp) y

/-- whether two hunks are the same -/
def hkEq (x y : Hk) : Bool := x.frm == y.frm && x.to_ == y.to_ && decide (x.old = y.old) && decide (x.new = y.new)
theorem hkEq_iff (x y : Hk) : hkEq x y = true ↔ x = y := by
  cases x; cases y
  simp [hkEq, and_assoc]

set_option maxHeartbeats 1000000 in
set_option maxRecDepth 100000 in
theorem sameHunk_any (x y : Hk) (o1 n1 o2 n2 : Value) (w : World) (a1 : Strs w o1 x.old) (a2 : Strs w n1 x.new) (b1 : Strs w o2 y.old) (b2 : Strs w n2 y.new) :
    Calls Tryd.prog 34 #[.agg #[.int .i64 x.frm, .int .i64 x.to_, o1, n1], .agg #[.int .i64 y.frm, .int .i64 y.to_, o2, n2]] w fun e w' => e = .returned (.bool (hkEq x y)) ∧ Below w.heap.size w w' := by
  obtain ⟨xf, xt, xo, xn⟩ := x
  obtain ⟨yf, yt, yo, yn⟩ := y
  simp only at *
  have A1 := hide a1
  have A2 := hide a2
  have B1 := hide b1
  have B2 := hide b2
  clear a1 a2 b1 b2
  by_cases h1 : xf = yf
  · have h1' : (xf == yf) = true := by simpa using h1
    have H1 := hide h1
    clear h1
    by_cases h2 : xt = yt
    · have h2' : (xt == yt) = true := by simpa using h2
      have H2 := hide h2
      clear h2
      go_enter Tryd.func34, Tryd.ntmps34
      go_wp2_with fail
      refine (equal_any _ _ xo yo _ ((A1.out.alloc _).alloc _) ((B1.out.alloc _).alloc _)).mono ?_
      rintro e w1 ⟨rfl, q, rfl⟩
      by_cases h3 : xo = yo
      · have h3' : decide (xo = yo) = true := by simpa using h3
        have H3 := hide h3
        clear h3
        go_wp2_with fail
        refine (equal_any _ _ xn yn _ (((A2.out.alloc _).alloc _).drewN _) (((B2.out.alloc _).alloc _).drewN _)).mono ?_
        rintro e w1 ⟨rfl, q2, rfl⟩
        go_wp2_with fail
        go_ret
        refine ⟨ret_bool ?_, ?_⟩
        · rw [hkEq, H1.out, H2.out, H3.out]; simp
        · exact below_drewN (below2 _ _ _) _
      · have h3' : decide (xo = yo) = false := by simpa using h3
        have H3 := hide h3
        clear h3
        go_wp2_with fail
        go_ret
        refine ⟨ret_bool ?_, ?_⟩
        · rw [hkEq, decide_eq_false H3.out]; simp
        · exact below_drewN (below2 _ _ _) _
    · have h2' : (xt == yt) = false := by simpa using h2
      go_enter Tryd.func34, Tryd.ntmps34
      go_wp2_with fail
      go_ret
      refine ⟨ret_bool ?_, ?_⟩
      · rw [hkEq, h2']; simp
      · exact below2 _ _ _
  · have h1' : (xf == yf) = false := by simpa using h1
    go_enter Tryd.func34, Tryd.ntmps34
    go_wp2_with fail
    go_ret
    refine ⟨ret_bool ?_, ?_⟩
    · rw [hkEq, h1']; simp
    · exact below2 _ _ _

theorem strs_form {w : World} {v : Value} {l : List ByteArray} (h : Strs w v l) : ∃ A n c, v = .slice A n c := by
  obtain ⟨⟨_, A, cap, rfl, _⟩, _⟩ := h
  exact ⟨_, _, _, rfl⟩
theorem take_ext {α : Type} {l m : List α} {k : Nat} (h : l.take k = m.take k) (h1 : k < l.length) (h2 : k < m.length) (he : l[k] = m[k]) : l.take (k + 1) = m.take (k + 1) := by
  rw [List.take_succ_eq_append_getElem h1, List.take_succ_eq_append_getElem h2, h, he]

set_option maxHeartbeats 1000000 in
set_option maxRecDepth 100000 in
theorem sameHunks_any (v1 v2 : Value) (hs gs : List Hk) (w : World) (h1 : Hunks w v1 hs) (h2 : Hunks w v2 gs) (hn : hs.length ≤ 100000) (c : Bool) (hc : c = true ↔ hs = gs) :
    Calls Tryd.prog 14 #[v1, v2] w fun e w' => e = .returned (.bool c) ∧ Below w.heap.size w w' := by
  have HC := hide hc
  clear hc
  obtain ⟨vs, hvs, ⟨_, A, ca, rfl, hca, hma, hxa⟩, hok1, hel1⟩ := h1
  obtain ⟨us, hus, ⟨_, B, cb, rfl, hcb, hmb, hxb⟩, hok2, hel2⟩ := h2
  unfold maxLen at hma hmb
  have HVS := hide hvs
  have HUS := hide hus
  have HXA := hide hxa
  have HXB := hide hxb
  have HE1 := hide hel1
  have HE2 := hide hel2
  clear hvs hus hxa hxb hel1 hel2 hok1 hok2
  by_cases hl : hs.length = gs.length
  · have hl' : ((hs.length : Int) != (gs.length : Int)) = false := by simp; omega
    have HL := hide hl
    have hle : gs.length ≤ hs.length := by omega
    have hge : hs.length ≤ gs.length := by omega
    clear hl
    go_enter Tryd.func14, Tryd.ntmps14
    go_wp2
    go_loopw [17] (fun i wr => ∃ k : Nat, k ≤ hs.length ∧ i = .int .i64 (k : Int) ∧ Hid (hs.take k = gs.take k) ∧ Below w.heap.size w wr) (fun i _ => hs.length - (intOf i).toNat)
    case atStart => exact ⟨0, by omega, rfl, rfl, Below.refl _ _⟩
    case round =>
      obtain ⟨k, hk, rfl, hta, hbl⟩ := hrel
      by_cases hlt : k < hs.length
      · have hlt2 : k < gs.length := by omega
        obtain ⟨ba, oa, rfl, hba, hja⟩ := HXA.out (by omega)
        obtain ⟨bb, ob, rfl, hbb, hjb⟩ := HXB.out (by omega)
        have kv : k < vs.length := by rw [HVS.out]; exact hlt
        have ku : k < us.length := by rw [HUS.out]; exact hlt2
        have cs := hkCells_at hs vs k hs[k] vs[k] (List.getElem?_eq_getElem hlt) (List.getElem?_eq_getElem kv) HVS.out
        have ds := hkCells_at gs us k gs[k] us[k] (List.getElem?_eq_getElem hlt2) (List.getElem?_eq_getElem ku) HUS.out
        rw [Nat.mul_comm] at cs ds
        have a0 := (hbl.cell hba).trans (hja _ _ cs.1)
        have a1 := (hbl.cell hba).trans (hja _ _ cs.2.1)
        have a2 := (hbl.cell hba).trans (hja _ _ cs.2.2.1)
        have a3 := (hbl.cell hba).trans (hja _ _ cs.2.2.2)
        have b0 := (hbl.cell hbb).trans (hjb _ _ ds.1)
        have b1 := (hbl.cell hbb).trans (hjb _ _ ds.2.1)
        have b2 := (hbl.cell hbb).trans (hjb _ _ ds.2.2.1)
        have b3 := (hbl.cell hbb).trans (hjb _ _ ds.2.2.2)
        clear cs ds hja hjb
        simp only [← Nat.add_assoc] at a0 a1 a2 a3 b0 b1 b2 b3
        have s1 := HE1.out k hs[k] vs[k].1 vs[k].2 (List.getElem?_eq_getElem hlt) (List.getElem?_eq_getElem kv)
        have s2 := HE2.out k gs[k] us[k].1 us[k].2 (List.getElem?_eq_getElem hlt2) (List.getElem?_eq_getElem ku)
        have lza : ba < wr.heap.size := by have := hbl.size; omega
        have lzb : bb < wr.heap.size := by have := hbl.size; omega
        obtain ⟨x1, n1, c1, e1⟩ := strs_form s1.1
        obtain ⟨x2, n2, c2, e2⟩ := strs_form s1.2
        obtain ⟨x3, n3, c3, e3⟩ := strs_form s2.1
        obtain ⟨x4, n4, c4, e4⟩ := strs_form s2.2
        rw [e1] at a2
        rw [e2] at a3
        rw [e3] at b2
        rw [e4] at b3
        rw [e1, e2] at s1
        rw [e3, e4] at s2
        have S1 := hide s1
        have S2 := hide s2
        clear s1 s2 e1 e2 e3 e4 kv ku
        go_wp2_with fail
        refine (sameHunk_any hs[k] gs[k] _ _ _ _ _ ((S1.out.1.below hbl).below (below2 _ _ _)) ((S1.out.2.below hbl).below (below2 _ _ _)) ((S2.out.1.below hbl).below (below2 _ _ _)) ((S2.out.2.below hbl).below (below2 _ _ _))).mono ?_
        rintro e w2 ⟨rfl, hb2⟩
        have hbl2 : Below w.heap.size w w2 := (hbl.trans ((below2 wr _ _).mono hbl.size)).trans (hb2.mono (by simp; have := hbl.size; omega))
        clear a0 a1 a2 a3 b0 b1 b2 b3 hb2
        by_cases he : hs[k] = gs[k]
        · have he' : hkEq hs[k] gs[k] = true := (hkEq_iff _ _).2 he
          have HEE := hide he
          clear he
          go_wp2_with fail
          go_roundw
          case rel => exact ⟨k + 1, by omega, by go_num, take_ext hta.out hlt hlt2 HEE.out, hbl2⟩
          case measure => simp [intOf]; omega
        · have he' : hkEq hs[k] gs[k] = false := by
            cases hq : hkEq hs[k] gs[k]
            · rfl
            · exact absurd ((hkEq_iff _ _).1 hq) he
          have HEE := hide he
          clear he
          go_wp2
          go_ret
          refine ⟨ret_bool ?_, hbl2⟩
          cases c
          · rfl
          · have := HC.out.1 rfl
            subst this
            exact absurd rfl HEE.out
      · have hfin : hs = gs := by
          have := hta.out
          rwa [List.take_of_length_le (by omega), List.take_of_length_le (by omega)] at this
        have HF := hide hfin
        clear hfin
        go_wp2
        go_ret
        exact ⟨ret_bool (HC.out.2 HF.out).symm, hbl⟩
  · have hl' : ((hs.length : Int) != (gs.length : Int)) = true := by simp; omega
    go_enter Tryd.func14, Tryd.ntmps14
    go_wp2
    go_ret
    refine ⟨ret_bool ?_, Below.refl _ _⟩
    cases c
    · rfl
    · exact absurd (congrArg List.length (HC.out.1 rfl)) hl
end Go.Proofs.YtinpgnekjebipaaDoor
