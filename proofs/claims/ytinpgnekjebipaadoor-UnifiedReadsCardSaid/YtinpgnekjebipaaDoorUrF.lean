/- (*unifier).line at a changed line. -/
import Derived.Test.YtinpgnekjebipaaDoorUrE
set_option linter.unusedSimpArgs false
set_option linter.unusedVariables false
namespace Go.Pw
theorem UnOk.lng {u : Un} {i : Nat} (h : UnOk u i) (b : Bool) : UnOk { u with long := b } i := ⟨h.n, h.c, h.hs, h.cu, h.o1, h.o2, h.n1, h.n2, h.e1, h.e2, h.d1, h.d2⟩
theorem chg_long (u : Un) (b : Bool) : ({ u with long := b } : Un).chg = { u.chg with long := b } := by
  unfold Un.chg
  cases hc : u.cur with
  | none => rfl
  | some k =>
    simp only
    by_cases hx : u.ctx = []
    · rw [if_pos hx, if_pos hx, hc]
    · rw [if_neg hx, if_neg hx]; rfl
end Go.Pw
namespace Go.Proofs.YtinpgnekjebipaaDoor
open Go.RowKit Go.Pw
theorem UnAt.setLong {w0 w : World} {U : Nat} {u : Un} {hv cv : Value} {vs : List (Value × Value)} (h : UnAt w0 w U u hv cv vs) (b : Bool) : UnAt w0 (w.setCell ⟨U, 9, none⟩ (.bool b)) U { u with long := b } hv cv vs := UnMem.set h 9 (.bool b)
set_option maxHeartbeats 4000000 in
set_option maxRecDepth 100000 in
theorem line_minus {w0 w : World} {U : Nat} {u : Un} {i : Nat} (h : UnIn w0 w U u) (hu : UnOk u i) (hi : i ≤ 800000) (s : ByteArray) (hs : 0 < s.size) (hz : s.size ≤ 900000) (hsg : sgn s = 45) (ho : ¬ u.oc = 0) (v : Un) (hv : u.step s = some v) :
    Calls Tryd.prog 27 #[.pointer (some ⟨U, 0, none⟩), .string s] w fun e w' => e = .returned (.int .i64 0) ∧ UnIn w0 w' U v.rest := by
  have he := isEmpty_of hs
  have HV := hide (hu.step (by omega) hz hv)
  have hstep := hv
  unfold Un.step at hstep
  rw [if_neg (by omega), if_neg (by omega), if_pos hsg, if_neg (by omega)] at hstep
  have hst := Option.some.inj hstep
  clear hstep hv
  have ho1 := hu.o1; have ho2 := hu.o2; have hn1 := hu.n1; have hn2 := hu.n2
  have hlc := hide (fun b => chg_long u b)
  have hchg := hu.chg (by omega)
  have hlb := hide (fun b => (hu.lng b))
  obtain ⟨q1, q2, q3, ⟨k, q4⟩, q5, q6, q7, q8, q9, q10, q11⟩ := hchg
  obtain ⟨hv, cv, vs, h⟩ := h
  obtain ⟨A, a2⟩ : ∃ A, u.chg = A := ⟨_, rfl⟩
  rw [a2] at q1 q2 q3 q4 q5 q6 q7 q8 q9 q10 q11 hst
  have HK := hide (q2 k (by simp [Un.all, q4]))
  have HCHG := hide a2
  obtain ⟨afin, acur, aoa, aoc, ana, anc, aoe, ade, actx, along⟩ := A
  simp only at q3 q4 q5 q6 q7 q8 q9 q10 q11 hst
  subst q3 q4
  have HST := hide hst
  obtain ⟨fin, cur, oa, oc, na, nc, oe, de, ctx, long⟩ := u
  simp only at ho ho1 ho2 hn1 hn2 q5 q6 q7 q8 q9 q10 q11
  subst q5 q6 q7 q8 q9 q10 q11
  obtain ⟨c0, c1, c2, c3, c4, c5, c6, c7, c8, c9⟩ := h.cells
  simp only at c1 c2 c3 c4 c8 c9
  have M0 := hide h
  have z9 := UnMem.frozen h 9
  rw [sgn_at hs] at hsg
  have e32 : ((s[0].toNat : Int) == 32) = false := by rw [hsg]; rfl
  have e45 : ((s[0].toNat : Int) == 45) = true := by rw [hsg]; rfl
  have e43 : ((s[0].toNat : Int) == 43) = false := by rw [hsg]; rfl
  have o0 : ((aoc : Int) == 0) = false := by simp; omega
  have HSG := hide hsg
  have hz1 : (s.extract 1 s.size).size ≤ 1000000 := by rw [ByteArray.size_extract]; omega
  have HSZ : Hid (∀ (W : World) (N : Nat) (T : TypeId), N = W.heap.size → Strs (W.alloc (.cells #[.string (s.extract 1 s.size)] T)) (.slice (some ⟨N, 0, none⟩) 1 1) [s.extract 1 s.size]) := hide (fun W N T hN => hN ▸ one_strs W T (s.extract 1 s.size) (by unfold maxLen; omega))
  have w1 : IntKind.i64.wrap (aoa + 1) = aoa + 1 := by rw [IntKind.wrap_i64]; omega
  have w3 : IntKind.i64.wrap ((aoc : Int) - 1) = (aoc : Int) - 1 := by rw [IntKind.wrap_i64]; omega
  have hoc1 : ((aoc - 1 : Nat) : Int) = (aoc : Int) - 1 := by omega
  have HOC1 := hide hoc1
  obtain ⟨L, hL⟩ : ∃ L, k.old ++ [s.extract 1 s.size] = L := ⟨_, rfl⟩
  have HL := hide hL
  have HB : Hid (k.old.length + [s.extract 1 s.size].length ≤ 1000000000000) := hide (by have := HK.out.2.1.1; simp; omega)
  have HI := hide hi
  clear h hsg hu hst a2 hoc1 q1 q2 hL c0 c1 c3 c5 c6 c7 c8
  cases along
  case' false =>
    have HLG : Hid (lng s = decide ((4096 : Int) < ((s.size - 1 : Nat) : Int))) := hide (by
      unfold lng txt
      have e : ((4096 : Int) < ((s.size - 1 : Nat) : Int)) ↔ 4096 < (s.extract 1 s.size).size := by rw [ByteArray.size_extract]; omega
      simp only [e])
  all_goals
    go_enter Tryd.func27, Tryd.ntmps27
    go_wp2_with fail
    go_quiet (fail)
    obtain ⟨W, hW⟩ : ∃ W, w.drewN nq = W := ⟨_, rfl⟩
    have M1 := UnMem.below M0.out (below_drewN (Below.refl _ _) nq)
    have b9 : (w.drewN nq).cell? ⟨U, 9, none⟩ = _ := c9
    have b2 : (w.drewN nq).cell? ⟨U, 2, none⟩ = _ := c2
    have b4 : (w.drewN nq).cell? ⟨U, 4, none⟩ = _ := c4
    rw [hW] at M1 b9 b2 b4 ⊢
    clear c2 c4 c9 z9
    have z9 := M1.frozen 9
    have M9 : Hid (∀ b, UnAt w0 (W.setCell ⟨U, 9, none⟩ (.bool b)) U _ hv cv vs) := hide (fun b => UnAt.setLong M1 b)
    clear M1
    go_wp2_with fail
    refine (change_any ⟨_, _, _, M9.out _⟩ (hlb.out _) (by omega)).mono ?_
    rintro e w8 ⟨hv', cv', vs', he8, h8⟩
    rw [hlc.out, HCHG.out] at he8 h8
    obtain ⟨g, cap, vs0, o, n, rfl, rfl, hl⟩ := h8.last rfl
    have he9 : e = .returned (.pointer (some ⟨g, afin.length * 4, none⟩)) := he8
    subst he9
    have hoo : (w8.ownsRow w0.heap.size 9 1 o k.old.length (k.old.map Value.string)) := hl.rowOld.own (o, k.old) (by simp)
    have hnn : (w8.ownsRow w0.heap.size 9 1 n k.new.length (k.new.map Value.string)) := hl.rowOld.own (n, k.new) (by simp)
    obtain ⟨oA, oc', rfl⟩ := own_fmU hoo
    obtain ⟨nA, nc', rfl⟩ := own_fmU hnn
    obtain ⟨d0, d1, d2, d3⟩ := hl.cells
    rw [Nat.mul_comm] at d2 d3
    have y2 := hl.frozen (afin.length * 4 + 2)
    have HLA := hide hl
    have H8 := hide h8
    have hlo := UnMem.lo h8
    have hgU := hl.lt
    have hU8 := UnMem.lt h8
    have hZ8 := (UnMem.bel h8).size
    have HD : Hid (∀ (ob : Obj) (wb : World), (w8.alloc ob).grownBy wb (Value.slice oA k.old.length oc').ownBlock → wb.cell? ⟨g, afin.length * 4 + 2, none⟩ = some (.slice oA k.old.length oc') ∧ wb.frozen? ⟨g, afin.length * 4 + 2, none⟩ = false) := hide (fun ob wb hgr => by
      have ne : ∀ q, (Value.slice oA k.old.length oc').ownBlock = some q → q ≠ g := fun q hq => by
        obtain ⟨ds, hd⟩ := own_type' (hl.rowOld.own (.slice oA k.old.length oc', k.old) (List.mem_cons_self ..)) hq
        obtain ⟨cs', hc⟩ := hl.block
        exact two_types hd hc (by decide)
      have ba : Below w8.heap.size w8 (w8.alloc ob) := (Below.refl _ _).alloc (Nat.le_refl _) ob
      have hga : g < (w8.alloc ob).heap.size := Nat.lt_of_lt_of_le hl.lt.2 ba.size
      exact ⟨(grown_cell (p := ⟨g, afin.length * 4 + 2, none⟩) hgr hga (fun e => ne g e rfl)).trans ((ba.cell (p := ⟨g, afin.length * 4 + 2, none⟩) hl.lt.2).trans d2), (grown_frozen (p := ⟨g, afin.length * 4 + 2, none⟩) hgr hga (fun e => ne g e rfl)).trans ((ba.frozen (p := ⟨g, afin.length * 4 + 2, none⟩) hl.lt.2).trans y2)⟩)
    have KP := hide (KeepU.start h8)
    clear M9 b2 b4 b9 z9 hoo hnn d0 d1 he8 h8 hl y2
    go_wp2_with (at_builtin; refine wpList_appU rfl (.tmp 102) (.tmp 104) rfl w0.heap.size (.slice oA k.old.length oc') k.old rfl ((HLA.out.below ((Below.refl _ _).alloc (Nat.le_refl _) _)).rowOld.own (.slice oA k.old.length oc', k.old) (List.mem_cons_self ..)) (.slice (some ⟨_, 0, none⟩) 1 1) [s.extract 1 s.size] L rfl (HSZ.out _ _ _ (by simp)) HL.out HB.out (by simp; omega) ?_; intro A1 k1 wb hown1 hgr1 hat1; have LS := hide ((HLA.out.below ((Below.refl _ _).alloc (Nat.le_refl _) _)).setOld (by decide) hgr1 hown1 hat1); obtain ⟨f2, f3⟩ := HD.out _ _ hgr1; have KP2 := hide (((KP.out.alloc _).grown hlo hgr1 (fun q hq => own_ge (HLA.out.rowOld.own (.slice oA k.old.length oc', k.old) (List.mem_cons_self ..)) q hq)).set hlo (g := g) (by omega) (4 * afin.length + 2) (.slice A1 L.length k1)))
    have M3 := UnMem.reLast (h := k) (hs' := []) H8.out KP2.out LS.out
    rw [Nat.mul_comm 4 afin.length] at M3
    have HM3 := hide M3
    clear KP2 LS f2 f3 hown1 hgr1 hat1 M3 KP HD HLA d2 d3
    generalize wb.setCell ⟨g, afin.length * 4 + 2, none⟩ (.slice A1 L.length k1) = W3 at *
    have b1 : W3.cell? ⟨U, 1, none⟩ = some (.int .i64 aoa) := HM3.out.cell 1 rfl
    have b2 : W3.cell? ⟨U, 2, none⟩ = some (.int .i64 (aoc : Int)) := HM3.out.cell 2 rfl
    have z1 := HM3.out.frozen 1
    have z2 := HM3.out.frozen 2
    go_region
    go_wp2_with fail
    have M4 := hide (((HM3.out.set 1 (.int .i64 (aoa + 1))).set 2 (.int .i64 ((aoc : Int) - 1))).drew)
    clear HM3 b1 b2 z1 z2
    generalize ((W3.setCell ⟨U, 1, none⟩ (.int .i64 (aoa + 1))).setCell ⟨U, 2, none⟩ (.int .i64 ((aoc : Int) - 1))).drew = W4 at *
    have MV : Hid (UnIn w0 W4 U v) := hide (by
      have m := M4.out
      rw [← HOC1.out, ← HL.out] at m
      rw [← HST.out]
      try rw [HLG.out]
      exact ⟨_, _, _, m⟩)
    refine (close_any MV.out HV.out (by omega)).mono ?_
    rintro e w' ⟨rfl, hfin⟩
    have HF := hide hfin
    clear hfin
    go_wp2_with fail
    go_ret
    exact ⟨rfl, HF.out⟩
set_option maxHeartbeats 4000000 in
set_option maxRecDepth 100000 in
theorem line_plus {w0 w : World} {U : Nat} {u : Un} {i : Nat} (h : UnIn w0 w U u) (hu : UnOk u i) (hi : i ≤ 800000) (s : ByteArray) (hs : 0 < s.size) (hz : s.size ≤ 900000) (hsg : sgn s = 43) (ho : ¬ u.nc = 0) (v : Un) (hv : u.step s = some v) :
    Calls Tryd.prog 27 #[.pointer (some ⟨U, 0, none⟩), .string s] w fun e w' => e = .returned (.int .i64 0) ∧ UnIn w0 w' U v.rest := by
  have he := isEmpty_of hs
  have HV := hide (hu.step (by omega) hz hv)
  have hstep := hv
  unfold Un.step at hstep
  rw [if_neg (by omega), if_neg (by omega), if_neg (by omega), if_pos hsg, if_neg (by omega)] at hstep
  have hst := Option.some.inj hstep
  clear hstep hv
  have ho1 := hu.o1; have ho2 := hu.o2; have hn1 := hu.n1; have hn2 := hu.n2
  have hlc := hide (fun b => chg_long u b)
  have hchg := hu.chg (by omega)
  have hlb := hide (fun b => (hu.lng b))
  obtain ⟨q1, q2, q3, ⟨k, q4⟩, q5, q6, q7, q8, q9, q10, q11⟩ := hchg
  obtain ⟨hv, cv, vs, h⟩ := h
  obtain ⟨A, a2⟩ : ∃ A, u.chg = A := ⟨_, rfl⟩
  rw [a2] at q1 q2 q3 q4 q5 q6 q7 q8 q9 q10 q11 hst
  have HK := hide (q2 k (by simp [Un.all, q4]))
  have HCHG := hide a2
  obtain ⟨afin, acur, aoa, aoc, ana, anc, aoe, ade, actx, along⟩ := A
  simp only at q3 q4 q5 q6 q7 q8 q9 q10 q11 hst
  subst q3 q4
  have HST := hide hst
  obtain ⟨fin, cur, oa, oc, na, nc, oe, de, ctx, long⟩ := u
  simp only at ho ho1 ho2 hn1 hn2 q5 q6 q7 q8 q9 q10 q11
  subst q5 q6 q7 q8 q9 q10 q11
  obtain ⟨c0, c1, c2, c3, c4, c5, c6, c7, c8, c9⟩ := h.cells
  simp only at c1 c2 c3 c4 c8 c9
  have M0 := hide h
  have z9 := UnMem.frozen h 9
  rw [sgn_at hs] at hsg
  have e32 : ((s[0].toNat : Int) == 32) = false := by rw [hsg]; rfl
  have e45 : ((s[0].toNat : Int) == 45) = false := by rw [hsg]; rfl
  have e43 : ((s[0].toNat : Int) == 43) = true := by rw [hsg]; rfl
  have o0 : ((anc : Int) == 0) = false := by simp; omega
  have HSG := hide hsg
  have hz1 : (s.extract 1 s.size).size ≤ 1000000 := by rw [ByteArray.size_extract]; omega
  have HSZ : Hid (∀ (W : World) (N : Nat) (T : TypeId), N = W.heap.size → Strs (W.alloc (.cells #[.string (s.extract 1 s.size)] T)) (.slice (some ⟨N, 0, none⟩) 1 1) [s.extract 1 s.size]) := hide (fun W N T hN => hN ▸ one_strs W T (s.extract 1 s.size) (by unfold maxLen; omega))
  have w1 : IntKind.i64.wrap (ana + 1) = ana + 1 := by rw [IntKind.wrap_i64]; omega
  have w3 : IntKind.i64.wrap ((anc : Int) - 1) = (anc : Int) - 1 := by rw [IntKind.wrap_i64]; omega
  have hoc1 : ((anc - 1 : Nat) : Int) = (anc : Int) - 1 := by omega
  have HOC1 := hide hoc1
  obtain ⟨L, hL⟩ : ∃ L, k.new ++ [s.extract 1 s.size] = L := ⟨_, rfl⟩
  have HL := hide hL
  have HB : Hid (k.new.length + [s.extract 1 s.size].length ≤ 1000000000000) := hide (by have := HK.out.2.2.1; simp; omega)
  have HI := hide hi
  clear h hsg hu hst a2 hoc1 q1 q2 hL c0 c1 c3 c5 c6 c7 c8
  cases along
  case' false =>
    have HLG : Hid (lng s = decide ((4096 : Int) < ((s.size - 1 : Nat) : Int))) := hide (by
      unfold lng txt
      have e : ((4096 : Int) < ((s.size - 1 : Nat) : Int)) ↔ 4096 < (s.extract 1 s.size).size := by rw [ByteArray.size_extract]; omega
      simp only [e])
  all_goals
    go_enter Tryd.func27, Tryd.ntmps27
    go_wp2_with fail
    go_quiet (fail)
    obtain ⟨W, hW⟩ : ∃ W, w.drewN nq = W := ⟨_, rfl⟩
    have M1 := UnMem.below M0.out (below_drewN (Below.refl _ _) nq)
    have b9 : (w.drewN nq).cell? ⟨U, 9, none⟩ = _ := c9
    have b2 : (w.drewN nq).cell? ⟨U, 2, none⟩ = _ := c2
    have b4 : (w.drewN nq).cell? ⟨U, 4, none⟩ = _ := c4
    rw [hW] at M1 b9 b2 b4 ⊢
    clear c2 c4 c9 z9
    have z9 := M1.frozen 9
    have M9 : Hid (∀ b, UnAt w0 (W.setCell ⟨U, 9, none⟩ (.bool b)) U _ hv cv vs) := hide (fun b => UnAt.setLong M1 b)
    clear M1
    go_wp2_with fail
    refine (change_any ⟨_, _, _, M9.out _⟩ (hlb.out _) (by omega)).mono ?_
    rintro e w8 ⟨hv', cv', vs', he8, h8⟩
    rw [hlc.out, HCHG.out] at he8 h8
    obtain ⟨g, cap, vs0, o, n, rfl, rfl, hl⟩ := h8.last rfl
    have he9 : e = .returned (.pointer (some ⟨g, afin.length * 4, none⟩)) := he8
    subst he9
    have hoo : (w8.ownsRow w0.heap.size 9 1 o k.old.length (k.old.map Value.string)) := hl.rowOld.own (o, k.old) (by simp)
    have hnn : (w8.ownsRow w0.heap.size 9 1 n k.new.length (k.new.map Value.string)) := hl.rowOld.own (n, k.new) (by simp)
    obtain ⟨oA, oc', rfl⟩ := own_fmU hoo
    obtain ⟨nA, nc', rfl⟩ := own_fmU hnn
    obtain ⟨d0, d1, d2, d3⟩ := hl.cells
    rw [Nat.mul_comm] at d2 d3
    have y2 := hl.frozen (afin.length * 4 + 3)
    have HLA := hide hl
    have H8 := hide h8
    have hlo := UnMem.lo h8
    have hgU := hl.lt
    have hU8 := UnMem.lt h8
    have hZ8 := (UnMem.bel h8).size
    have HD : Hid (∀ (ob : Obj) (wb : World), (w8.alloc ob).grownBy wb (Value.slice nA k.new.length nc').ownBlock → wb.cell? ⟨g, afin.length * 4 + 3, none⟩ = some (.slice nA k.new.length nc') ∧ wb.frozen? ⟨g, afin.length * 4 + 3, none⟩ = false) := hide (fun ob wb hgr => by
      have ne : ∀ q, (Value.slice nA k.new.length nc').ownBlock = some q → q ≠ g := fun q hq => by
        obtain ⟨ds, hd⟩ := own_type' (hl.rowNew.own (.slice nA k.new.length nc', k.new) (List.mem_cons_self ..)) hq
        obtain ⟨cs', hc⟩ := hl.block
        exact two_types hd hc (by decide)
      have ba : Below w8.heap.size w8 (w8.alloc ob) := (Below.refl _ _).alloc (Nat.le_refl _) ob
      have hga : g < (w8.alloc ob).heap.size := Nat.lt_of_lt_of_le hl.lt.2 ba.size
      exact ⟨(grown_cell (p := ⟨g, afin.length * 4 + 3, none⟩) hgr hga (fun e => ne g e rfl)).trans ((ba.cell (p := ⟨g, afin.length * 4 + 3, none⟩) hl.lt.2).trans d3), (grown_frozen (p := ⟨g, afin.length * 4 + 3, none⟩) hgr hga (fun e => ne g e rfl)).trans ((ba.frozen (p := ⟨g, afin.length * 4 + 3, none⟩) hl.lt.2).trans y2)⟩)
    have KP := hide (KeepU.start h8)
    clear M9 b2 b4 b9 z9 hoo hnn d0 d1 he8 h8 hl y2
    go_wp2_with (at_builtin; refine wpList_appU rfl (.tmp 76) (.tmp 78) rfl w0.heap.size (.slice nA k.new.length nc') k.new rfl ((HLA.out.below ((Below.refl _ _).alloc (Nat.le_refl _) _)).rowNew.own (.slice nA k.new.length nc', k.new) (List.mem_cons_self ..)) (.slice (some ⟨_, 0, none⟩) 1 1) [s.extract 1 s.size] L rfl (HSZ.out _ _ _ (by simp)) HL.out HB.out (by simp; omega) ?_; intro A1 k1 wb hown1 hgr1 hat1; have LS := hide ((HLA.out.below ((Below.refl _ _).alloc (Nat.le_refl _) _)).setNew (by decide) hgr1 hown1 hat1); obtain ⟨f2, f3⟩ := HD.out _ _ hgr1; have KP2 := hide (((KP.out.alloc _).grown hlo hgr1 (fun q hq => own_ge (HLA.out.rowNew.own (.slice nA k.new.length nc', k.new) (List.mem_cons_self ..)) q hq)).set hlo (g := g) (by omega) (4 * afin.length + 3) (.slice A1 L.length k1)))
    have M3 := UnMem.reLast (h := k) (hs' := []) H8.out KP2.out LS.out
    rw [Nat.mul_comm 4 afin.length] at M3
    have HM3 := hide M3
    clear KP2 LS f2 f3 hown1 hgr1 hat1 M3 KP HD HLA d2 d3
    generalize wb.setCell ⟨g, afin.length * 4 + 3, none⟩ (.slice A1 L.length k1) = W3 at *
    have b1 : W3.cell? ⟨U, 3, none⟩ = some (.int .i64 ana) := HM3.out.cell 3 rfl
    have b2 : W3.cell? ⟨U, 4, none⟩ = some (.int .i64 (anc : Int)) := HM3.out.cell 4 rfl
    have z1 := HM3.out.frozen 3
    have z2 := HM3.out.frozen 4
    go_region
    go_wp2_with fail
    have M4 := hide (((HM3.out.set 3 (.int .i64 (ana + 1))).set 4 (.int .i64 ((anc : Int) - 1))).drew)
    clear HM3 b1 b2 z1 z2
    generalize ((W3.setCell ⟨U, 3, none⟩ (.int .i64 (ana + 1))).setCell ⟨U, 4, none⟩ (.int .i64 ((anc : Int) - 1))).drew = W4 at *
    have MV : Hid (UnIn w0 W4 U v) := hide (by
      have m := M4.out
      rw [← HOC1.out, ← HL.out] at m
      rw [← HST.out]
      try rw [HLG.out]
      exact ⟨_, _, _, m⟩)
    refine (close_any MV.out HV.out (by omega)).mono ?_
    rintro e w' ⟨rfl, hfin⟩
    have HF := hide hfin
    clear hfin
    go_wp2_with fail
    go_ret
    exact ⟨rfl, HF.out⟩
/-- a line of a group -/
theorem line_any {w0 w : World} {U : Nat} {u : Un} {i : Nat} (h : UnIn w0 w U u) (hu : UnOk u i) (hi : i ≤ 800000) (s : ByteArray) (hz : s.size ≤ 900000) :
    Calls Tryd.prog 27 #[.pointer (some ⟨U, 0, none⟩), .string s] w fun e w' => (u.step s = none ∧ e = .returned (.int .i64 1) ∧ Below w.heap.size w w') ∨ ∃ v, u.step s = some v ∧ e = .returned (.int .i64 0) ∧ UnIn w0 w' U v.rest := by
  by_cases hs : 0 < s.size
  · cases hv : u.step s with
    | none =>
      unfold Un.step at hv
      rw [if_neg (by omega)] at hv
      by_cases h1 : sgn s = 32
      · rw [if_pos h1] at hv
        by_cases h2 : u.oc = 0 ∨ u.nc = 0
        · exact (line_over h s hs hz (.inl ⟨h1, h2⟩)).mono fun e w' h => .inl ⟨rfl, h⟩
        · rw [if_neg h2] at hv; cases hv
      · rw [if_neg h1] at hv
        by_cases h2 : sgn s = 45
        · rw [if_pos h2] at hv
          by_cases h3 : u.oc = 0
          · exact (line_over h s hs hz (.inr (.inl ⟨h2, h3⟩))).mono fun e w' h => .inl ⟨rfl, h⟩
          · rw [if_neg h3] at hv; cases hv
        · rw [if_neg h2] at hv
          by_cases h3 : sgn s = 43
          · rw [if_pos h3] at hv
            by_cases h4 : u.nc = 0
            · exact (line_over h s hs hz (.inr (.inr ⟨h3, h4⟩))).mono fun e w' h => .inl ⟨rfl, h⟩
            · rw [if_neg h4] at hv; cases hv
          · exact (line_none (w0 := w0) s hs hz h1 h2 h3).mono fun e w' h => .inl ⟨rfl, h⟩
    | some v =>
      have hv0 := hv
      unfold Un.step at hv
      rw [if_neg (by omega)] at hv
      by_cases h1 : sgn s = 32
      · rw [if_pos h1] at hv
        by_cases h2 : u.oc = 0 ∨ u.nc = 0
        · rw [if_pos h2] at hv; cases hv
        · exact (line_stay h hu hi s hs hz h1 (fun e => h2 (.inl e)) (fun e => h2 (.inr e)) v hv0).mono fun e w' h => .inr ⟨v, rfl, h⟩
      · rw [if_neg h1] at hv
        by_cases h2 : sgn s = 45
        · rw [if_pos h2] at hv
          by_cases h3 : u.oc = 0
          · rw [if_pos h3] at hv; cases hv
          · exact (line_minus h hu hi s hs hz h2 h3 v hv0).mono fun e w' h => .inr ⟨v, rfl, h⟩
        · rw [if_neg h2] at hv
          by_cases h3 : sgn s = 43
          · rw [if_pos h3] at hv
            by_cases h4 : u.nc = 0
            · rw [if_pos h4] at hv; cases hv
            · exact (line_plus h hu hi s hs hz h3 h4 v hv0).mono fun e w' h => .inr ⟨v, rfl, h⟩
          · rw [if_neg h3] at hv; cases hv
  · have hv : u.step s = none := by unfold Un.step; rw [if_pos (by omega)]
    exact (line_empty (w0 := w0) s hs).mono fun e w' h => .inl ⟨hv, h⟩
end Go.Proofs.YtinpgnekjebipaaDoor
