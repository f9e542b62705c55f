/- (*unifier).line: a line of a group. -/
import Derived.Test.YtinpgnekjebipaaDoorUrD
import Derived.Test.YtinpgnekjebipaaDoorTextW
import Derived.BigRegion
set_option linter.unusedSimpArgs false
set_option linter.unusedVariables false
namespace Go.Pw
theorem sgn_at {s : ByteArray} (h : 0 < s.size) : sgn s = s[0].toNat := by
  unfold sgn
  rw [List.getD_eq_getElem?_getD, List.getElem?_eq_getElem (by rw [len_size]; exact h)]
  rfl
end Go.Pw
namespace Go.Proofs.YtinpgnekjebipaaDoor
open Go.RowKit Go.Pw
theorem one_strs (W : World) (T : TypeId) (x : ByteArray) (hx : x.size ≤ maxLen) : Strs (W.alloc (.cells #[.string x] T)) (.slice (some ⟨W.heap.size, 0, none⟩) 1 1) [x] := by
  refine ⟨⟨rfl, _, _, rfl, Nat.le_refl _, by show 1 ≤ maxLen; unfold maxLen; omega, fun _ => ⟨W.heap.size, 0, rfl, by simp, fun j u hu => ?_⟩⟩, fun s hs => by simp at hs; subst hs; exact hx⟩
  rw [World.cell?_alloc_new]
  simpa using hu
set_option maxHeartbeats 4000000 in
set_option maxRecDepth 100000 in
theorem line_empty {w0 w : World} {U : Nat} (s : ByteArray) (hs : ¬ 0 < s.size) :
    Calls Tryd.prog 27 #[.pointer (some ⟨U, 0, none⟩), .string s] w fun e w' => e = .returned (.int .i64 1) ∧ Below w.heap.size w w' := by
  obtain rfl := empty_of (s := s) (by omega)
  go_enter Tryd.func27, Tryd.ntmps27
  go_wp2_with fail
  go_ret
  exact ⟨rfl, Below.refl _ _⟩
set_option maxHeartbeats 4000000 in
set_option maxRecDepth 100000 in
/-- a sign that is none -/
theorem line_none {w0 w : World} {U : Nat} (s : ByteArray) (hs : 0 < s.size) (hz : s.size ≤ 900000) (h32 : ¬ sgn s = 32) (h45 : ¬ sgn s = 45) (h43 : ¬ sgn s = 43) :
    Calls Tryd.prog 27 #[.pointer (some ⟨U, 0, none⟩), .string s] w fun e w' => e = .returned (.int .i64 1) ∧ Below w.heap.size w w' := by
  have he := isEmpty_of hs
  rw [sgn_at hs] at h32 h45 h43
  have e32 : ((s[0].toNat : Int) == 32) = false := by simp; omega
  have e45 : ((s[0].toNat : Int) == 45) = false := by simp; omega
  have e43 : ((s[0].toNat : Int) == 43) = false := by simp; omega
  clear h32 h45 h43
  go_enter Tryd.func27, Tryd.ntmps27
  go_wp2_with fail
  go_quiet (fail)
  go_wp2_with fail
  go_ret
  exact ⟨rfl, below_drewN (Below.refl _ _) _⟩
set_option maxHeartbeats 4000000 in
set_option maxRecDepth 100000 in
/-- a sign that is one, but the group has no such line left -/
theorem line_over {w0 w : World} {U : Nat} {u : Un} (h : UnIn w0 w U u) (s : ByteArray) (hs : 0 < s.size) (hz : s.size ≤ 900000) (hc : (sgn s = 32 ∧ (u.oc = 0 ∨ u.nc = 0)) ∨ (sgn s = 45 ∧ u.oc = 0) ∨ (sgn s = 43 ∧ u.nc = 0)) :
    Calls Tryd.prog 27 #[.pointer (some ⟨U, 0, none⟩), .string s] w fun e w' => e = .returned (.int .i64 1) ∧ Below w.heap.size w w' := by
  have he := isEmpty_of hs
  obtain ⟨hv, cv, vs, h⟩ := h
  obtain ⟨c0, c1, c2, c3, c4, c5, c6, c7, c8, c9⟩ := h.cells
  rw [sgn_at hs] at hc
  obtain ⟨oc, hoc⟩ : ∃ x, u.oc = x := ⟨_, rfl⟩
  obtain ⟨nc, hnc⟩ : ∃ x, u.nc = x := ⟨_, rfl⟩
  rw [hoc] at c2 hc
  rw [hnc] at c4 hc
  clear h c0 c1 c3 c5 c6 c7 c8 c9 hoc hnc
  have key : ((s[0].toNat : Int) = 32 ∧ (oc : Int) = 0) ∨ ((s[0].toNat : Int) = 32 ∧ ¬ (oc : Int) = 0 ∧ (nc : Int) = 0) ∨ ((s[0].toNat : Int) = 45 ∧ (oc : Int) = 0) ∨ ((s[0].toNat : Int) = 43 ∧ (nc : Int) = 0) := by omega
  clear hc
  rcases key with ⟨k1, k2⟩ | ⟨k1, k2, k3⟩ | ⟨k1, k2⟩ | ⟨k1, k2⟩
  case' inr.inl => have o0 : ((oc : Int) == 0) = false := by simp; omega
  case' inr.inl => have n0 : ((nc : Int) == 0) = true := by simp; omega
  case' inl => have o0 : ((oc : Int) == 0) = true := by simp; omega
  case' inr.inr.inl => have o0 : ((oc : Int) == 0) = true := by simp; omega
  case' inr.inr.inr => have n0 : ((nc : Int) == 0) = true := by simp; omega
  case' inl => have e32 : ((s[0].toNat : Int) == 32) = true := by rw [k1]; rfl
  case' inr.inl => have e32 : ((s[0].toNat : Int) == 32) = true := by rw [k1]; rfl
  case' inr.inr.inl => have e32 : ((s[0].toNat : Int) == 32) = false := by rw [k1]; rfl
  case' inr.inr.inl => have e45 : ((s[0].toNat : Int) == 45) = true := by rw [k1]; rfl
  case' inr.inr.inl => have e43 : ((s[0].toNat : Int) == 43) = false := by rw [k1]; rfl
  case' inr.inr.inr => have e32 : ((s[0].toNat : Int) == 32) = false := by rw [k1]; rfl
  case' inr.inr.inr => have e45 : ((s[0].toNat : Int) == 45) = false := by rw [k1]; rfl
  case' inr.inr.inr => have e43 : ((s[0].toNat : Int) == 43) = true := by rw [k1]; rfl
  all_goals
    have K1 := hide k1
    have K2 := hide k2
    clear k1 k2
    try clear k3
    go_enter Tryd.func27, Tryd.ntmps27
    go_wp2_with fail
    go_quiet (fail)
    go_wp2_with fail
    go_ret
    exact ⟨rfl, below_drewN (Below.refl _ _) _⟩
set_option maxHeartbeats 4000000 in
set_option maxRecDepth 100000 in
/-- a line that stays -/
theorem line_stay {w0 w : World} {U : Nat} {u : Un} {i : Nat} (h : UnIn w0 w U u) (hu : UnOk u i) (hi : i ≤ 800000) (s : ByteArray) (hs : 0 < s.size) (hz : s.size ≤ 900000) (h32 : sgn s = 32) (ho : ¬ u.oc = 0) (hn : ¬ u.nc = 0) (v : Un) (hv : u.step s = some v) :
    Calls Tryd.prog 27 #[.pointer (some ⟨U, 0, none⟩), .string s] w fun e w' => e = .returned (.int .i64 0) ∧ UnIn w0 w' U v.rest := by
  have he := isEmpty_of hs
  have HV := hide (hu.step (by omega) hz hv)
  have hstep := hv
  unfold Un.step at hstep
  rw [if_neg (by omega), if_pos h32, if_neg (by omega)] at hstep
  have HST := hide (Option.some.inj hstep)
  clear hstep hv
  obtain ⟨hv, cv, vs, h⟩ := h
  have hcx := hu.c
  have ho1 := hu.o1; have ho2 := hu.o2; have hn1 := hu.n1; have hn2 := hu.n2
  obtain ⟨fin, cur, oa, oc, na, nc, oe, de, ctx, long⟩ := u
  simp only at hcx ho hn ho1 ho2 hn1 hn2
  obtain ⟨c0, c1, c2, c3, c4, c5, c6, c7, c8, c9⟩ := h.cells
  simp only at c1 c2 c3 c4 c8 c9
  have M0 := hide h
  obtain ⟨CA, cc, rfl⟩ := own_fmU (UnMem.cvOwn h)
  have z : ∀ j, w.frozen? ⟨U, j, none⟩ = false := fun j => UnMem.frozen h j
  have z9 := z 9
  rw [sgn_at hs] at h32
  have e32 : ((s[0].toNat : Int) == 32) = true := by rw [h32]; rfl
  have o0 : ((oc : Int) == 0) = false := by simp; omega
  have n0 : ((nc : Int) == 0) = false := by simp; omega
  have HZ := hide z
  have hU := UnMem.lt h
  have H32 := hide h32
  clear h z h32 hu
  obtain ⟨L, hL⟩ : ∃ L, ctx ++ [s.extract 1 s.size] = L := ⟨_, rfl⟩
  have HL := hide hL
  have hz1 : (s.extract 1 s.size).size ≤ 1000000 := by rw [ByteArray.size_extract]; omega
  have HB : Hid (ctx.length + [s.extract 1 s.size].length ≤ 1000000000000) := hide (by have := hcx.1; simp; omega)
  have HSZ : Hid (∀ (W : World) (N : Nat) (T : TypeId), N = W.heap.size → Strs (W.alloc (.cells #[.string (s.extract 1 s.size)] T)) (.slice (some ⟨N, 0, none⟩) 1 1) [s.extract 1 s.size]) := hide (fun W N T hN => hN ▸ one_strs W T (s.extract 1 s.size) (by unfold maxLen; omega))
  have w1 : IntKind.i64.wrap (oa + 1) = oa + 1 := by rw [IntKind.wrap_i64]; omega
  have w2 : IntKind.i64.wrap (na + 1) = na + 1 := by rw [IntKind.wrap_i64]; omega
  have w3 : IntKind.i64.wrap ((oc : Int) - 1) = (oc : Int) - 1 := by rw [IntKind.wrap_i64]; omega
  have w4 : IntKind.i64.wrap ((nc : Int) - 1) = (nc : Int) - 1 := by rw [IntKind.wrap_i64]; omega
  have hoc1 : ((oc - 1 : Nat) : Int) = (oc : Int) - 1 := by omega
  have hnc1 : ((nc - 1 : Nat) : Int) = (nc : Int) - 1 := by omega
  have HOC1 := hide hoc1
  have HNC1 := hide hnc1
  clear hL hoc1 hnc1 c5 c6 c7
  cases long
  case' false =>
    have HLG : Hid (lng s = decide ((4096 : Int) < ((s.size - 1 : Nat) : Int))) := hide (by
      unfold lng txt
      have e : ((4096 : Int) < ((s.size - 1 : Nat) : Int)) ↔ 4096 < (s.extract 1 s.size).size := by rw [ByteArray.size_extract]; omega
      simp only [e])
  all_goals
    go_enter Tryd.func27, Tryd.ntmps27
    go_wp2_with fail
    go_quiet (fail)
    obtain ⟨W, hW⟩ : ∃ W, w.drewN nq = W := ⟨_, rfl⟩
    have M1 := UnMem.below M0.out (below_drewN (Below.refl _ _) nq)
    rw [hW] at M1 ⊢
    have b9 : (w.drewN nq).cell? ⟨U, 9, none⟩ = _ := c9
    clear c0 c1 c2 c3 c4 c8 c9 z9
    have b1 : W.cell? ⟨U, 1, none⟩ = some (.int .i64 oa) := M1.cell 1 rfl
    have b2 : W.cell? ⟨U, 2, none⟩ = some (.int .i64 (oc : Int)) := M1.cell 2 rfl
    have b3 : W.cell? ⟨U, 3, none⟩ = some (.int .i64 na) := M1.cell 3 rfl
    have b4 : W.cell? ⟨U, 4, none⟩ = some (.int .i64 (nc : Int)) := M1.cell 4 rfl
    have b8 : W.cell? ⟨U, 8, none⟩ = some (.slice CA ctx.length cc) := M1.cell 8 rfl
    rw [hW] at b9
    have z9 := M1.frozen 9
    have hUW := M1.lt
    have hUZ := M1.bel.size
    have MA : Hid (∀ x ob, UnMem w0 ((W.setCell ⟨U, 9, none⟩ x).alloc ob) U _ _ hv vs (.slice CA ctx.length cc) ctx) := hide (fun x ob => (M1.set 9 x).below ((Below.refl _ _).alloc (Nat.le_refl _) ob))
    clear M1
    go_wp2_with (at_builtin; refine wpList_appU rfl (.tmp 88) (.tmp 90) rfl w0.heap.size (.slice CA ctx.length cc) ctx rfl (MA.out _ _).cvOwn (.slice (some ⟨_, 0, none⟩) 1 1) [s.extract 1 s.size] L rfl (HSZ.out _ _ _ (by simp [World.setCell])) HL.out HB.out (by simp [World.setCell]; omega) ?_; intro A1 k1 wb hown1 hgr1 hat1; have M2 := hide ((MA.out _ _).side hgr1 hown1 hat1); have d8 := M2.out.cell 8 rfl; have y8 := M2.out.frozen 8; clear hown1 hgr1 hat1)
    have M3 := hide (M2.out.set 8 (.slice A1 L.length k1))
    clear d8 y8 M2 b1 b2 b3 b4 b8 b9 z9 hUW MA
    generalize wb.setCell ⟨U, 8, none⟩ (.slice A1 L.length k1) = W3 at *
    have b1 : W3.cell? ⟨U, 1, none⟩ = some (.int .i64 oa) := M3.out.cell 1 rfl
    have b2 : W3.cell? ⟨U, 2, none⟩ = some (.int .i64 (oc : Int)) := M3.out.cell 2 rfl
    have z1 := M3.out.frozen 1
    have z2 := M3.out.frozen 2
    go_region
    go_wp2_with fail
    have M4 := hide (((M3.out.set 1 (.int .i64 (oa + 1))).set 2 (.int .i64 ((oc : Int) - 1))).drew)
    clear M3 b1 b2 z1 z2
    generalize ((W3.setCell ⟨U, 1, none⟩ (.int .i64 (oa + 1))).setCell ⟨U, 2, none⟩ (.int .i64 ((oc : Int) - 1))).drew = W4 at *
    have b3 : W4.cell? ⟨U, 3, none⟩ = some (.int .i64 na) := M4.out.cell 3 rfl
    have b4 : W4.cell? ⟨U, 4, none⟩ = some (.int .i64 (nc : Int)) := M4.out.cell 4 rfl
    have z3 := M4.out.frozen 3
    have z4 := M4.out.frozen 4
    go_region
    go_wp2_with fail
    have M5 := hide (((M4.out.set 3 (.int .i64 (na + 1))).set 4 (.int .i64 ((nc : Int) - 1))).drew)
    clear M4 b3 b4 z3 z4
    generalize ((W4.setCell ⟨U, 3, none⟩ (.int .i64 (na + 1))).setCell ⟨U, 4, none⟩ (.int .i64 ((nc : Int) - 1))).drew = W5 at *
    have MV : Hid (UnIn w0 W5 U v) := hide (by
      have m := M5.out
      rw [← HOC1.out, ← HNC1.out, ← HL.out] at m
      rw [← HST.out]
      try rw [HLG.out]
      exact ⟨_, _, _, m⟩)
    refine (close_any MV.out HV.out (by omega)).mono ?_
    rintro e w' ⟨rfl, hfin⟩
    have HF := hide hfin
    clear hfin
    go_wp2_with fail
    go_ret
    exact ⟨rfl, HF.out⟩
end Go.Proofs.YtinpgnekjebipaaDoor
