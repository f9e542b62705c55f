/- (*unifier).begin: a group begins. -/
import Derived.Test.YtinpgnekjebipaaDoorUrS
import Derived.Test.YtinpgnekjebipaaDoorUrF
import Derived.Test.YtinpgnekjebipaaDoorSame
set_option linter.unusedSimpArgs false
set_option linter.unusedVariables false
namespace Go.Proofs.YtinpgnekjebipaaDoor
open Go.RowKit Go.Pw
/-- the head of a line -/
def hdS (s : ByteArray) : Option Hd := hdR s.data.toList
def BegPost (w0 : World) (U : Nat) (u : Un) (s : ByteArray) (w : World) (e : Ending) (w' : World) : Prop :=
  (hdS s = none ∧ e = .returned (.int .i64 1) ∧ Below w.heap.size w w') ∨ (∃ h, hdS s = some h ∧ (h.oa < u.oe ∨ h.na ≠ h.oa + u.de) ∧ e = .returned (.int .i64 9) ∧ Below w.heap.size w w') ∨
    ∃ h, hdS s = some h ∧ ¬ (h.oa < u.oe ∨ h.na ≠ h.oa + u.de) ∧ e = .returned (.int .i64 0) ∧ UnIn w0 w' U (u.start h).rest
theorem two_parts (w : World) (a b c d : Value) : ∀ W, W = (w.alloc (.cells #[a, b] 50)).alloc (.cells #[c, d] 50) → Below w.heap.size w W ∧ PtRow W w.heap.size a b ∧ PtRow W (w.heap.size + 1) c d := by
  rintro W rfl
  refine ⟨below2 _ _ _, (heap_alloc_old _ _ (by simp)).trans (heap_alloc_new _ _), ?_⟩
  have := heap_alloc_new (w.alloc (.cells #[a, b] 50)) (.cells #[c, d] 50)
  simpa [PtRow] using this
set_option maxHeartbeats 4000000 in
set_option maxRecDepth 100000 in
theorem begin_U {w0 w : World} {U : Nat} {u : Un} {i : Nat} (h : UnIn w0 w U u) (hu : UnOk u i) (hi : i ≤ 800000) (s : ByteArray) (hs : s.size ≤ 90000) (hP : PowTab w) (hE : ErrT w) :
    Calls Tryd.prog 28 #[.pointer (some ⟨U, 0, none⟩), .string s] w (BegPost w0 U u s w) := by
  have HH := hide (headOf_any s w hs hP hE)
  have HIN := hide h
  have HU := hide hu
  have he1 := hu.e1; have he2 := hu.e2; have hd1 := hu.d1; have hd2 := hu.d2
  obtain ⟨PST, hPST⟩ : ∃ P, BegPost w0 U u s w = P := ⟨_, rfl⟩
  have HPST := hide hPST
  rw [hPST]
  clear hP hE h hu hPST
  go_enter Tryd.func28, Tryd.ntmps28
  go_wp2_with fail
  refine HH.out.mono ?_
  rintro e w1 ⟨a, b, c, d, ok, rfl, hr, hb⟩
  cases ok with
  | false =>
    have hnone : hdS s = none := by
      rcases hr with ⟨hr, _⟩ | ⟨_, hr⟩
      · cases hr
      · cases hq : hdS s with
        | none => rfl
        | some g => exact absurd ((hdR_iff _ _).1 hq) (hr g)
    have HN := hide hnone
    have HB := hide hb
    clear hnone hr hb
    go_wp2_with fail
    rw [← HPST.out]
    exact .inl ⟨HN.out, rfl, HB.out.trans ((below2 _ _ _).mono HB.out.size)⟩
  | true =>
    obtain ⟨g, hf, rfl, rfl, rfl, rfl⟩ : ∃ h : Hd, HForm s.data.toList h ∧ a = h.oa ∧ b = (h.oc : Int) ∧ c = h.na ∧ d = (h.nc : Int) := by
      rcases hr with ⟨_, hr⟩ | ⟨hr, _⟩
      · exact hr
      · cases hr
    have hsome := (hdR_iff _ _).2 hf
    have hgo := hf.ok
    have HGO := hide hgo
    obtain ⟨go1, go2, go3, go4, go5, go6⟩ := hgo
    have HSM : Hid (hdS s = some g) := hide hsome
    have HB := hide hb
    have HIN1 := hide (HIN.out.below hb)
    clear hf hsome hr hb HIN HH
    go_upto_region 2 with fail
    obtain ⟨W2, hW2⟩ : ∃ W, W = (w1.alloc (.cells #[.int .i64 g.oa, .int .i64 (g.oc : Int)] 50)).alloc (.cells #[.int .i64 g.na, .int .i64 (g.nc : Int)] 50) := ⟨_, rfl⟩
    rw [← hW2]
    obtain ⟨hb2, hp1, hp2⟩ := two_parts w1 _ _ _ _ W2 hW2
    have HP1 := hide hp1
    have HP2 := hide hp2
    have HB2 := hide (HB.out.trans (hb2.mono HB.out.size))
    obtain ⟨hv, cv, vs, hat⟩ := HIN1.out.below hb2
    have HAT := hide hat
    obtain ⟨c0, c1, c2, c3, c4, c5, c6, c7, c8, c9⟩ := hat.cells
    obtain ⟨A, hA⟩ : ∃ A, w1.heap.size = A := ⟨_, rfl⟩
    rw [hA] at HP1 HP2 ⊢
    have hAU : U < A := by
      obtain ⟨_, _, _, h1⟩ := HIN1.out
      have := UnMem.lt h1
      omega
    obtain ⟨a0, a1⟩ := HP1.out.cells
    obtain ⟨b0, b1⟩ := HP2.out.cells
    clear hW2 hb2 hp1 hp2 hat hA HB HIN1
    by_cases h1 : g.oa < u.oe
    · have h1' : decide (g.oa < u.oe) = true := by simpa using h1
      go_wp2_with fail
      go_quiet (fail)
      go_wp2_with fail
      rw [← HPST.out]
      exact .inr (.inl ⟨g, HSM.out, .inl h1, rfl, below_drewN HB2.out _⟩)
    · have h1' : decide (g.oa < u.oe) = false := by simp; omega
      have hw1 : IntKind.i64.wrap (g.oa + u.de) = g.oa + u.de := by rw [IntKind.wrap_i64]; omega
      by_cases h2 : g.na = g.oa + u.de
      · have h2' : (g.na != g.oa + u.de) = false := by simp [h2]
        have H12 : Hid (¬ (g.oa < u.oe ∨ g.na ≠ g.oa + u.de)) := hide (fun h => h.elim h1 (fun h => h h2))
        have hdb : -1000000 ≤ u.de ∧ u.de ≤ 1000000 := by omega
        have H1 := hide h1
        clear h1 h2
        go_wp2_with fail
        go_quiet (fail)
        go_wp2_with fail
        have M3 : UnAt w0 (W2.drewN nq) U u hv cv vs := UnMem.below HAT.out (below_drewN (Below.refl _ _) nq)
        have P3 : PtRow (W2.drewN nq) A (.int .i64 g.oa) (.int .i64 (g.oc : Int)) := HP1.out
        have Q3 : PtRow (W2.drewN nq) (A + 1) (.int .i64 g.na) (.int .i64 (g.nc : Int)) := HP2.out
        have HB3 : Hid (Below w.heap.size w (W2.drewN nq)) := hide (below_drewN HB2.out nq)
        clear c0 c1 c2 c3 c4 c5 c6 c7 c8 c9 a0 a1 b0 b1 HAT HP1 HP2 HB2
        generalize W2.drewN nq = W3 at *
        obtain ⟨a0, a1⟩ := P3.cells
        obtain ⟨b0, b1⟩ := Q3.cells
        obtain ⟨c0, c1, c2, c3, c4, c5, c6, c7, c8, c9⟩ := M3.cells
        have z1 := UnMem.frozen M3 1
        have z2 := UnMem.frozen M3 2
        have z3 := UnMem.frozen M3 3
        have z4 := UnMem.frozen M3 4
        have z5 := UnMem.frozen M3 5
        have hw2 : IntKind.i64.wrap (g.oa + (g.oc : Int)) = g.oa + (g.oc : Int) := by rw [IntKind.wrap_i64]; omega
        have hw3 : IntKind.i64.wrap ((g.nc : Int) - (g.oc : Int)) = (g.nc : Int) - (g.oc : Int) := by rw [IntKind.wrap_i64]; omega
        have hw4 : IntKind.i64.wrap (u.de + ((g.nc : Int) - (g.oc : Int))) = u.de + ((g.nc : Int) - (g.oc : Int)) := by rw [IntKind.wrap_i64]; omega
        have HM3 := hide M3
        have HP3 := hide P3
        have HQ3 := hide Q3
        clear M3 P3 Q3
        go_region
        go_wp2_with fail
        have HM4 := hide ((((((UnMem.set HM3.out 1 (.int .i64 g.oa)).set 2 (.int .i64 (g.oc : Int))).set 3 (.int .i64 g.na)).set 4 (.int .i64 (g.nc : Int))).set 5 (.int .i64 (g.oa + (g.oc : Int)))).drew)
        have P4 : PtRow ((((((W3.setCell ⟨U, 1, none⟩ (.int .i64 g.oa)).setCell ⟨U, 2, none⟩ (.int .i64 (g.oc : Int))).setCell ⟨U, 3, none⟩ (.int .i64 g.na)).setCell ⟨U, 4, none⟩ (.int .i64 (g.nc : Int))).setCell ⟨U, 5, none⟩ (.int .i64 (g.oa + (g.oc : Int)))).drew) A (.int .i64 g.oa) (.int .i64 (g.oc : Int)) := ((((HP3.out.other (by omega) _).other (by omega) _).other (by omega) _).other (by omega) _).other (by omega) _
        have Q4 : PtRow ((((((W3.setCell ⟨U, 1, none⟩ (.int .i64 g.oa)).setCell ⟨U, 2, none⟩ (.int .i64 (g.oc : Int))).setCell ⟨U, 3, none⟩ (.int .i64 g.na)).setCell ⟨U, 4, none⟩ (.int .i64 (g.nc : Int))).setCell ⟨U, 5, none⟩ (.int .i64 (g.oa + (g.oc : Int)))).drew) (A + 1) (.int .i64 g.na) (.int .i64 (g.nc : Int)) := ((((HQ3.out.other (by omega) _).other (by omega) _).other (by omega) _).other (by omega) _).other (by omega) _
        clear c0 c1 c2 c3 c4 c5 c6 c7 c8 c9 a0 a1 b0 b1 z1 z2 z3 z4 z5 HM3 HP3 HQ3
        generalize (((((W3.setCell ⟨U, 1, none⟩ (.int .i64 g.oa)).setCell ⟨U, 2, none⟩ (.int .i64 (g.oc : Int))).setCell ⟨U, 3, none⟩ (.int .i64 g.na)).setCell ⟨U, 4, none⟩ (.int .i64 (g.nc : Int))).setCell ⟨U, 5, none⟩ (.int .i64 (g.oa + (g.oc : Int)))).drew = W4 at *
        have c6 : W4.cell? ⟨U, 6, none⟩ = some (.int .i64 u.de) := HM4.out.cell 6 rfl
        have z6 := HM4.out.frozen 6
        obtain ⟨a0, a1⟩ := P4.cells
        obtain ⟨b0, b1⟩ := Q4.cells
        clear P4 Q4
        go_region
        go_wp2_with fail
        have HM5 := hide ((HM4.out.set 6 (.int .i64 (u.de + ((g.nc : Int) - (g.oc : Int))))).drew)
        have HV : Hid (UnIn w0 (W4.setCell ⟨U, 6, none⟩ (.int .i64 (u.de + ((g.nc : Int) - (g.oc : Int))))).drew U (u.start g)) := hide ⟨_, _, _, HM5.out⟩
        clear HM5 HM4 c6 z6 a0 a1 b0 b1
        generalize (W4.setCell ⟨U, 6, none⟩ (.int .i64 (u.de + ((g.nc : Int) - (g.oc : Int))))).drew = W5 at *
        refine (close_any HV.out (HU.out.start HGO.out H12.out) (by omega)).mono ?_
        rintro e w' ⟨rfl, hfin⟩
        have HF := hide hfin
        clear hfin
        go_wp2_with fail
        rw [← HPST.out]
        exact .inr (.inr ⟨g, HSM.out, H12.out, rfl, HF.out⟩)
      · have h2' : (g.na != g.oa + u.de) = true := by simpa using h2
        have H12 : Hid (g.oa < u.oe ∨ g.na ≠ g.oa + u.de) := hide (.inr h2)
        clear h1 h2
        go_wp2_with fail
        go_quiet (fail)
        go_wp2_with fail
        rw [← HPST.out]
        exact .inr (.inl ⟨g, HSM.out, H12.out, rfl, below_drewN HB2.out _⟩)
end Go.Proofs.YtinpgnekjebipaaDoor
