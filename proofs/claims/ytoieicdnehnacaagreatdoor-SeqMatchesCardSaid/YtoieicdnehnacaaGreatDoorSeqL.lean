/- The program's Seq: beyond (a closure). -/
import Derived.Test.YtoieicdnehnacaaGreatDoorSeqK
set_option linter.unusedVariables false
set_option linter.unusedSimpArgs false
namespace Go.Pw
open Go.RowKit
/-- beyond the end, up or down -/
def beyB (down : Bool) (C : Int) : Bool := if down then decide (C < 0) else decide (0 < C)
end Go.Pw
namespace Go.Proofs.YtoieicdnehnacaaGreatDoor
open Go.RowKit Go.Pw
set_option maxHeartbeats 4000000 in
theorem beyond_any (v t : Int) (b nb b2 : Bool) (d db d2 : ByteArray) (B1 B2 : Nat) (w : World) (h : ExI v b d) (h2 : ExI t b2 d2) (hz1 : d.size ≤ 100) (hz2 : d2.size ≤ 100)
    (hB1 : ExAt w B1 63 nb db) (hB2 : ExAt w B2 63 b2 d2) :
    Calls Tryz.prog 36 #[.agg #[.bool b, .string d], .pointer (some ⟨B1, 0, none⟩), .pointer (some ⟨B2, 0, none⟩)] w fun e w' => e = .returned (.bool (beyB nb (Lib.compareInt v t))) ∧ Below w.heap.size w w' := by
  have HC := hide (fun V => exCmp_any v t b b2 d d2 V h h2 hz1 hz2)
  obtain ⟨C, hC⟩ : ∃ C, Lib.compareInt v t = C := ⟨_, rfl⟩
  simp only [hC] at HC
  rw [hC]
  have hb := (Below.refl w.heap.size w).alloc (Nat.le_refl _) (.cells #[.bool b, .string d] 63)
  have E1 : ExAt (w.alloc (.cells #[.bool b, .string d] 63)) B1 63 nb db := hB1.below hb hB1.lt
  have E2 : ExAt (w.alloc (.cells #[.bool b, .string d] 63)) B2 63 b2 d2 := hB2.below hb hB2.lt
  have HB := hide hb
  have hlt1 := hB1.lt
  have hlt2 := hB2.lt
  clear hC h h2 hz1 hz2 hb
  obtain ⟨p0, p1⟩ := hB1.cells
  obtain ⟨r0, r1⟩ := hB2.cells
  obtain ⟨a0, a1⟩ := E1.cells
  obtain ⟨c0, c1⟩ := E2.cells
  clear hB1 hB2 E1 E2
  cases nb
  · have HV : Hid (beyB false C = decide (0 < C)) := hide rfl
    go_enter Tryz.func36, Tryz.ntmps36
    go_wp2_with fail
    refine (HC.out _).mono ?_
    rintro e w2 ⟨rfl, hb2⟩
    have HB2 := hide (HB.out.trans (hb2.mono (by simp)))
    clear hb2
    go_wp2_with fail
    all_goals
      go_ret
      exact ⟨by rw [HV.out]; simp, HB2.out⟩
  · have HV : Hid (beyB true C = decide (C < 0)) := hide rfl
    go_enter Tryz.func36, Tryz.ntmps36
    go_wp2_with fail
    refine (HC.out _).mono ?_
    rintro e w2 ⟨rfl, hb2⟩
    have HB2 := hide (HB.out.trans (hb2.mono (by simp)))
    clear hb2
    go_wp2_with fail
    all_goals
      go_ret
      exact ⟨by rw [HV.out]; simp, HB2.out⟩
end Go.Proofs.YtoieicdnehnacaaGreatDoor
