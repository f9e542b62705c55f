/- slices.SortStableFunc of a slice of ints that has fewer than 20 elements. -/
import Derived.Test.YtfjbdbdjhkmifaaProg
import Derived.Test.YtfjbdbdjhkmifaaIRow
import Derived.Test.YtfjbdbdjhkmifaaInsP
import Derived.WalkKit
import Derived.WalkLawsBesides
import Derived.WalkSpells
import Derived.LoopTactic
import Derived.RegionTactic
import Derived.Deep.RegionHeld3
import Derived.Outline
import Derived.Deep.QuietTactic
import Derived.BigQuiet
set_option linter.unusedVariables false
set_option linter.unusedSimpArgs false
namespace Go.Proofs.Ytfjbdbdjhkmifaa
open Go.RowKit Go.Pw

set_option maxHeartbeats 2000000 in
set_option maxRecDepth 100000 in
theorem insertionI_any (cf : Cfn) (sv : Value) (N B o cap a b : Nat) (l : List Int) (w : World) (hB : B < N) (hN : N ≤ w.heap.size) (hrow : RowI w B o l) (hab : a ≤ b) (hle : b ≤ l.length) (hcap : l.length ≤ cap) (hc2 : l.length ≤ 140737488355328)
    (hsz : ∀ s ∈ l, IOk cf s)
    (hcmp : ∀ (x y : Int) (w1 : World), IOk cf x → IOk cf y → But N B w w1 → Calls Try.prog 78 #[.int .i64 x, .int .i64 y, sv] w1 fun e w2 => e = .returned (.int .i64 (cf x y)) ∧ Below w1.heap.size w1 w2) :
    Calls Try.prog 99 #[.slice (some ⟨B, o, none⟩) l.length cap, .int .i64 a, .int .i64 (b : Int), .func (.func 78) #[] #[sv]] w
      fun e w' => e = .returned (.tuple #[]) ∧ RowI w' B o (insL (fun x y => decide (cf x y < 0)) a (b - a) l) ∧ But N B w w' := by
  have HC := hide hcmp
  have HZ := hide hsz
  clear hcmp hsz
  go_enter Try.func99, Try.ntmps99
  go_wp2_with fail
  go_loopw [8] (fun i wr => ∃ m : Nat, a + 1 ≤ m ∧ (m ≤ b ∨ m = a + 1) ∧ i = .int .i64 (m : Int) ∧ RowI wr B o (insL (fun x y => decide (cf x y < 0)) a (m - a) l) ∧ But N B w wr) (fun i _ => b - (intOf i).toNat)
  case atStart => exact ⟨a + 1, by omega, .inr rfl, by go_num, by rw [show a + 1 - a = 1 by omega]; exact hrow, But.refl _ _ _⟩
  case round =>
    obtain ⟨m, hm1, hm2, rfl, hrm, hbut⟩ := hrel
    by_cases hlt : m < b
    · obtain ⟨lm, hlm⟩ : ∃ lm, insL (fun x y => decide (cf x y < 0)) a (m - a) l = lm := ⟨_, rfl⟩
      have hll : lm.length = l.length := by rw [← hlm, insL_length]
      have hmem : ∀ s ∈ lm, IOk cf s := fun s hs => HZ.out s (mem_insL (by rw [hlm]; exact hs))
      have HN : Hid (insL (fun x y => decide (cf x y < 0)) a (m + 1 - a) l = sinkL (fun x y => decide (cf x y < 0)) (m - a) m lm) := by
        show _ = _
        rw [show m + 1 - a = (m - a) + 1 by omega, insL, hlm, show a + (m - a) = m by omega]
      rw [hlm] at hrm
      have HLL := hide hll
      have HMM := hide hmem
      clear hlm hll hmem
      go_wp2_with fail
      go_loopw [9] (fun j wr => ∃ (r : Nat) (lr : List Int), a ≤ r ∧ r ≤ m ∧ j = .int .i64 (r : Int) ∧ Hid (lr.length = l.length) ∧ Hid (insL (fun x y => decide (cf x y < 0)) a (m + 1 - a) l = sinkL (fun x y => decide (cf x y < 0)) (r - a) r lr) ∧ Hid (∀ s ∈ lr, IOk cf s) ∧ RowI wr B o lr ∧ But N B w wr) (fun j _ => (intOf j).toNat)
      case atStart => exact ⟨m, lm, by omega, by omega, rfl, HLL, HN, HMM, hrm, hbut⟩
      case round =>
        obtain ⟨r, lr, hra, hr, rfl, hl1, hn1, hz1, hr1, hb1⟩ := hrel
        by_cases hr0 : a < r
        · have hg : decide (a < r) = true := by simpa using hr0
          have i1 : r < lr.length := by rw [hl1.out]; omega
          have i2 : r - 1 < lr.length := by omega
          have c1 := hr1.2 r _ (List.getElem?_eq_getElem i1)
          have c2 := hr1.2 (r - 1) _ (List.getElem?_eq_getElem i2)
          have z1 := hz1.out _ (List.getElem_mem i1)
          have z2 := hz1.out _ (List.getElem_mem i2)
          have hs1 := sinkL_step (fun x y => decide (cf x y < 0)) (r - 1 - a) r lr i1
          rw [show r - 1 - a + 1 = r - a by omega] at hs1
          obtain ⟨x, hx⟩ : ∃ x, lr[r] = x := ⟨_, rfl⟩
          obtain ⟨y, hy⟩ : ∃ y, lr[r - 1] = y := ⟨_, rfl⟩
          have hsw := swapL_eq lr r (r - 1) i1 i2
          rw [hx, hy] at hs1 hsw
          have HS := hide hs1
          have HSW := hide hsw
          rw [hx] at c1 z1 
          rw [hy] at c2 z2
          clear hx hy hs1 hsw
          obtain ⟨c1, f1⟩ := c1
          obtain ⟨c2, f2⟩ := c2
          have hlB := hr1.1
          have hw1 : IntKind.i64.wrap ((r : Int) - 1) = (r : Int) - 1 := IntWalk.i64_in _ (by omega)
          have hw2 : ((r : Int) - 1).toNat = r - 1 := by omega
          have hw3 : (0 : Int) ≤ (r : Int) - 1 := by omega
          have hw4 : (r : Int) - 1 < (l.length : Int) := by omega
          have hw5 : r < l.length := by omega
          have hw6 : (1 : Int) ≤ (r : Int) := by omega
          have hw7 : 1 ≤ r := by omega
          by_cases hcf : cf x y < 0
          · have hcf' : decide (cf x y < 0) = true := by simpa using hcf
            have HN2 : Hid (insL (fun x y => decide (cf x y < 0)) a (m + 1 - a) l = sinkL (fun x y => decide (cf x y < 0)) (r - 1 - a) (r - 1) ((lr.set r y).set (r - 1) x)) := by
              show _ = _
              rw [hn1.out, HS.out, hcf', if_pos rfl, HSW.out]
            have HL2 : Hid (((lr.set r y).set (r - 1) x).length = l.length) := by show _ = _; simp [hl1.out]
            have HZ2 : Hid (∀ s ∈ (lr.set r y).set (r - 1) x, IOk cf s) := hide (by
              intro s hs
              rcases List.mem_or_eq_of_mem_set hs with hs | hs
              · rcases List.mem_or_eq_of_mem_set hs with hs | hs
                · exact hz1.out s hs
                · subst hs; exact z2
              · subst hs; exact z1)
            clear hcf
            go_wp2_with fail
            go_region_held3 (fun w' => w'.cell? ⟨B, o + r, none⟩ = some (.int .i64 x) ∧ w'.cell? ⟨B, o + (r - 1), none⟩ = some (.int .i64 y)) (go_keep) ((go_at_call 78; (with_reducible refine (HC.out x y _ z1 z2 (But.drew hb1)).mono ?_); rintro e w1 ⟨rfl, hbl⟩; have hbl' : Below wr.heap.size wr w1 := ⟨hbl.os, hbl.tape, hbl.output, hbl.size, hbl.block⟩; have q1 : w1.cell? ⟨B, o + r, none⟩ = some (.int .i64 x) := (hbl'.cell hlB).trans c1; have q2 : w1.cell? ⟨B, o + (r - 1), none⟩ = some (.int .i64 y) := (hbl'.cell hlB).trans c2))
            have hr2 : RowI w1 B o lr := hr1.below hbl' hlB
            have hb2 : But N B w w1 := hb1.trans (But.of_below hbl' (by have := hb1.size; omega))
            have f1' : w1.frozen? ⟨B, o + r, none⟩ = false := (hbl'.frozen hlB).trans f1
            have f2' : w1.frozen? ⟨B, o + (r - 1), none⟩ = false := (hbl'.frozen hlB).trans f2
            clear hbl hbl' c1 c2 f1 f2 hr1 hb1
            have hr3 := (hr2.set y i1).set (i := r - 1) x (by simpa using i2)
            clear hr2
            go_wp2_with fail
            go_region
            all_goals
              go_wp2_with fail
              go_roundw
              case rel => exact ⟨r - 1, (lr.set r y).set (r - 1) x, by omega, by omega, by go_num, HL2, HN2, HZ2, by first | exact hr3 | exact RowI.drew hr3, ((hb2.setCell _ _).setCell _ _).drew⟩
              case measure => simp [intOf]; omega
          · have hcf' : decide (cf x y < 0) = false := by simpa using hcf
            have HN2 : Hid (insL (fun x y => decide (cf x y < 0)) a (m + 1 - a) l = lr) := by
              show _ = _
              rw [hn1.out, HS.out, hcf', if_neg (by simp)]
            clear hcf
            go_wp2_with fail
            go_region_held3 (fun w' => w'.cell? ⟨B, o + r, none⟩ = some (.int .i64 x) ∧ w'.cell? ⟨B, o + (r - 1), none⟩ = some (.int .i64 y)) (go_keep) ((go_at_call 78; (with_reducible refine (HC.out x y _ z1 z2 (But.drew hb1)).mono ?_); rintro e w1 ⟨rfl, hbl⟩; have hbl' : Below wr.heap.size wr w1 := ⟨hbl.os, hbl.tape, hbl.output, hbl.size, hbl.block⟩; have q1 : w1.cell? ⟨B, o + r, none⟩ = some (.int .i64 x) := (hbl'.cell hlB).trans c1; have q2 : w1.cell? ⟨B, o + (r - 1), none⟩ = some (.int .i64 y) := (hbl'.cell hlB).trans c2))
            have hr2 : RowI w1 B o lr := hr1.below hbl' hlB
            have hb2 : But N B w w1 := hb1.trans (But.of_below hbl' (by have := hb1.size; omega))
            have f1' : w1.frozen? ⟨B, o + r, none⟩ = false := (hbl'.frozen hlB).trans f1
            have f2' : w1.frozen? ⟨B, o + (r - 1), none⟩ = false := (hbl'.frozen hlB).trans f2
            clear hbl hbl' c1 c2 f1 f2 hr1 hb1
            rw [← HN2.out] at hr2
            go_wp2_with fail
            go_roundw
            case rel => exact ⟨m + 1, by omega, by omega, by go_num, hr2, hb2⟩
            case measure => simp [intOf]; omega
        · have hg : decide (a < r) = false := by simpa using hr0
          have HN2 : Hid (insL (fun x y => decide (cf x y < 0)) a (m + 1 - a) l = lr) := by
            show _ = _
            rw [hn1.out, show r - a = 0 by omega]; rfl
          rw [← HN2.out] at hr1
          go_wp2_with fail
          go_quiet (fail)
          go_wp2_with fail
          go_roundw
          case rel => exact ⟨m + 1, by omega, by omega, by go_num, hr1, ⟨hb1.os, hb1.tape, hb1.output, hb1.size, hb1.block⟩⟩
          case measure => simp [intOf]; omega
    · go_wp2_with fail
      go_end0
      refine ⟨rfl, ?_, hbut⟩
      by_cases hn : b = a
      · obtain rfl : m = a + 1 := by omega
        rw [show a + 1 - a = 1 by omega] at hrm
        rw [show b - a = 0 by omega]
        exact hrm
      · obtain rfl : m = b := by omega
        exact hrm

end Go.Proofs.Ytfjbdbdjhkmifaa
