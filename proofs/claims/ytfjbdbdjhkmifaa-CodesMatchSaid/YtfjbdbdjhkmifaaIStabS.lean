/- slices.SortStableFunc of a slice of ints: two runs merged, where one is a single element. -/
import Derived.Test.YtfjbdbdjhkmifaaIStabW
import Derived.Test.YtfjbdbdjhkmifaaStabR
set_option linter.unusedVariables false
set_option linter.unusedSimpArgs false
namespace Go.Pw
open Go.RowKit
/-- the test that goes with a comparison -/
def ltI (cf : Cfn) (x y : Int) : Bool := decide (cf x y < 0)
end Go.Pw
namespace Go.Proofs.Ytfjbdbdjhkmifaa
open Go.RowKit Go.Pw
/-- a comparison that may be called while only block B is written -/
def CmpOkI (cf : Cfn) (sv : Value) (N B : Nat) (w0 : World) : Prop :=
  ∀ (x y : Int) (w1 : World), IOk cf x → IOk cf y → But N B w0 w1 → Calls Try.prog 78 #[.int .i64 x, .int .i64 y, sv] w1 fun e w2 => e = .returned (.int .i64 (cf x y)) ∧ Below w1.heap.size w1 w2
/-- where the search on the right stands -/
structure SeekRI (lt : Int → Int → Bool) (x : Int) (R : List Int) (m i j : Nat) : Prop where
  mi : m ≤ i
  ij : i ≤ j
  jb : j ≤ m + R.length
  lo : ∀ k z, k < i - m → R[k]? = some z → lt z x = true
  hi : ∀ k z, j - m ≤ k → R[k]? = some z → lt z x = false
set_option maxHeartbeats 4000000 in
set_option maxRecDepth 100000 in
theorem symLeftI_any (cf : Cfn) (sv : Value) (N B o cap len a m b : Nat) (P R T : List Int) (x : Int) (w0 w : World) (ea : P.length = a) (em : a + 1 = m) (eb : m + R.length = b) (hR : 0 < R.length) (hB : B < N) (hN : N ≤ w.heap.size) (hrow : RowI w B o (P ++ x :: (R ++ T))) (hlen : (P ++ x :: (R ++ T)).length = len) (hcap : len ≤ cap) (hc2 : len ≤ 140737488355328)
    (hsz : ∀ s ∈ P ++ x :: (R ++ T), IOk cf s) (hswo : Swo (ltI cf)) (hs : Srt (ltI cf) R) (hcmp : CmpOkI cf sv N B w0) (hb0 : But N B w0 w) :
    Calls Try.prog 100 #[.slice (some ⟨B, o, none⟩) len cap, .int .i64 (a : Int), .int .i64 (m : Int), .int .i64 (b : Int), .func (.func 78) #[] #[sv]] w
      fun e w' => e = .returned (.tuple #[]) ∧ RowI w' B o (P ++ (mrg (ltI cf) [x] R ++ T)) ∧ But N B w w' := by
  have hbl : b ≤ len := by rw [← hlen, ← eb, ← em, ← ea]; simp only [List.length_append, List.length_cons]; omega
  obtain ⟨l, hl⟩ : ∃ l, P ++ x :: (R ++ T) = l := ⟨_, rfl⟩
  have HX : Hid (l[a]? = some x) := hide (by rw [← hl, ← ea]; simp)
  have HAT : Hid (∀ h, m ≤ h → h < b → l[h]? = R[h - m]?) := hide (fun h h1 h2 => by
    rw [← hl, List.getElem?_append_right (by omega), show h - P.length = (h - m) + 1 by omega, List.getElem?_cons_succ, List.getElem?_append_left (by omega)])
  rw [hl] at hrow hlen hsz
  have HSZ := hide hsz
  have HL := hide hlen
  unfold CmpOkI at hcmp
  have HC := hide hcmp
  have HSW := hide hswo
  have HS := hide hs
  have HI := hide hl
  have HEA := hide ea
  have HEB := hide eb
  have hd1 : (((m : Int) - (a : Int)) == 1) = true := by simp only [beq_iff_eq]; omega
  have hd2 : (m : Int) - (a : Int) = 1 := by omega
  have hmb : m < b := by omega
  clear hsz hlen hcmp hswo hs hl ea eb hR
  go_enter Try.func100, Try.ntmps100
  go_wp2_with fail
  go_loopw [10, 11] (fun i j wr => ∃ (i' j' : Nat), i = .int .i64 (i' : Int) ∧ j = .int .i64 (j' : Int) ∧ Hid (SeekRI (ltI cf) x R m i' j') ∧ RowI wr B o l ∧ But N B w wr) (fun i j _ => (intOf j).toNat - (intOf i).toNat)
  case atStart => exact ⟨m, b, rfl, rfl, hide ⟨Nat.le_refl _, by omega, by have := HEB.out; omega, fun k z h _ => absurd h (by omega), fun k z h hz => by have := (List.getElem?_eq_some_iff.1 hz).1; have := HEB.out; omega⟩, hrow, But.refl _ _ _⟩
  case round =>
    obtain ⟨i, j, rfl, rfl, hk, hr, hb⟩ := hrel
    have hmi := hk.out.mi
    have hij := hk.out.ij
    have hjb : j ≤ b := by have := hk.out.jb; have := HEB.out; omega
    by_cases hlt : i < j
    · have hd3 : (i : Int) < (j : Int) := by omega
      obtain ⟨h, hh⟩ : ∃ h : Nat, (i + j) / 2 = h := ⟨_, rfl⟩
      have hh2 : ((i : Int) + (j : Int)) / 2 = (h : Int) := by omega
      have hh3 : (h : Int) < (len : Int) := by omega
      have e1 := HAT.out h (by omega) (by omega)
      have i1 : h < l.length := by rw [HL.out]; omega
      obtain ⟨y, hy⟩ : ∃ y, l[h]? = some y := ⟨_, List.getElem?_eq_getElem i1⟩
      rw [hy] at e1
      obtain ⟨c1, f1⟩ := hr.2 h y hy
      obtain ⟨c2, f2⟩ := hr.2 a x HX.out
      have z1 := HSZ.out y (List.mem_of_getElem? hy)
      have z2 := HSZ.out x (List.mem_of_getElem? HX.out)
      have hlB := hr.1
      have HY := hide e1.symm
      have ha3 : (a : Int) < (len : Int) := by omega
      clear e1 i1 hy f1 f2
      by_cases hcf : cf y x < 0
      · have hcf' : decide (cf y x < 0) = true := by simpa using hcf
        have HN : Hid (SeekRI (ltI cf) x R m (h + 1) j) := hide ⟨by omega, by omega, hk.out.jb, by rw [show h + 1 - m = (h - m) + 1 by omega]; exact ltUp HSW.out HS.out HY.out hcf', hk.out.hi⟩
        clear hh
        go_wp2_with fail
        go_region_held3 (fun w' => w'.cell? ⟨B, o + h, none⟩ = some (.int .i64 y) ∧ w'.cell? ⟨B, o + a, none⟩ = some (.int .i64 x)) (go_keep) ((go_at_call 78; (with_reducible refine (HC.out y x _ z1 z2 (But.drew (hb0.trans hb))).mono ?_); rintro e w1 ⟨rfl, hbl⟩; have hbl' : Below wr.heap.size wr w1 := ⟨hbl.os, hbl.tape, hbl.output, hbl.size, hbl.block⟩; have q1 : w1.cell? ⟨B, o + h, none⟩ = some (.int .i64 y) := (hbl'.cell hlB).trans c1; have q2 : w1.cell? ⟨B, o + a, none⟩ = some (.int .i64 x) := (hbl'.cell hlB).trans c2))
        have hr2 : RowI w1 B o l := hr.below hbl' hlB
        have hb2 : But N B w w1 := hb.trans (But.of_below hbl' (by have := hb.size; omega))
        clear hbl hbl' c1 c2
        go_wp2_with fail
        go_roundw
        case rel => exact ⟨h + 1, j, by go_num, rfl, HN, hr2, hb2⟩
        case measure => simp [intOf]; omega
      · have hcf' : decide (cf y x < 0) = false := by simpa using hcf
        have HN : Hid (SeekRI (ltI cf) x R m i h) := hide ⟨by omega, by omega, by have := hk.out.jb; omega, hk.out.lo, geUp HSW.out HS.out HY.out hcf'⟩
        clear hh
        go_wp2_with fail
        go_region_held3 (fun w' => w'.cell? ⟨B, o + h, none⟩ = some (.int .i64 y) ∧ w'.cell? ⟨B, o + a, none⟩ = some (.int .i64 x)) (go_keep) ((go_at_call 78; (with_reducible refine (HC.out y x _ z1 z2 (But.drew (hb0.trans hb))).mono ?_); rintro e w1 ⟨rfl, hbl⟩; have hbl' : Below wr.heap.size wr w1 := ⟨hbl.os, hbl.tape, hbl.output, hbl.size, hbl.block⟩; have q1 : w1.cell? ⟨B, o + h, none⟩ = some (.int .i64 y) := (hbl'.cell hlB).trans c1; have q2 : w1.cell? ⟨B, o + a, none⟩ = some (.int .i64 x) := (hbl'.cell hlB).trans c2))
        have hr2 : RowI w1 B o l := hr.below hbl' hlB
        have hb2 : But N B w w1 := hb.trans (But.of_below hbl' (by have := hb.size; omega))
        clear hbl hbl' c1 c2
        go_wp2_with fail
        go_roundw
        case rel => exact ⟨i, h, rfl, by go_num, HN, hr2, hb2⟩
        case measure => simp [intOf]; omega
    · obtain rfl : i = j := by omega
      obtain ⟨p, hp⟩ : ∃ p, i - m = p := ⟨_, rfl⟩
      have hpi : i = m + p := by omega
      have HG : Hid (mrg (ltI cf) [x] R = R.take p ++ x :: R.drop p) := hide (mrg_at_left (by rw [← hp]; exact hk.out.lo) (by rw [← hp]; exact hk.out.hi))
      have hpr : p ≤ R.length := by have := hk.out.jb; omega
      have HF : Hid (riseN l a p = P ++ (mrg (ltI cf) [x] R ++ T)) := hide (by rw [HG.out, ← HI.out, ← HEA.out, riseN_eq P R T x p hpr]; simp)
      have hlt3 : ¬ ((i : Int) < (i : Int)) := by omega
      have hbb := hb
      clear hk HG hp
      go_wp2_with fail
      go_loopw [13] (fun k wr => ∃ k' : Nat, a ≤ k' ∧ k' ≤ a + p ∧ k = .int .i64 (k' : Int) ∧ RowI wr B o (riseN l a (k' - a)) ∧ But N B w wr) (fun k _ => a + p - (intOf k).toNat)
      case atStart => exact ⟨a, Nat.le_refl _, by omega, rfl, by rw [Nat.sub_self]; exact hr, hb⟩
      case round =>
        clear hr hb hbb
        obtain ⟨k, hka, hkp, rfl, hrk, hbk⟩ := hrel
        by_cases hkl : k < a + p
        · have hd4 : (k : Int) < (i : Int) - 1 := by omega
          obtain ⟨lk, hlk⟩ : ∃ lk, riseN l a (k - a) = lk := ⟨_, rfl⟩
          have hll : lk.length = len := by rw [← hlk, riseN_length]; exact HL.out
          have i1 : k < lk.length := by omega
          have i2 : k + 1 < lk.length := by omega
          have hN1 : riseN l a (k + 1 - a) = (lk.set k lk[k + 1]).set (k + 1) lk[k] := by
            rw [show k + 1 - a = (k - a) + 1 by omega, riseN, hlk, show a + (k - a) = k by omega, swapL_eq _ _ _ i1 i2]
          rw [hlk] at hrk
          obtain ⟨c1, f1⟩ := hrk.2 k _ (List.getElem?_eq_getElem i1)
          obtain ⟨c2, f2⟩ := hrk.2 (k + 1) _ (List.getElem?_eq_getElem i2)
          obtain ⟨u, hu⟩ : ∃ u, lk[k] = u := ⟨_, rfl⟩
          obtain ⟨v, hv⟩ : ∃ v, lk[k + 1] = v := ⟨_, rfl⟩
          rw [hu] at c1 hN1
          rw [hv] at c2 hN1
          have hr3 := (hrk.set v i1).set (i := k + 1) u (by simpa using i2)
          rw [← hN1] at hr3
          have hlB := hrk.1
          have hkb : k + 1 < len := by omega
          clear hu hv hlk hN1 hrk i1 i2 hll
          have hw1 : IntKind.i64.wrap ((k : Int) + 1) = (k : Int) + 1 := IntWalk.i64_in _ (by omega)
          have hw2 : ((k : Int) + 1).toNat = k + 1 := by omega
          have hw3 : (0 : Int) ≤ (k : Int) + 1 := by omega
          have hw4 : (k : Int) + 1 < (len : Int) := by omega
          have hw5 : (k : Int) < (len : Int) := by omega
          have hn1 : k ≠ k + 1 := by omega
          go_wp2_with fail
          go_region
          all_goals
            clear hw1 hw2
            go_wp2_with fail
            go_roundw
            case rel => exact ⟨k + 1, by omega, by omega, by go_num, by first | exact hr3 | exact RowI.drew hr3, ((hbk.setCell _ _).setCell _ _).drew⟩
            case measure => simp [intOf]; omega
        · obtain rfl : k = a + p := by omega
          have hd4 : ¬ (((a + p : Nat) : Int) < (i : Int) - 1) := by omega
          rw [Nat.add_sub_cancel_left, HF.out] at hrk
          go_wp2_with fail
          try simp only [Exit.inBlock, Exit.then]
          refine bodyPost_ret (results_none rfl _ _ _) rfl ?_
          exact ⟨rfl, hrk, hbk⟩
end Go.Proofs.Ytfjbdbdjhkmifaa
