/- slices.SortStableFunc of a slice of ints: two runs merged, where the second is a single element. -/
import Derived.Test.YtfjbdbdjhkmifaaIStabS
set_option linter.unusedVariables false
set_option linter.unusedSimpArgs false
namespace Go.Proofs.Ytfjbdbdjhkmifaa
open Go.RowKit Go.Pw
/-- where the search on the left stands -/
structure SeekLI (lt : Int → Int → Bool) (y : Int) (L : List Int) (a i j : Nat) : Prop where
  mi : a ≤ i
  ij : i ≤ j
  jb : j ≤ a + L.length
  lo : ∀ k z, k < i - a → L[k]? = some z → lt y z = false
  hi : ∀ k z, j - a ≤ k → L[k]? = some z → lt y z = true
set_option maxHeartbeats 4000000 in
set_option maxRecDepth 100000 in
theorem symRightI_any (cf : Cfn) (sv : Value) (N B o cap len a m b : Nat) (P L T : List Int) (y : Int) (w0 w : World) (ea : P.length = a) (em : a + L.length = m) (eb : m + 1 = b) (hL0 : 0 < L.length) (hL1 : L.length ≠ 1) (hB : B < N) (hN : N ≤ w.heap.size) (hrow : RowI w B o (P ++ (L ++ y :: T))) (hlen : (P ++ (L ++ y :: T)).length = len) (hcap : len ≤ cap) (hc2 : len ≤ 140737488355328)
    (hsz : ∀ s ∈ P ++ (L ++ y :: T), IOk cf s) (hswo : Swo (ltI cf)) (hs : Srt (ltI cf) L) (hcmp : CmpOkI cf sv N B w0) (hb0 : But N B w0 w) :
    Calls Try.prog 100 #[.slice (some ⟨B, o, none⟩) len cap, .int .i64 (a : Int), .int .i64 (m : Int), .int .i64 (b : Int), .func (.func 78) #[] #[sv]] w
      fun e w' => e = .returned (.tuple #[]) ∧ RowI w' B o (P ++ (mrg (ltI cf) L [y] ++ T)) ∧ But N B w w' := by
  have hbl : b ≤ len := by rw [← hlen]; simp only [List.length_append, List.length_cons]; omega
  obtain ⟨l, hl⟩ : ∃ l, P ++ (L ++ y :: T) = l := ⟨_, rfl⟩
  have HX : Hid (l[m]? = some y) := hide (by rw [← hl, List.getElem?_append_right (by omega), show m - P.length = L.length by omega, List.getElem?_append_right (Nat.le_refl _)]; simp)
  have HAT : Hid (∀ h, a ≤ h → h < m → l[h]? = L[h - a]?) := hide (fun h h1 h2 => by
    rw [← hl, List.getElem?_append_right (by omega), List.getElem?_append_left (by omega), ea])
  rw [hl] at hrow hlen hsz
  have HSZ := hide hsz
  have HL := hide hlen
  unfold CmpOkI at hcmp
  have HC := hide hcmp
  have HSW := hide hswo
  have HS := hide hs
  have HI := hide hl
  have HEA := hide ea
  have HEM := hide em
  have hd1 : (((m : Int) - (a : Int)) == 1) = false := by simp only [beq_eq_false_iff_ne, ne_eq]; omega
  have hd2 : ¬ ((m : Int) - (a : Int) = 1) := by omega
  have hd5 : (((b : Int) - (m : Int)) == 1) = true := by simp only [beq_iff_eq]; omega
  have hd6 : (b : Int) - (m : Int) = 1 := by omega
  have ham : a < m := by omega
  clear hsz hlen hcmp hswo hs hl ea em hL0 hL1
  go_enter Try.func100, Try.ntmps100
  go_wp2_with fail
  go_loopw [14, 15] (fun i j wr => ∃ (i' j' : Nat), i = .int .i64 (i' : Int) ∧ j = .int .i64 (j' : Int) ∧ Hid (SeekLI (ltI cf) y L a i' j') ∧ RowI wr B o l ∧ But N B w wr) (fun i j _ => (intOf j).toNat - (intOf i).toNat)
  case atStart => exact ⟨a, m, rfl, rfl, hide ⟨Nat.le_refl _, by omega, by have := HEM.out; omega, fun k z h _ => absurd h (by omega), fun k z h hz => by have := (List.getElem?_eq_some_iff.1 hz).1; have := HEM.out; omega⟩, hrow, But.refl _ _ _⟩
  case round =>
    obtain ⟨i, j, rfl, rfl, hk, hr, hb⟩ := hrel
    have hmi := hk.out.mi
    have hij := hk.out.ij
    have hjb : j ≤ m := by have := hk.out.jb; have := HEM.out; omega
    by_cases hlt : i < j
    · have hd3 : (i : Int) < (j : Int) := by omega
      obtain ⟨h, hh⟩ : ∃ h : Nat, (i + j) / 2 = h := ⟨_, rfl⟩
      have hh2 : ((i : Int) + (j : Int)) / 2 = (h : Int) := by omega
      have hh3 : (h : Int) < (len : Int) := by omega
      have e1 := HAT.out h (by omega) (by omega)
      have i1 : h < l.length := by rw [HL.out]; omega
      obtain ⟨z, hz⟩ : ∃ z, l[h]? = some z := ⟨_, List.getElem?_eq_getElem i1⟩
      rw [hz] at e1
      obtain ⟨c1, f1⟩ := hr.2 h z hz
      obtain ⟨c2, f2⟩ := hr.2 m y HX.out
      have z1 := HSZ.out z (List.mem_of_getElem? hz)
      have z2 := HSZ.out y (List.mem_of_getElem? HX.out)
      have hlB := hr.1
      have HY := hide e1.symm
      have ha3 : (m : Int) < (len : Int) := by omega
      clear e1 i1 hz f1 f2
      by_cases hcf : cf y z < 0
      · have hcf' : decide (cf y z < 0) = true := by simpa using hcf
        have HN : Hid (SeekLI (ltI cf) y L a i h) := hide ⟨by omega, by omega, by have := hk.out.jb; omega, hk.out.lo, gtDn HSW.out HS.out HY.out hcf'⟩
        clear hh
        go_wp2_with fail
        go_region_held3 (fun w' => w'.cell? ⟨B, o + h, none⟩ = some (.int .i64 z) ∧ w'.cell? ⟨B, o + m, none⟩ = some (.int .i64 y)) (go_keep) ((go_at_call 78; (with_reducible refine (HC.out y z _ z2 z1 (But.drew (hb0.trans hb))).mono ?_); rintro e w1 ⟨rfl, hbl⟩; have hbl' : Below wr.heap.size wr w1 := ⟨hbl.os, hbl.tape, hbl.output, hbl.size, hbl.block⟩; have q1 : w1.cell? ⟨B, o + h, none⟩ = some (.int .i64 z) := (hbl'.cell hlB).trans c1; have q2 : w1.cell? ⟨B, o + m, none⟩ = some (.int .i64 y) := (hbl'.cell hlB).trans c2))
        have hr2 : RowI w1 B o l := hr.below hbl' hlB
        have hb2 : But N B w w1 := hb.trans (But.of_below hbl' (by have := hb.size; omega))
        clear hbl hbl' c1 c2
        go_wp2_with fail
        go_roundw
        case rel => exact ⟨i, h, rfl, by go_num, HN, hr2, hb2⟩
        case measure => simp [intOf]; omega
      · have hcf' : decide (cf y z < 0) = false := by simpa using hcf
        have HN : Hid (SeekLI (ltI cf) y L a (h + 1) j) := hide ⟨by omega, by omega, hk.out.jb, by rw [show h + 1 - a = (h - a) + 1 by omega]; exact leDn HSW.out HS.out HY.out hcf', hk.out.hi⟩
        clear hh
        go_wp2_with fail
        go_region_held3 (fun w' => w'.cell? ⟨B, o + h, none⟩ = some (.int .i64 z) ∧ w'.cell? ⟨B, o + m, none⟩ = some (.int .i64 y)) (go_keep) ((go_at_call 78; (with_reducible refine (HC.out y z _ z2 z1 (But.drew (hb0.trans hb))).mono ?_); rintro e w1 ⟨rfl, hbl⟩; have hbl' : Below wr.heap.size wr w1 := ⟨hbl.os, hbl.tape, hbl.output, hbl.size, hbl.block⟩; have q1 : w1.cell? ⟨B, o + h, none⟩ = some (.int .i64 z) := (hbl'.cell hlB).trans c1; have q2 : w1.cell? ⟨B, o + m, none⟩ = some (.int .i64 y) := (hbl'.cell hlB).trans c2))
        have hr2 : RowI w1 B o l := hr.below hbl' hlB
        have hb2 : But N B w w1 := hb.trans (But.of_below hbl' (by have := hb.size; omega))
        clear hbl hbl' c1 c2
        go_wp2_with fail
        go_roundw
        case rel => exact ⟨h + 1, j, by go_num, rfl, HN, hr2, hb2⟩
        case measure => simp [intOf]; omega
    · obtain rfl : i = j := by omega
      have HG : Hid (mrg (ltI cf) L [y] = L.take (i - a) ++ y :: L.drop (i - a)) := hide (mrg_at_right hk.out.lo hk.out.hi)
      have hai : a ≤ i := hmi
      have HF : Hid (fallN l m (m - i) = P ++ (mrg (ltI cf) L [y] ++ T)) := hide (by
        have e := fallN_eq P L T y (m - i) (by have := HEM.out; omega)
        rw [HI.out, HEA.out, HEM.out, show L.length - (m - i) = i - a by have := HEM.out; omega] at e
        rw [HG.out, e]; simp)
      have hlt3 : ¬ ((i : Int) < (i : Int)) := by omega
      clear hk HG
      go_wp2_with fail
      go_loopw [17] (fun k wr => ∃ k' : Nat, i ≤ k' ∧ k' ≤ m ∧ k = .int .i64 (k' : Int) ∧ RowI wr B o (fallN l m (m - k')) ∧ But N B w wr) (fun k _ => (intOf k).toNat)
      case atStart => exact ⟨m, by omega, Nat.le_refl _, rfl, by rw [Nat.sub_self]; exact hr, hb⟩
      case round =>
        clear hr hb
        obtain ⟨k, hka, hkp, rfl, hrk, hbk⟩ := hrel
        by_cases hkl : i < k
        · have hd4 : (i : Int) < (k : Int) := by omega
          obtain ⟨lk, hlk⟩ : ∃ lk, fallN l m (m - k) = lk := ⟨_, rfl⟩
          have hll : lk.length = len := by rw [← hlk, fallN_length]; exact HL.out
          have i1 : k < lk.length := by omega
          have i2 : k - 1 < lk.length := by omega
          have hN1 : fallN l m (m - (k - 1)) = (lk.set k lk[k - 1]).set (k - 1) lk[k] := by
            rw [show m - (k - 1) = (m - k) + 1 by omega, fallN, hlk, show m - (m - k) = k by omega, swapL_eq _ _ _ i1 i2]
          rw [hlk] at hrk
          obtain ⟨c1, f1⟩ := hrk.2 k _ (List.getElem?_eq_getElem i1)
          obtain ⟨c2, f2⟩ := hrk.2 (k - 1) _ (List.getElem?_eq_getElem i2)
          obtain ⟨u, hu⟩ : ∃ u, lk[k] = u := ⟨_, rfl⟩
          obtain ⟨v, hv⟩ : ∃ v, lk[k - 1] = v := ⟨_, rfl⟩
          rw [hu] at c1 hN1
          rw [hv] at c2 hN1
          have hr3 := (hrk.set v i1).set (i := k - 1) u (by simpa using i2)
          rw [← hN1] at hr3
          have hlB := hrk.1
          have hkb : k < len := by omega
          clear hu hv hlk hN1 hrk i1 i2 hll
          have hw1 : IntKind.i64.wrap ((k : Int) - 1) = (k : Int) - 1 := IntWalk.i64_in _ (by omega)
          have hw2 : ((k : Int) - 1).toNat = k - 1 := by omega
          have hw3 : (0 : Int) ≤ (k : Int) - 1 := by omega
          have hw4 : (k : Int) - 1 < (len : Int) := by omega
          have hw5 : (k : Int) < (len : Int) := by omega
          have hw6 : (1 : Int) ≤ (k : Int) := by omega
          have hw7 : 1 ≤ k := by omega
          have hn1 : k ≠ k - 1 := by omega
          go_wp2_with fail
          go_region
          all_goals
            clear hw1 hw2
            go_wp2_with fail
            go_roundw
            case rel => exact ⟨k - 1, by omega, by omega, by go_num, by first | exact hr3 | exact RowI.drew hr3, ((hbk.setCell _ _).setCell _ _).drew⟩
            case measure => simp [intOf]; omega
        · obtain rfl : k = i := by omega
          rw [HF.out] at hrk
          go_wp2_with fail
          try simp only [Exit.inBlock, Exit.then]
          refine bodyPost_ret (results_none rfl _ _ _) rfl ?_
          exact ⟨rfl, hrk, hbk⟩
end Go.Proofs.Ytfjbdbdjhkmifaa
