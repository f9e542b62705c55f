/- A time is written by a format: the reference's moment of a time. -/
import Derived.Test.YtoieicdnehnacaaGreatDoorDateR
import Derived.Test.YtoieicdnehnacaaGreatDoorDateC
import Derived.Laws.ResultCell
set_option linter.unusedVariables false
set_option linter.unusedSimpArgs false
namespace Go.Proofs.YtoieicdnehnacaaGreatDoor
open Go.RowKit Go.Pw
theorem info_dmo : (Tryz.prog.info? 101).map (·.size) = some 9 := by kernel_rfl
theorem results_dmo {fn : Func} {p u : Tmp} (h : fn.results = #[.cell p 101, .tmp u]) (tmps : Array Value) (w : World) (g : Nat) (x : DMo)
    (hp : tmps.getD p undef = .pointer (some ⟨g, 0, none⟩)) (hg : w.heap[g]? = some (dmoO x 101)) : (results fn tmps).run Tryz.prog w = .ok (.tuple #[dmoV x, tmps.getD u undef]) w := by
  rw [results_cell_tmp h, hp]
  unfold dmoO at hg
  simp [asAddr, run_loadVar_row w g 101 101 _ (0, 0) _ hg Tryz.underlying101 rfl info_dmo, Result.andThen, dmoV]
def dmo0 : DMo := ⟨0, 0, 0, 0, 0, 0, 0, 0, 0⟩
theorem neg_div {t : Int} (h : t < 0) : t.tdiv 86400 = -((-t) / 86400) ∧ t.tmod 86400 = -((-t) % 86400) := by
  obtain ⟨k, rfl⟩ : ∃ k : Nat, t = -(k : Int) := ⟨t.natAbs, by omega⟩
  rw [Int.neg_tdiv, Int.neg_tmod, Int.tdiv_eq_ediv_of_nonneg (by omega), Int.tmod_eq_emod_of_nonneg (by omega), Int.neg_neg]
  exact ⟨rfl, rfl⟩
theorem neg_seven {v : Int} (h : v < 0) : v.tmod 7 = -((-v) % 7) := by
  obtain ⟨k, rfl⟩ : ∃ k : Nat, v = -(k : Int) := ⟨v.natAbs, by omega⟩
  rw [Int.neg_tmod, Int.tmod_eq_emod_of_nonneg (by omega), Int.neg_neg]
set_option maxHeartbeats 2000000 in
set_option maxRecDepth 100000 in
theorem moment_pp {t n r y d : Int} {m : Nat} (h : DIs t n r y m d) (w : World) (ht : 0 ≤ t) (hw : 0 ≤ n + 3) :
    Calls Tryz.prog 55 #[.int .i64 t] w fun e w' => e = .returned (.tuple #[dmoV (dMo n r t y m d), .bool true]) ∧ Below w.heap.size w w' := by
  have hday := h.day
  have hrest := h.rest
  have hr0 := h.r0
  have hr1 := h.r1
  have hn0 := h.lo
  have hn1 := h.hi
  have ht0 := h.t0
  have ht1 := h.t1
  have hn : 0 ≤ t := ht
  have h2 : ¬ t % 86400 < 0 := by omega
  have h3 : 0 ≤ t / 86400 * 86400 := by omega
  have h4 : t / 86400 * 86400 ≤ 9223372036854775807 := by omega
  have h5 : 0 ≤ t - t / 86400 * 86400 := by omega
  have h6 : t - t / 86400 * 86400 ≤ 86400 := by omega
  have HN : Hid (t / 86400 = n) := hide hday
  have HR : Hid (t - n * 86400 = r) := hide (by rw [← hday, ← hrest]; omega)
  have g1 : 0 ≤ n + 3 := hw
  have g2 : ¬ (n + 3) % 7 < 0 := by omega
  have HW : Hid ((n + 3) % 7 + 1 = (n + 3) % 7 + 1) := hide rfl
  have HC := hide h.civ
  have HDO := hide (fun W => DayOf_yes n W hn0 hn1)
  obtain ⟨⟨gy0, gy1⟩, -, -, -, -, -, -, ⟨gj0, gj1⟩, -⟩ := h.good
  simp only [dMo] at gy0 gy1 gj0 gj1
  have gy2 : 1 ≤ y := h.civ.1
  have gc := h.civ.2.2.1
  obtain ⟨gz0, gz1⟩ := yb_le (y := y) (by omega) (by omega)
  have gj2 : 0 ≤ n - (yb y - 719162) := by omega
  have gj3 : n - (yb y - 719162) ≤ 366 := by omega
  have q1 : 0 ≤ r / 60 := by omega
  have HJ : Hid (n - (yb y - 719162) + 1 = n + 719162 - yb y + 1) := hide (by omega)
  have HYB := hide (fun W => yearBegin_any y W gy2 (by omega))
  clear hday hrest h gj0 gj1 gc ht
  go_enter Tryz.func55, Tryz.ntmps55
  go_wp2_with fail
  rw [HN.out, HR.out]
  refine (HDO.out _).mono ?_
  rintro e w' ⟨⟨y', m', d', hc, rfl⟩, rfl⟩
  obtain ⟨rfl, rfl, rfl⟩ := HC.out.one hc
  clear hc
  go_wp2_with fail
  refine (HYB.out _).mono ?_
  rintro e w' ⟨rfl, rfl⟩
  go_wp2_with fail
  (try simp only [Exit.inBlock, Exit.then])
  refine bodyPost_ret (results_dmo rfl _ _ w.heap.size (dMo n r t y m d) rfl ?_) rfl ⟨rfl, (Below.refl _ _).alloc (Nat.le_refl _) _⟩
  unfold dmoO dMo
  rw [heap_alloc_new]
  simp only
  rw [← HJ.out]
set_option maxHeartbeats 2000000 in
set_option maxRecDepth 100000 in
theorem moment_zp {t n r y d : Int} {m : Nat} (h : DIs t n r y m d) (w : World) (ht : t < 0) (hz : (-t) % 86400 = 0) (hw : 0 ≤ n + 3) :
    Calls Tryz.prog 55 #[.int .i64 t] w fun e w' => e = .returned (.tuple #[dmoV (dMo n r t y m d), .bool true]) ∧ Below w.heap.size w w' := by
  have hday := h.day
  have hrest := h.rest
  have hr0 := h.r0
  have hr1 := h.r1
  have hn0 := h.lo
  have hn1 := h.hi
  have ht0 := h.t0
  have ht1 := h.t1
  obtain ⟨hd, hm⟩ := neg_div ht
  have h2 : ¬ t.tmod 86400 < 0 := by omega
  have h3 : -9223372036854775808 ≤ t.tdiv 86400 * 86400 := by omega
  have h4 : t.tdiv 86400 * 86400 ≤ 9223372036854775807 := by omega
  have h5 : 0 ≤ t - t.tdiv 86400 * 86400 := by omega
  have h6 : t - t.tdiv 86400 * 86400 ≤ 86400 := by omega
  have HN : Hid (t.tdiv 86400 = n) := hide (by omega)
  have HR : Hid (t - n * 86400 = r) := hide (by rw [← hday, ← hrest]; omega)
  clear hd hm
  have g1 : 0 ≤ n + 3 := hw
  have g2 : ¬ (n + 3) % 7 < 0 := by omega
  have HW : Hid ((n + 3) % 7 + 1 = (n + 3) % 7 + 1) := hide rfl
  have HC := hide h.civ
  have HDO := hide (fun W => DayOf_yes n W hn0 hn1)
  obtain ⟨⟨gy0, gy1⟩, -, -, -, -, -, -, ⟨gj0, gj1⟩, -⟩ := h.good
  simp only [dMo] at gy0 gy1 gj0 gj1
  have gy2 : 1 ≤ y := h.civ.1
  have gc := h.civ.2.2.1
  obtain ⟨gz0, gz1⟩ := yb_le (y := y) (by omega) (by omega)
  have gj2 : 0 ≤ n - (yb y - 719162) := by omega
  have gj3 : n - (yb y - 719162) ≤ 366 := by omega
  have q1 : 0 ≤ r / 60 := by omega
  have HJ : Hid (n - (yb y - 719162) + 1 = n + 719162 - yb y + 1) := hide (by omega)
  have HYB := hide (fun W => yearBegin_any y W gy2 (by omega))
  clear hday hrest h gj0 gj1 gc ht hz
  go_enter Tryz.func55, Tryz.ntmps55
  go_wp2_with fail
  rw [HN.out, HR.out]
  refine (HDO.out _).mono ?_
  rintro e w' ⟨⟨y', m', d', hc, rfl⟩, rfl⟩
  obtain ⟨rfl, rfl, rfl⟩ := HC.out.one hc
  clear hc
  go_wp2_with fail
  refine (HYB.out _).mono ?_
  rintro e w' ⟨rfl, rfl⟩
  go_wp2_with fail
  (try simp only [Exit.inBlock, Exit.then])
  refine bodyPost_ret (results_dmo rfl _ _ w.heap.size (dMo n r t y m d) rfl ?_) rfl ⟨rfl, (Below.refl _ _).alloc (Nat.le_refl _) _⟩
  unfold dmoO dMo
  rw [heap_alloc_new]
  simp only
  rw [← HJ.out]
set_option maxHeartbeats 2000000 in
set_option maxRecDepth 100000 in
theorem moment_zz {t n r y d : Int} {m : Nat} (h : DIs t n r y m d) (w : World) (ht : t < 0) (hz : (-t) % 86400 = 0) (hw : n + 3 < 0) (hs : (-(n + 3)) % 7 = 0) :
    Calls Tryz.prog 55 #[.int .i64 t] w fun e w' => e = .returned (.tuple #[dmoV (dMo n r t y m d), .bool true]) ∧ Below w.heap.size w w' := by
  have hday := h.day
  have hrest := h.rest
  have hr0 := h.r0
  have hr1 := h.r1
  have hn0 := h.lo
  have hn1 := h.hi
  have ht0 := h.t0
  have ht1 := h.t1
  obtain ⟨hd, hm⟩ := neg_div ht
  have h2 : ¬ t.tmod 86400 < 0 := by omega
  have h3 : -9223372036854775808 ≤ t.tdiv 86400 * 86400 := by omega
  have h4 : t.tdiv 86400 * 86400 ≤ 9223372036854775807 := by omega
  have h5 : 0 ≤ t - t.tdiv 86400 * 86400 := by omega
  have h6 : t - t.tdiv 86400 * 86400 ≤ 86400 := by omega
  have HN : Hid (t.tdiv 86400 = n) := hide (by omega)
  have HR : Hid (t - n * 86400 = r) := hide (by rw [← hday, ← hrest]; omega)
  clear hd hm
  have hv := neg_seven hw
  have g2 : ¬ (n + 3).tmod 7 < 0 := by omega
  have g3 : (n + 3).tmod 7 ≤ 7 := by omega
  have HW : Hid ((n + 3).tmod 7 + 1 = (n + 3) % 7 + 1) := hide (by omega)
  clear hv
  have HC := hide h.civ
  have HDO := hide (fun W => DayOf_yes n W hn0 hn1)
  obtain ⟨⟨gy0, gy1⟩, -, -, -, -, -, -, ⟨gj0, gj1⟩, -⟩ := h.good
  simp only [dMo] at gy0 gy1 gj0 gj1
  have gy2 : 1 ≤ y := h.civ.1
  have gc := h.civ.2.2.1
  obtain ⟨gz0, gz1⟩ := yb_le (y := y) (by omega) (by omega)
  have gj2 : 0 ≤ n - (yb y - 719162) := by omega
  have gj3 : n - (yb y - 719162) ≤ 366 := by omega
  have q1 : 0 ≤ r / 60 := by omega
  have HJ : Hid (n - (yb y - 719162) + 1 = n + 719162 - yb y + 1) := hide (by omega)
  have HYB := hide (fun W => yearBegin_any y W gy2 (by omega))
  clear hday hrest h gj0 gj1 gc ht hz
  go_enter Tryz.func55, Tryz.ntmps55
  go_wp2_with fail
  rw [HN.out, HR.out]
  refine (HDO.out _).mono ?_
  rintro e w' ⟨⟨y', m', d', hc, rfl⟩, rfl⟩
  obtain ⟨rfl, rfl, rfl⟩ := HC.out.one hc
  clear hc
  go_wp2_with fail
  refine (HYB.out _).mono ?_
  rintro e w' ⟨rfl, rfl⟩
  go_wp2_with fail
  (try simp only [Exit.inBlock, Exit.then])
  refine bodyPost_ret (results_dmo rfl _ _ w.heap.size (dMo n r t y m d) rfl ?_) rfl ⟨rfl, (Below.refl _ _).alloc (Nat.le_refl _) _⟩
  unfold dmoO dMo
  rw [heap_alloc_new]
  simp only
  rw [← HJ.out, ← HW.out]
set_option maxHeartbeats 2000000 in
set_option maxRecDepth 100000 in
theorem moment_zn {t n r y d : Int} {m : Nat} (h : DIs t n r y m d) (w : World) (ht : t < 0) (hz : (-t) % 86400 = 0) (hw : n + 3 < 0) (hs : ¬ (-(n + 3)) % 7 = 0) :
    Calls Tryz.prog 55 #[.int .i64 t] w fun e w' => e = .returned (.tuple #[dmoV (dMo n r t y m d), .bool true]) ∧ Below w.heap.size w w' := by
  have hday := h.day
  have hrest := h.rest
  have hr0 := h.r0
  have hr1 := h.r1
  have hn0 := h.lo
  have hn1 := h.hi
  have ht0 := h.t0
  have ht1 := h.t1
  obtain ⟨hd, hm⟩ := neg_div ht
  have h2 : ¬ t.tmod 86400 < 0 := by omega
  have h3 : -9223372036854775808 ≤ t.tdiv 86400 * 86400 := by omega
  have h4 : t.tdiv 86400 * 86400 ≤ 9223372036854775807 := by omega
  have h5 : 0 ≤ t - t.tdiv 86400 * 86400 := by omega
  have h6 : t - t.tdiv 86400 * 86400 ≤ 86400 := by omega
  have HN : Hid (t.tdiv 86400 = n) := hide (by omega)
  have HR : Hid (t - n * 86400 = r) := hide (by rw [← hday, ← hrest]; omega)
  clear hd hm
  have hv := neg_seven hw
  have g2 : (n + 3).tmod 7 < 0 := by omega
  have g3 : 0 ≤ (n + 3).tmod 7 + 7 := by omega
  have g4 : (n + 3).tmod 7 + 7 ≤ 7 := by omega
  have HW : Hid ((n + 3).tmod 7 + 7 + 1 = (n + 3) % 7 + 1) := hide (by omega)
  clear hv
  have HC := hide h.civ
  have HDO := hide (fun W => DayOf_yes n W hn0 hn1)
  obtain ⟨⟨gy0, gy1⟩, -, -, -, -, -, -, ⟨gj0, gj1⟩, -⟩ := h.good
  simp only [dMo] at gy0 gy1 gj0 gj1
  have gy2 : 1 ≤ y := h.civ.1
  have gc := h.civ.2.2.1
  obtain ⟨gz0, gz1⟩ := yb_le (y := y) (by omega) (by omega)
  have gj2 : 0 ≤ n - (yb y - 719162) := by omega
  have gj3 : n - (yb y - 719162) ≤ 366 := by omega
  have q1 : 0 ≤ r / 60 := by omega
  have HJ : Hid (n - (yb y - 719162) + 1 = n + 719162 - yb y + 1) := hide (by omega)
  have HYB := hide (fun W => yearBegin_any y W gy2 (by omega))
  clear hday hrest h gj0 gj1 gc ht hz
  go_enter Tryz.func55, Tryz.ntmps55
  go_wp2_with fail
  rw [HN.out, HR.out]
  refine (HDO.out _).mono ?_
  rintro e w' ⟨⟨y', m', d', hc, rfl⟩, rfl⟩
  obtain ⟨rfl, rfl, rfl⟩ := HC.out.one hc
  clear hc
  go_wp2_with fail
  refine (HYB.out _).mono ?_
  rintro e w' ⟨rfl, rfl⟩
  go_wp2_with fail
  (try simp only [Exit.inBlock, Exit.then])
  refine bodyPost_ret (results_dmo rfl _ _ w.heap.size (dMo n r t y m d) rfl ?_) rfl ⟨rfl, (Below.refl _ _).alloc (Nat.le_refl _) _⟩
  unfold dmoO dMo
  rw [heap_alloc_new]
  simp only
  rw [← HJ.out, ← HW.out]
set_option maxHeartbeats 2000000 in
set_option maxRecDepth 100000 in
theorem moment_np {t n r y d : Int} {m : Nat} (h : DIs t n r y m d) (w : World) (ht : t < 0) (hz : ¬ (-t) % 86400 = 0) (hlow : -9223372036854000000 ≤ t) (hw : 0 ≤ n + 3) :
    Calls Tryz.prog 55 #[.int .i64 t] w fun e w' => e = .returned (.tuple #[dmoV (dMo n r t y m d), .bool true]) ∧ Below w.heap.size w w' := by
  have hday := h.day
  have hrest := h.rest
  have hr0 := h.r0
  have hr1 := h.r1
  have hn0 := h.lo
  have hn1 := h.hi
  have ht0 := h.t0
  have ht1 := h.t1
  obtain ⟨hd, hm⟩ := neg_div ht
  have h2 : t.tmod 86400 < 0 := by omega
  have h7 : -9223372036854775808 ≤ t.tdiv 86400 - 1 := by omega
  have h8 : t.tdiv 86400 - 1 ≤ 9223372036854775807 := by omega
  have h3 : -9223372036854775808 ≤ (t.tdiv 86400 - 1) * 86400 := by omega
  have h4 : (t.tdiv 86400 - 1) * 86400 ≤ 9223372036854775807 := by omega
  have h5 : 0 ≤ t - (t.tdiv 86400 - 1) * 86400 := by omega
  have h6 : t - (t.tdiv 86400 - 1) * 86400 ≤ 86400 := by omega
  have HN : Hid (t.tdiv 86400 - 1 = n) := hide (by omega)
  have HR : Hid (t - n * 86400 = r) := hide (by rw [← hday, ← hrest]; omega)
  clear hd hm
  have g1 : 0 ≤ n + 3 := hw
  have g2 : ¬ (n + 3) % 7 < 0 := by omega
  have HW : Hid ((n + 3) % 7 + 1 = (n + 3) % 7 + 1) := hide rfl
  have HC := hide h.civ
  have HDO := hide (fun W => DayOf_yes n W hn0 hn1)
  obtain ⟨⟨gy0, gy1⟩, -, -, -, -, -, -, ⟨gj0, gj1⟩, -⟩ := h.good
  simp only [dMo] at gy0 gy1 gj0 gj1
  have gy2 : 1 ≤ y := h.civ.1
  have gc := h.civ.2.2.1
  obtain ⟨gz0, gz1⟩ := yb_le (y := y) (by omega) (by omega)
  have gj2 : 0 ≤ n - (yb y - 719162) := by omega
  have gj3 : n - (yb y - 719162) ≤ 366 := by omega
  have q1 : 0 ≤ r / 60 := by omega
  have HJ : Hid (n - (yb y - 719162) + 1 = n + 719162 - yb y + 1) := hide (by omega)
  have HYB := hide (fun W => yearBegin_any y W gy2 (by omega))
  clear hday hrest h gj0 gj1 gc ht hz hlow
  go_enter Tryz.func55, Tryz.ntmps55
  go_wp2_with fail
  rw [HN.out, HR.out]
  refine (HDO.out _).mono ?_
  rintro e w' ⟨⟨y', m', d', hc, rfl⟩, rfl⟩
  obtain ⟨rfl, rfl, rfl⟩ := HC.out.one hc
  clear hc
  go_wp2_with fail
  refine (HYB.out _).mono ?_
  rintro e w' ⟨rfl, rfl⟩
  go_wp2_with fail
  (try simp only [Exit.inBlock, Exit.then])
  refine bodyPost_ret (results_dmo rfl _ _ w.heap.size (dMo n r t y m d) rfl ?_) rfl ⟨rfl, (Below.refl _ _).alloc (Nat.le_refl _) _⟩
  unfold dmoO dMo
  rw [heap_alloc_new]
  simp only
  rw [← HJ.out]
set_option maxHeartbeats 2000000 in
set_option maxRecDepth 100000 in
theorem moment_nz {t n r y d : Int} {m : Nat} (h : DIs t n r y m d) (w : World) (ht : t < 0) (hz : ¬ (-t) % 86400 = 0) (hlow : -9223372036854000000 ≤ t) (hw : n + 3 < 0) (hs : (-(n + 3)) % 7 = 0) :
    Calls Tryz.prog 55 #[.int .i64 t] w fun e w' => e = .returned (.tuple #[dmoV (dMo n r t y m d), .bool true]) ∧ Below w.heap.size w w' := by
  have hday := h.day
  have hrest := h.rest
  have hr0 := h.r0
  have hr1 := h.r1
  have hn0 := h.lo
  have hn1 := h.hi
  have ht0 := h.t0
  have ht1 := h.t1
  obtain ⟨hd, hm⟩ := neg_div ht
  have h2 : t.tmod 86400 < 0 := by omega
  have h7 : -9223372036854775808 ≤ t.tdiv 86400 - 1 := by omega
  have h8 : t.tdiv 86400 - 1 ≤ 9223372036854775807 := by omega
  have h3 : -9223372036854775808 ≤ (t.tdiv 86400 - 1) * 86400 := by omega
  have h4 : (t.tdiv 86400 - 1) * 86400 ≤ 9223372036854775807 := by omega
  have h5 : 0 ≤ t - (t.tdiv 86400 - 1) * 86400 := by omega
  have h6 : t - (t.tdiv 86400 - 1) * 86400 ≤ 86400 := by omega
  have HN : Hid (t.tdiv 86400 - 1 = n) := hide (by omega)
  have HR : Hid (t - n * 86400 = r) := hide (by rw [← hday, ← hrest]; omega)
  clear hd hm
  have hv := neg_seven hw
  have g2 : ¬ (n + 3).tmod 7 < 0 := by omega
  have g3 : (n + 3).tmod 7 ≤ 7 := by omega
  have HW : Hid ((n + 3).tmod 7 + 1 = (n + 3) % 7 + 1) := hide (by omega)
  clear hv
  have HC := hide h.civ
  have HDO := hide (fun W => DayOf_yes n W hn0 hn1)
  obtain ⟨⟨gy0, gy1⟩, -, -, -, -, -, -, ⟨gj0, gj1⟩, -⟩ := h.good
  simp only [dMo] at gy0 gy1 gj0 gj1
  have gy2 : 1 ≤ y := h.civ.1
  have gc := h.civ.2.2.1
  obtain ⟨gz0, gz1⟩ := yb_le (y := y) (by omega) (by omega)
  have gj2 : 0 ≤ n - (yb y - 719162) := by omega
  have gj3 : n - (yb y - 719162) ≤ 366 := by omega
  have q1 : 0 ≤ r / 60 := by omega
  have HJ : Hid (n - (yb y - 719162) + 1 = n + 719162 - yb y + 1) := hide (by omega)
  have HYB := hide (fun W => yearBegin_any y W gy2 (by omega))
  clear hday hrest h gj0 gj1 gc ht hz hlow
  go_enter Tryz.func55, Tryz.ntmps55
  go_wp2_with fail
  rw [HN.out, HR.out]
  refine (HDO.out _).mono ?_
  rintro e w' ⟨⟨y', m', d', hc, rfl⟩, rfl⟩
  obtain ⟨rfl, rfl, rfl⟩ := HC.out.one hc
  clear hc
  go_wp2_with fail
  refine (HYB.out _).mono ?_
  rintro e w' ⟨rfl, rfl⟩
  go_wp2_with fail
  (try simp only [Exit.inBlock, Exit.then])
  refine bodyPost_ret (results_dmo rfl _ _ w.heap.size (dMo n r t y m d) rfl ?_) rfl ⟨rfl, (Below.refl _ _).alloc (Nat.le_refl _) _⟩
  unfold dmoO dMo
  rw [heap_alloc_new]
  simp only
  rw [← HJ.out, ← HW.out]
set_option maxHeartbeats 2000000 in
set_option maxRecDepth 100000 in
theorem moment_nn {t n r y d : Int} {m : Nat} (h : DIs t n r y m d) (w : World) (ht : t < 0) (hz : ¬ (-t) % 86400 = 0) (hlow : -9223372036854000000 ≤ t) (hw : n + 3 < 0) (hs : ¬ (-(n + 3)) % 7 = 0) :
    Calls Tryz.prog 55 #[.int .i64 t] w fun e w' => e = .returned (.tuple #[dmoV (dMo n r t y m d), .bool true]) ∧ Below w.heap.size w w' := by
  have hday := h.day
  have hrest := h.rest
  have hr0 := h.r0
  have hr1 := h.r1
  have hn0 := h.lo
  have hn1 := h.hi
  have ht0 := h.t0
  have ht1 := h.t1
  obtain ⟨hd, hm⟩ := neg_div ht
  have h2 : t.tmod 86400 < 0 := by omega
  have h7 : -9223372036854775808 ≤ t.tdiv 86400 - 1 := by omega
  have h8 : t.tdiv 86400 - 1 ≤ 9223372036854775807 := by omega
  have h3 : -9223372036854775808 ≤ (t.tdiv 86400 - 1) * 86400 := by omega
  have h4 : (t.tdiv 86400 - 1) * 86400 ≤ 9223372036854775807 := by omega
  have h5 : 0 ≤ t - (t.tdiv 86400 - 1) * 86400 := by omega
  have h6 : t - (t.tdiv 86400 - 1) * 86400 ≤ 86400 := by omega
  have HN : Hid (t.tdiv 86400 - 1 = n) := hide (by omega)
  have HR : Hid (t - n * 86400 = r) := hide (by rw [← hday, ← hrest]; omega)
  clear hd hm
  have hv := neg_seven hw
  have g2 : (n + 3).tmod 7 < 0 := by omega
  have g3 : 0 ≤ (n + 3).tmod 7 + 7 := by omega
  have g4 : (n + 3).tmod 7 + 7 ≤ 7 := by omega
  have HW : Hid ((n + 3).tmod 7 + 7 + 1 = (n + 3) % 7 + 1) := hide (by omega)
  clear hv
  have HC := hide h.civ
  have HDO := hide (fun W => DayOf_yes n W hn0 hn1)
  obtain ⟨⟨gy0, gy1⟩, -, -, -, -, -, -, ⟨gj0, gj1⟩, -⟩ := h.good
  simp only [dMo] at gy0 gy1 gj0 gj1
  have gy2 : 1 ≤ y := h.civ.1
  have gc := h.civ.2.2.1
  obtain ⟨gz0, gz1⟩ := yb_le (y := y) (by omega) (by omega)
  have gj2 : 0 ≤ n - (yb y - 719162) := by omega
  have gj3 : n - (yb y - 719162) ≤ 366 := by omega
  have q1 : 0 ≤ r / 60 := by omega
  have HJ : Hid (n - (yb y - 719162) + 1 = n + 719162 - yb y + 1) := hide (by omega)
  have HYB := hide (fun W => yearBegin_any y W gy2 (by omega))
  clear hday hrest h gj0 gj1 gc ht hz hlow
  go_enter Tryz.func55, Tryz.ntmps55
  go_wp2_with fail
  rw [HN.out, HR.out]
  refine (HDO.out _).mono ?_
  rintro e w' ⟨⟨y', m', d', hc, rfl⟩, rfl⟩
  obtain ⟨rfl, rfl, rfl⟩ := HC.out.one hc
  clear hc
  go_wp2_with fail
  refine (HYB.out _).mono ?_
  rintro e w' ⟨rfl, rfl⟩
  go_wp2_with fail
  (try simp only [Exit.inBlock, Exit.then])
  refine bodyPost_ret (results_dmo rfl _ _ w.heap.size (dMo n r t y m d) rfl ?_) rfl ⟨rfl, (Below.refl _ _).alloc (Nat.le_refl _) _⟩
  unfold dmoO dMo
  rw [heap_alloc_new]
  simp only
  rw [← HJ.out, ← HW.out]
theorem moment_yes {t n r y d : Int} {m : Nat} (h : DIs t n r y m d) (w : World) :
    Calls Tryz.prog 55 #[.int .i64 t] w fun e w' => e = .returned (.tuple #[dmoV (dMo n r t y m d), .bool true]) ∧ Below w.heap.size w w' := by
  have hday := h.day
  have hlo := h.lo
  rcases Int.lt_or_le t 0 with ht | ht
  · by_cases hz : (-t) % 86400 = 0
    · rcases Int.lt_or_le (n + 3) 0 with hw | hw
      · by_cases hs : (-(n + 3)) % 7 = 0
        · exact moment_zz h w ht hz hw hs
        · exact moment_zn h w ht hz hw hs
      · exact moment_zp h w ht hz hw
    · rcases Int.lt_or_le (n + 3) 0 with hw | hw
      · by_cases hs : (-(n + 3)) % 7 = 0
        · exact moment_nz h w ht hz (by omega) hw hs
        · exact moment_nn h w ht hz (by omega) hw hs
      · exact moment_np h w ht hz (by omega) hw
  · exact moment_pp h w ht (by omega)
set_option maxHeartbeats 2000000 in
set_option maxRecDepth 100000 in
theorem moment_no (t : Int) (w : World) (h0 : -9223372036854775808 ≤ t) (h1 : t ≤ 9223372036854775807) (hin : dInB t = false) :
    Calls Tryz.prog 55 #[.int .i64 t] w fun e w' => e = .returned (.tuple #[dmoV dmo0, .bool false]) ∧ Below w.heap.size w w' := by
  have hout : t / 86400 < -719162 ∨ 2932896 < t / 86400 := by
    unfold dInB at hin
    rcases Int.lt_or_le (t / 86400) (-719162) with h | h
    · exact .inl h
    · rcases Int.lt_or_le 2932896 (t / 86400) with h' | h'
      · exact .inr h'
      · simp [h, h'] at hin
  have HDO := hide (fun W => DayOf_no (t / 86400) W hout)
  clear hin hout
  obtain ⟨n, hn⟩ : ∃ n, t / 86400 = n := ⟨_, rfl⟩
  rw [hn] at HDO
  rcases Int.lt_or_le t 0 with ht | ht
  · obtain ⟨hd, hm⟩ := neg_div ht
    by_cases hz : (-t) % 86400 = 0
    · have h2 : ¬ t.tmod 86400 < 0 := by omega
      have HN : Hid (t.tdiv 86400 = n) := hide (by omega)
      clear hd hm hn hz ht
      go_enter Tryz.func55, Tryz.ntmps55
      go_wp2_with fail
      rw [HN.out]
      refine (HDO.out _).mono ?_
      rintro e w' ⟨rfl, rfl⟩
      go_wp2_with fail
      (try simp only [Exit.inBlock, Exit.then])
      exact bodyPost_ret (results_dmo rfl _ _ w.heap.size dmo0 rfl (by first | exact heap_alloc_new w _ | simp [heap_alloc_new, dmoO, dmo0])) rfl ⟨rfl, (Below.refl _ _).alloc (Nat.le_refl _) _⟩
    · have h2 : t.tmod 86400 < 0 := by omega
      have h7 : -9223372036854775808 ≤ t.tdiv 86400 - 1 := by omega
      have h8 : t.tdiv 86400 - 1 ≤ 9223372036854775807 := by omega
      have HN : Hid (t.tdiv 86400 - 1 = n) := hide (by omega)
      clear hd hm hn hz ht
      go_enter Tryz.func55, Tryz.ntmps55
      go_wp2_with fail
      rw [HN.out]
      refine (HDO.out _).mono ?_
      rintro e w' ⟨rfl, rfl⟩
      go_wp2_with fail
      (try simp only [Exit.inBlock, Exit.then])
      exact bodyPost_ret (results_dmo rfl _ _ w.heap.size dmo0 rfl (by first | exact heap_alloc_new w _ | simp [heap_alloc_new, dmoO, dmo0])) rfl ⟨rfl, (Below.refl _ _).alloc (Nat.le_refl _) _⟩
  · have h2 : ¬ t % 86400 < 0 := by omega
    have HN : Hid (t / 86400 = n) := hide hn
    clear hn
    go_enter Tryz.func55, Tryz.ntmps55
    go_wp2_with fail
    rw [HN.out]
    refine (HDO.out _).mono ?_
    rintro e w' ⟨rfl, rfl⟩
    go_wp2_with fail
    (try simp only [Exit.inBlock, Exit.then])
    exact bodyPost_ret (results_dmo rfl _ _ w.heap.size dmo0 rfl (by first | exact heap_alloc_new w _ | simp [heap_alloc_new, dmoO, dmo0])) rfl ⟨rfl, (Below.refl _ _).alloc (Nat.le_refl _) _⟩
end Go.Proofs.YtoieicdnehnacaaGreatDoor
