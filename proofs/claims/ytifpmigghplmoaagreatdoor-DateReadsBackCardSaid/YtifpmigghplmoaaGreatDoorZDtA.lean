/- A time is written by a format: what the reference writes for a directive. -/
import Derived.Test.YtifpmigghplmoaaGreatDoorDateT
import Derived.Deep.RegionHeld3
import Derived.Test.YtifpmigghplmoaaGreatDoorDateC
import Derived.Laws.ResultCell
import Derived.IntWalk
/- DateR -/
set_option linter.unusedVariables false
set_option linter.unusedSimpArgs false
namespace Go.Pw
open Go.RowKit
def dmoV (x : DMo) : Value := .agg #[.int .i64 x.y, .int .i64 x.m, .int .i64 x.d, .int .i64 x.h, .int .i64 x.mi, .int .i64 x.s, .int .i64 x.wk, .int .i64 x.day, .int .i64 x.t]
def dmoO (x : DMo) (T : TypeId) : Obj := .cells #[.int .i64 x.y, .int .i64 x.m, .int .i64 x.d, .int .i64 x.h, .int .i64 x.mi, .int .i64 x.s, .int .i64 x.wk, .int .i64 x.day, .int .i64 x.t] T
/-- the time lies in the block that the call made first -/
structure DEnv (T : TypeId) (x : DMo) (w W : World) : Prop where
  bel : Below w.heap.size w W
  row : W.heap[w.heap.size]? = some (dmoO x T)
theorem DEnv.start (T : TypeId) (x : DMo) (w : World) : DEnv T x w (w.alloc (dmoO x T)) := ⟨(Below.refl _ _).alloc (Nat.le_refl _) _, heap_alloc_new w _⟩
theorem DEnv.next {T : TypeId} {x : DMo} {w W W' : World} (h : DEnv T x w W) (hb : Below W.heap.size W W') : DEnv T x w W' := by
  have hlt := (Array.getElem?_eq_some_iff.1 h.row).1
  exact ⟨h.bel.trans (hb.mono h.bel.size), (hb.block _ hlt).trans h.row⟩
theorem DEnv.drew {T : TypeId} {x : DMo} {w W : World} (h : DEnv T x w W) : DEnv T x w W.drew := ⟨h.bel.drew, h.row⟩
theorem DEnv.cells {T : TypeId} {x : DMo} {w W : World} (h : DEnv T x w W) : W.cell? ⟨w.heap.size, 0, none⟩ = some (.int .i64 x.y) ∧ W.cell? ⟨w.heap.size, 1, none⟩ = some (.int .i64 x.m) ∧ W.cell? ⟨w.heap.size, 2, none⟩ = some (.int .i64 x.d) ∧ W.cell? ⟨w.heap.size, 3, none⟩ = some (.int .i64 x.h) ∧ W.cell? ⟨w.heap.size, 4, none⟩ = some (.int .i64 x.mi) ∧ W.cell? ⟨w.heap.size, 5, none⟩ = some (.int .i64 x.s) := by
  have hr := h.row
  unfold dmoO at hr
  refine ⟨?_, ?_, ?_, ?_, ?_, ?_⟩ <;> rw [cell_of_row _ _ _ _ _ _ hr] <;> rfl
theorem mkB_cons (b : UInt8) (l : List UInt8) : (⟨#[b]⟩ : ByteArray) ++ mkB l = mkB (b :: l) := by
  show mkB [b] ++ mkB l = _
  rw [mkB_app']; rfl
theorem fill_done {n : Int} {k j : Nat} (h0 : ¬ n < 0) (hj : j = k - (Lib.itoa n).length) : List.replicate j 48 ++ Lib.itoa n = fillN n k true := by
  unfold fillN
  subst hj
  simp [h0]
theorem fill_e {d : Int} (h0 : 0 ≤ d) (h1 : d ≤ 31) : fillN d 2 false = if d < 10 then 32 :: Lib.itoa d else Lib.itoa d := by
  have key : ∀ k : Fin 32, fillN (k.val : Int) 2 false = if (k.val : Int) < 10 then 32 :: Lib.itoa (k.val : Int) else Lib.itoa (k.val : Int) := by decide +kernel
  obtain ⟨k, rfl⟩ : ∃ k : Nat, d = (k : Int) := ⟨d.toNat, by omega⟩
  exact key ⟨k, by omega⟩
def dayStr2 : ByteArray := ⟨#[77, 111, 110, 84, 117, 101, 87, 101, 100, 84, 104, 117, 70, 114, 105, 83, 97, 116, 83, 117, 110]⟩
def monStr2 : ByteArray := ⟨#[74, 97, 110, 70, 101, 98, 77, 97, 114, 65, 112, 114, 77, 97, 121, 74, 117, 110, 74, 117, 108, 65, 117, 103, 83, 101, 112, 79, 99, 116, 78, 111, 118, 68, 101, 99]⟩
theorem day_cut {k : Nat} (h : k < 7) : dayStr2.extract (3 * k) (3 * k + 3) = mkB (dNames.getD k []) := by
  match k, h with
  | 0, _ | 1, _ | 2, _ | 3, _ | 4, _ | 5, _ | 6, _ => decide +kernel
theorem mon_cut {k : Nat} (h : k < 12) : monStr2.extract (3 * k) (3 * k + 3) = mkB (mNames.getD k []) := by
  match k, h with
  | 0, _ | 1, _ | 2, _ | 3, _ | 4, _ | 5, _ | 6, _ | 7, _ | 8, _ | 9, _ | 10, _ | 11, _ => decide +kernel
end Go.Pw
namespace Go.Proofs.YtifpmigghplmoaaGreatDoor
open Go.RowKit Go.Pw
set_option maxHeartbeats 1000000 in
theorem zeros_any (n : Int) (k : Nat) (w : World) (h0 : 0 ≤ n) (h1 : n ≤ 9223372036854775807) (hk : k ≤ 1000) (hT : PowTab w) :
    Calls Tryz.prog 61 #[.int .i64 n, .int .i64 (k : Int)] w fun e w' => e = .returned (.string (mkB (fillN n k true))) ∧ Below w.heap.size w w' := by
  have HI := hide (itoa_any n w (by omega) h1 hT)
  have hl := Lib.itoa_length_le n (by omega) h1
  have HF := hide (fun j => fill_done (n := n) (k := k) (j := j) (by omega))
  obtain ⟨L, hL⟩ : ∃ L, Lib.itoa n = L := ⟨_, rfl⟩
  rw [hL] at HI hl HF
  clear hL hT
  go_enter Tryz.func61, Tryz.ntmps61
  go_wp2_with fail
  refine HI.out.mono ?_
  rintro e w1 ⟨rfl, hb1⟩
  have HB1 := hide hb1
  clear hb1
  go_wp2_with fail
  go_loop [5] (fun v => ∃ (j : Nat) (s : ByteArray), v = .string s ∧ Hid (s = mkB (List.replicate j 48 ++ L)) ∧ s.size = j + L.length ∧ j ≤ k - L.length) (fun v => match v with | .string s => k - s.size | _ => 0)
  case atStart => exact ⟨0, _, rfl, hide rfl, by show L.toArray.size = _; simp, by omega⟩
  case round =>
    obtain ⟨j, s, rfl, HS, hsz, hj⟩ := hrel
    by_cases hlt : j + L.length < k
    · have h2 : (s.size : Int) < (k : Int) := by omega
      have HN : Hid ((⟨#[48]⟩ : ByteArray) ++ s = mkB (List.replicate (j + 1) 48 ++ L)) := hide (by rw [HS.out, mkB_cons, List.replicate_succ]; rfl)
      have hsz2 : ((⟨#[48]⟩ : ByteArray) ++ s).size = j + 1 + L.length := by
        rw [ByteArray.size_append, hsz]
        show 1 + _ = _
        omega
      have hs3 : s.size ≤ 10000 := by omega
      have HZ := hide hsz
      have HZ2 := hide hsz2
      clear hsz hsz2
      go_wp2_with fail
      go_round
      case rel => exact ⟨j + 1, _, rfl, HN, HZ2.out, by omega⟩
      case measure => have := HZ.out; have := HZ2.out; simp only; omega
    · have h2 : ¬ (s.size : Int) < (k : Int) := by omega
      have HE := hide (HF.out j (by omega))
      clear hsz
      go_wp2_with fail
      go_ret
      exact ⟨by rw [← HE.out, ← HS.out]; rfl, HB1.out⟩

set_option maxHeartbeats 2000000 in
set_option maxRecDepth 100000 in
theorem part_Y (x : DMo) (hg : x.good) (w : World) (hT : PowTab w) :
    Calls Tryz.prog 25 #[dmoV x, .int .u8 89] w fun e w' => e = .returned (.tuple #[.string (mkB (dTold x 89)), .bool true]) ∧ Below w.heap.size w w' := by
  have HZ := hide (fun (v : Int) (k : Nat) W (hb : Below w.heap.size w W) h0 h1 hk => zeros_any v k W h0 h1 hk (hT.below hb))
  have HIT := hide (fun (v : Int) W (hb : Below w.heap.size w W) h0 h1 => itoa_any v W h0 h1 (hT.below hb))
  have EN := hide (DEnv.start 60 x w)
  have HE : Hid (dTold x 89 = fillN (x.y) 4 true) := hide (by simp [dTold])
  obtain ⟨⟨gy0, gy1⟩, ⟨gm0, gm1⟩, ⟨gd0, gd1⟩, ⟨gh0, gh1⟩, ⟨gi0, gi1⟩, ⟨gs0, gs1⟩, ⟨gw0, gw1⟩, ⟨gj0, gj1⟩, ⟨gt0, gt1⟩⟩ := hg
  obtain ⟨y, m, d, h, mi, s, wk, day, t⟩ := x
  unfold dmoV
  unfold dmoO at EN
  simp only at gy0 gy1 gm0 gm1 gd0 gd1 gh0 gh1 gi0 gi1 gs0 gs1 gw0 gw1 gj0 gj1 gt0 gt1 EN HE ⊢
  clear hT
  go_enter Tryz.func25, Tryz.ntmps25
  go_wp2_with fail
  refine (HZ.out _ 4 _ EN.out.bel (by omega) (by omega) (by omega)).mono ?_
  rintro e w1 ⟨rfl, hb1⟩
  have HB1 := hide (EN.out.next hb1).bel
  clear hb1
  go_wp2_with fail
  go_ret2
  exact ⟨by rw [HE.out]; rfl, HB1.out⟩
set_option maxHeartbeats 2000000 in
set_option maxRecDepth 100000 in
theorem part_y (x : DMo) (hg : x.good) (w : World) (hT : PowTab w) :
    Calls Tryz.prog 25 #[dmoV x, .int .u8 121] w fun e w' => e = .returned (.tuple #[.string (mkB (dTold x 121)), .bool true]) ∧ Below w.heap.size w w' := by
  have HZ := hide (fun (v : Int) (k : Nat) W (hb : Below w.heap.size w W) h0 h1 hk => zeros_any v k W h0 h1 hk (hT.below hb))
  have HIT := hide (fun (v : Int) W (hb : Below w.heap.size w W) h0 h1 => itoa_any v W h0 h1 (hT.below hb))
  have EN := hide (DEnv.start 60 x w)
  have HE : Hid (dTold x 121 = fillN (x.y % 100) 2 true) := hide (by simp [dTold])
  obtain ⟨⟨gy0, gy1⟩, ⟨gm0, gm1⟩, ⟨gd0, gd1⟩, ⟨gh0, gh1⟩, ⟨gi0, gi1⟩, ⟨gs0, gs1⟩, ⟨gw0, gw1⟩, ⟨gj0, gj1⟩, ⟨gt0, gt1⟩⟩ := hg
  obtain ⟨y, m, d, h, mi, s, wk, day, t⟩ := x
  unfold dmoV
  unfold dmoO at EN
  simp only at gy0 gy1 gm0 gm1 gd0 gd1 gh0 gh1 gi0 gi1 gs0 gs1 gw0 gw1 gj0 gj1 gt0 gt1 EN HE ⊢
  clear hT
  go_enter Tryz.func25, Tryz.ntmps25
  go_wp2_with fail
  refine (HZ.out _ 2 _ EN.out.bel (by omega) (by omega) (by omega)).mono ?_
  rintro e w1 ⟨rfl, hb1⟩
  have HB1 := hide (EN.out.next hb1).bel
  clear hb1
  go_wp2_with fail
  go_ret2
  exact ⟨by rw [HE.out]; rfl, HB1.out⟩
set_option maxHeartbeats 2000000 in
set_option maxRecDepth 100000 in
theorem part_m (x : DMo) (hg : x.good) (w : World) (hT : PowTab w) :
    Calls Tryz.prog 25 #[dmoV x, .int .u8 109] w fun e w' => e = .returned (.tuple #[.string (mkB (dTold x 109)), .bool true]) ∧ Below w.heap.size w w' := by
  have HZ := hide (fun (v : Int) (k : Nat) W (hb : Below w.heap.size w W) h0 h1 hk => zeros_any v k W h0 h1 hk (hT.below hb))
  have HIT := hide (fun (v : Int) W (hb : Below w.heap.size w W) h0 h1 => itoa_any v W h0 h1 (hT.below hb))
  have EN := hide (DEnv.start 60 x w)
  have HE : Hid (dTold x 109 = fillN (x.m) 2 true) := hide (by simp [dTold])
  obtain ⟨⟨gy0, gy1⟩, ⟨gm0, gm1⟩, ⟨gd0, gd1⟩, ⟨gh0, gh1⟩, ⟨gi0, gi1⟩, ⟨gs0, gs1⟩, ⟨gw0, gw1⟩, ⟨gj0, gj1⟩, ⟨gt0, gt1⟩⟩ := hg
  obtain ⟨y, m, d, h, mi, s, wk, day, t⟩ := x
  unfold dmoV
  unfold dmoO at EN
  simp only at gy0 gy1 gm0 gm1 gd0 gd1 gh0 gh1 gi0 gi1 gs0 gs1 gw0 gw1 gj0 gj1 gt0 gt1 EN HE ⊢
  clear hT
  go_enter Tryz.func25, Tryz.ntmps25
  go_wp2_with fail
  refine (HZ.out _ 2 _ EN.out.bel (by omega) (by omega) (by omega)).mono ?_
  rintro e w1 ⟨rfl, hb1⟩
  have HB1 := hide (EN.out.next hb1).bel
  clear hb1
  go_wp2_with fail
  go_ret2
  exact ⟨by rw [HE.out]; rfl, HB1.out⟩
set_option maxHeartbeats 2000000 in
set_option maxRecDepth 100000 in
theorem part_d (x : DMo) (hg : x.good) (w : World) (hT : PowTab w) :
    Calls Tryz.prog 25 #[dmoV x, .int .u8 100] w fun e w' => e = .returned (.tuple #[.string (mkB (dTold x 100)), .bool true]) ∧ Below w.heap.size w w' := by
  have HZ := hide (fun (v : Int) (k : Nat) W (hb : Below w.heap.size w W) h0 h1 hk => zeros_any v k W h0 h1 hk (hT.below hb))
  have HIT := hide (fun (v : Int) W (hb : Below w.heap.size w W) h0 h1 => itoa_any v W h0 h1 (hT.below hb))
  have EN := hide (DEnv.start 60 x w)
  have HE : Hid (dTold x 100 = fillN (x.d) 2 true) := hide (by simp [dTold])
  obtain ⟨⟨gy0, gy1⟩, ⟨gm0, gm1⟩, ⟨gd0, gd1⟩, ⟨gh0, gh1⟩, ⟨gi0, gi1⟩, ⟨gs0, gs1⟩, ⟨gw0, gw1⟩, ⟨gj0, gj1⟩, ⟨gt0, gt1⟩⟩ := hg
  obtain ⟨y, m, d, h, mi, s, wk, day, t⟩ := x
  unfold dmoV
  unfold dmoO at EN
  simp only at gy0 gy1 gm0 gm1 gd0 gd1 gh0 gh1 gi0 gi1 gs0 gs1 gw0 gw1 gj0 gj1 gt0 gt1 EN HE ⊢
  clear hT
  go_enter Tryz.func25, Tryz.ntmps25
  go_wp2_with fail
  refine (HZ.out _ 2 _ EN.out.bel (by omega) (by omega) (by omega)).mono ?_
  rintro e w1 ⟨rfl, hb1⟩
  have HB1 := hide (EN.out.next hb1).bel
  clear hb1
  go_wp2_with fail
  go_ret2
  exact ⟨by rw [HE.out]; rfl, HB1.out⟩
set_option maxHeartbeats 2000000 in
set_option maxRecDepth 100000 in
theorem part_H (x : DMo) (hg : x.good) (w : World) (hT : PowTab w) :
    Calls Tryz.prog 25 #[dmoV x, .int .u8 72] w fun e w' => e = .returned (.tuple #[.string (mkB (dTold x 72)), .bool true]) ∧ Below w.heap.size w w' := by
  have HZ := hide (fun (v : Int) (k : Nat) W (hb : Below w.heap.size w W) h0 h1 hk => zeros_any v k W h0 h1 hk (hT.below hb))
  have HIT := hide (fun (v : Int) W (hb : Below w.heap.size w W) h0 h1 => itoa_any v W h0 h1 (hT.below hb))
  have EN := hide (DEnv.start 60 x w)
  have HE : Hid (dTold x 72 = fillN (x.h) 2 true) := hide (by simp [dTold])
  obtain ⟨⟨gy0, gy1⟩, ⟨gm0, gm1⟩, ⟨gd0, gd1⟩, ⟨gh0, gh1⟩, ⟨gi0, gi1⟩, ⟨gs0, gs1⟩, ⟨gw0, gw1⟩, ⟨gj0, gj1⟩, ⟨gt0, gt1⟩⟩ := hg
  obtain ⟨y, m, d, h, mi, s, wk, day, t⟩ := x
  unfold dmoV
  unfold dmoO at EN
  simp only at gy0 gy1 gm0 gm1 gd0 gd1 gh0 gh1 gi0 gi1 gs0 gs1 gw0 gw1 gj0 gj1 gt0 gt1 EN HE ⊢
  clear hT
  go_enter Tryz.func25, Tryz.ntmps25
  go_wp2_with fail
  refine (HZ.out _ 2 _ EN.out.bel (by omega) (by omega) (by omega)).mono ?_
  rintro e w1 ⟨rfl, hb1⟩
  have HB1 := hide (EN.out.next hb1).bel
  clear hb1
  go_wp2_with fail
  go_ret2
  exact ⟨by rw [HE.out]; rfl, HB1.out⟩
set_option maxHeartbeats 2000000 in
set_option maxRecDepth 100000 in
theorem part_M (x : DMo) (hg : x.good) (w : World) (hT : PowTab w) :
    Calls Tryz.prog 25 #[dmoV x, .int .u8 77] w fun e w' => e = .returned (.tuple #[.string (mkB (dTold x 77)), .bool true]) ∧ Below w.heap.size w w' := by
  have HZ := hide (fun (v : Int) (k : Nat) W (hb : Below w.heap.size w W) h0 h1 hk => zeros_any v k W h0 h1 hk (hT.below hb))
  have HIT := hide (fun (v : Int) W (hb : Below w.heap.size w W) h0 h1 => itoa_any v W h0 h1 (hT.below hb))
  have EN := hide (DEnv.start 60 x w)
  have HE : Hid (dTold x 77 = fillN (x.mi) 2 true) := hide (by simp [dTold])
  obtain ⟨⟨gy0, gy1⟩, ⟨gm0, gm1⟩, ⟨gd0, gd1⟩, ⟨gh0, gh1⟩, ⟨gi0, gi1⟩, ⟨gs0, gs1⟩, ⟨gw0, gw1⟩, ⟨gj0, gj1⟩, ⟨gt0, gt1⟩⟩ := hg
  obtain ⟨y, m, d, h, mi, s, wk, day, t⟩ := x
  unfold dmoV
  unfold dmoO at EN
  simp only at gy0 gy1 gm0 gm1 gd0 gd1 gh0 gh1 gi0 gi1 gs0 gs1 gw0 gw1 gj0 gj1 gt0 gt1 EN HE ⊢
  clear hT
  go_enter Tryz.func25, Tryz.ntmps25
  go_wp2_with fail
  refine (HZ.out _ 2 _ EN.out.bel (by omega) (by omega) (by omega)).mono ?_
  rintro e w1 ⟨rfl, hb1⟩
  have HB1 := hide (EN.out.next hb1).bel
  clear hb1
  go_wp2_with fail
  go_ret2
  exact ⟨by rw [HE.out]; rfl, HB1.out⟩
set_option maxHeartbeats 2000000 in
set_option maxRecDepth 100000 in
theorem part_S (x : DMo) (hg : x.good) (w : World) (hT : PowTab w) :
    Calls Tryz.prog 25 #[dmoV x, .int .u8 83] w fun e w' => e = .returned (.tuple #[.string (mkB (dTold x 83)), .bool true]) ∧ Below w.heap.size w w' := by
  have HZ := hide (fun (v : Int) (k : Nat) W (hb : Below w.heap.size w W) h0 h1 hk => zeros_any v k W h0 h1 hk (hT.below hb))
  have HIT := hide (fun (v : Int) W (hb : Below w.heap.size w W) h0 h1 => itoa_any v W h0 h1 (hT.below hb))
  have EN := hide (DEnv.start 60 x w)
  have HE : Hid (dTold x 83 = fillN (x.s) 2 true) := hide (by simp [dTold])
  obtain ⟨⟨gy0, gy1⟩, ⟨gm0, gm1⟩, ⟨gd0, gd1⟩, ⟨gh0, gh1⟩, ⟨gi0, gi1⟩, ⟨gs0, gs1⟩, ⟨gw0, gw1⟩, ⟨gj0, gj1⟩, ⟨gt0, gt1⟩⟩ := hg
  obtain ⟨y, m, d, h, mi, s, wk, day, t⟩ := x
  unfold dmoV
  unfold dmoO at EN
  simp only at gy0 gy1 gm0 gm1 gd0 gd1 gh0 gh1 gi0 gi1 gs0 gs1 gw0 gw1 gj0 gj1 gt0 gt1 EN HE ⊢
  clear hT
  go_enter Tryz.func25, Tryz.ntmps25
  go_wp2_with fail
  refine (HZ.out _ 2 _ EN.out.bel (by omega) (by omega) (by omega)).mono ?_
  rintro e w1 ⟨rfl, hb1⟩
  have HB1 := hide (EN.out.next hb1).bel
  clear hb1
  go_wp2_with fail
  go_ret2
  exact ⟨by rw [HE.out]; rfl, HB1.out⟩
set_option maxHeartbeats 2000000 in
set_option maxRecDepth 100000 in
theorem part_j (x : DMo) (hg : x.good) (w : World) (hT : PowTab w) :
    Calls Tryz.prog 25 #[dmoV x, .int .u8 106] w fun e w' => e = .returned (.tuple #[.string (mkB (dTold x 106)), .bool true]) ∧ Below w.heap.size w w' := by
  have HZ := hide (fun (v : Int) (k : Nat) W (hb : Below w.heap.size w W) h0 h1 hk => zeros_any v k W h0 h1 hk (hT.below hb))
  have HIT := hide (fun (v : Int) W (hb : Below w.heap.size w W) h0 h1 => itoa_any v W h0 h1 (hT.below hb))
  have EN := hide (DEnv.start 60 x w)
  have HE : Hid (dTold x 106 = fillN (x.day) 3 true) := hide (by simp [dTold])
  obtain ⟨⟨gy0, gy1⟩, ⟨gm0, gm1⟩, ⟨gd0, gd1⟩, ⟨gh0, gh1⟩, ⟨gi0, gi1⟩, ⟨gs0, gs1⟩, ⟨gw0, gw1⟩, ⟨gj0, gj1⟩, ⟨gt0, gt1⟩⟩ := hg
  obtain ⟨y, m, d, h, mi, s, wk, day, t⟩ := x
  unfold dmoV
  unfold dmoO at EN
  simp only at gy0 gy1 gm0 gm1 gd0 gd1 gh0 gh1 gi0 gi1 gs0 gs1 gw0 gw1 gj0 gj1 gt0 gt1 EN HE ⊢
  clear hT
  go_enter Tryz.func25, Tryz.ntmps25
  go_wp2_with fail
  refine (HZ.out _ 3 _ EN.out.bel (by omega) (by omega) (by omega)).mono ?_
  rintro e w1 ⟨rfl, hb1⟩
  have HB1 := hide (EN.out.next hb1).bel
  clear hb1
  go_wp2_with fail
  go_ret2
  exact ⟨by rw [HE.out]; rfl, HB1.out⟩
set_option maxHeartbeats 2000000 in
set_option maxRecDepth 100000 in
theorem part_u (x : DMo) (hg : x.good) (w : World) (hT : PowTab w) :
    Calls Tryz.prog 25 #[dmoV x, .int .u8 117] w fun e w' => e = .returned (.tuple #[.string (mkB (dTold x 117)), .bool true]) ∧ Below w.heap.size w w' := by
  have HZ := hide (fun (v : Int) (k : Nat) W (hb : Below w.heap.size w W) h0 h1 hk => zeros_any v k W h0 h1 hk (hT.below hb))
  have HIT := hide (fun (v : Int) W (hb : Below w.heap.size w W) h0 h1 => itoa_any v W h0 h1 (hT.below hb))
  have EN := hide (DEnv.start 60 x w)
  have HE : Hid (dTold x 117 = Lib.itoa x.wk) := hide (by simp [dTold])
  obtain ⟨⟨gy0, gy1⟩, ⟨gm0, gm1⟩, ⟨gd0, gd1⟩, ⟨gh0, gh1⟩, ⟨gi0, gi1⟩, ⟨gs0, gs1⟩, ⟨gw0, gw1⟩, ⟨gj0, gj1⟩, ⟨gt0, gt1⟩⟩ := hg
  obtain ⟨y, m, d, h, mi, s, wk, day, t⟩ := x
  unfold dmoV
  unfold dmoO at EN
  simp only at gy0 gy1 gm0 gm1 gd0 gd1 gh0 gh1 gi0 gi1 gs0 gs1 gw0 gw1 gj0 gj1 gt0 gt1 EN HE ⊢
  clear hT
  go_enter Tryz.func25, Tryz.ntmps25
  go_wp2_with fail
  refine (HIT.out _ _ EN.out.bel (by omega) (by omega)).mono ?_
  rintro e w1 ⟨rfl, hb1⟩
  have HB1 := hide (EN.out.next hb1).bel
  clear hb1
  go_wp2_with fail
  go_ret2
  exact ⟨by rw [HE.out]; rfl, HB1.out⟩
set_option maxHeartbeats 2000000 in
set_option maxRecDepth 100000 in
theorem part_s (x : DMo) (hg : x.good) (w : World) (hT : PowTab w) :
    Calls Tryz.prog 25 #[dmoV x, .int .u8 115] w fun e w' => e = .returned (.tuple #[.string (mkB (dTold x 115)), .bool true]) ∧ Below w.heap.size w w' := by
  have HZ := hide (fun (v : Int) (k : Nat) W (hb : Below w.heap.size w W) h0 h1 hk => zeros_any v k W h0 h1 hk (hT.below hb))
  have HIT := hide (fun (v : Int) W (hb : Below w.heap.size w W) h0 h1 => itoa_any v W h0 h1 (hT.below hb))
  have EN := hide (DEnv.start 60 x w)
  have HE : Hid (dTold x 115 = Lib.itoa x.t) := hide (by simp [dTold])
  obtain ⟨⟨gy0, gy1⟩, ⟨gm0, gm1⟩, ⟨gd0, gd1⟩, ⟨gh0, gh1⟩, ⟨gi0, gi1⟩, ⟨gs0, gs1⟩, ⟨gw0, gw1⟩, ⟨gj0, gj1⟩, ⟨gt0, gt1⟩⟩ := hg
  obtain ⟨y, m, d, h, mi, s, wk, day, t⟩ := x
  unfold dmoV
  unfold dmoO at EN
  simp only at gy0 gy1 gm0 gm1 gd0 gd1 gh0 gh1 gi0 gi1 gs0 gs1 gw0 gw1 gj0 gj1 gt0 gt1 EN HE ⊢
  clear hT
  go_enter Tryz.func25, Tryz.ntmps25
  go_wp2_with fail
  refine (HIT.out _ _ EN.out.bel (by omega) (by omega)).mono ?_
  rintro e w1 ⟨rfl, hb1⟩
  have HB1 := hide (EN.out.next hb1).bel
  clear hb1
  go_wp2_with fail
  go_ret2
  exact ⟨by rw [HE.out]; rfl, HB1.out⟩
set_option maxHeartbeats 2000000 in
set_option maxRecDepth 100000 in
theorem part_e (x : DMo) (hg : x.good) (w : World) (hT : PowTab w) :
    Calls Tryz.prog 25 #[dmoV x, .int .u8 101] w fun e w' => e = .returned (.tuple #[.string (mkB (dTold x 101)), .bool true]) ∧ Below w.heap.size w w' := by
  have HIT := hide (fun (v : Int) W (hb : Below w.heap.size w W) h0 h1 => itoa_any v W h0 h1 (hT.below hb))
  have EN := hide (DEnv.start 60 x w)
  obtain ⟨⟨gy0, gy1⟩, ⟨gm0, gm1⟩, ⟨gd0, gd1⟩, ⟨gh0, gh1⟩, ⟨gi0, gi1⟩, ⟨gs0, gs1⟩, ⟨gw0, gw1⟩, ⟨gj0, gj1⟩, ⟨gt0, gt1⟩⟩ := hg
  have HE : Hid (dTold x 101 = if x.d < 10 then 32 :: Lib.itoa x.d else Lib.itoa x.d) := hide (by rw [← fill_e gd0 gd1]; simp [dTold])
  obtain ⟨y, m, d, h, mi, s, wk, day, t⟩ := x
  unfold dmoV
  unfold dmoO at EN
  simp only at gd0 gd1 EN HE ⊢
  have hl := Lib.itoa_length_le d (by omega) (by omega)
  have hz : (⟨(Lib.itoa d).toArray⟩ : ByteArray).size ≤ 100 := by show (Lib.itoa d).toArray.size ≤ _; simp; omega
  clear hT hl gy0 gy1 gm0 gm1 gh0 gh1 gi0 gi1 gs0 gs1 gw0 gw1 gj0 gj1 gt0 gt1
  have HC := hide (mkB_cons 32 (Lib.itoa d))
  have HM : Hid (mkB (Lib.itoa d) = ⟨(Lib.itoa d).toArray⟩) := hide rfl
  have HIT2 := hide (fun W hb => HIT.out d W hb (by omega) (by omega))
  obtain ⟨q, hq⟩ : ∃ q, (⟨(Lib.itoa d).toArray⟩ : ByteArray) = q := ⟨_, rfl⟩
  rw [hq] at hz HM
  simp only [hq] at HIT2
  clear hq HIT
  by_cases hd : d < 10
  · go_enter Tryz.func25, Tryz.ntmps25
    go_wp2_with fail
    refine (HIT2.out _ EN.out.bel).mono ?_
    rintro e w1 ⟨rfl, hb1⟩
    have HB1 := hide (EN.out.next hb1).bel
    clear hb1
    go_wp2_with fail
    go_ret2
    exact ⟨by rw [HE.out, if_pos hd, ← HC.out, HM.out]; rfl, HB1.out⟩
  · go_enter Tryz.func25, Tryz.ntmps25
    go_wp2_with fail
    refine (HIT2.out _ EN.out.bel).mono ?_
    rintro e w1 ⟨rfl, hb1⟩
    have HB1 := hide (EN.out.next hb1).bel
    clear hb1
    go_wp2_with fail
    go_ret2
    exact ⟨by rw [HE.out, if_neg (by omega), HM.out]; rfl, HB1.out⟩
set_option maxHeartbeats 2000000 in
set_option maxRecDepth 100000 in
theorem part_a (x : DMo) (hg : x.good) (w : World) (hT : PowTab w) :
    Calls Tryz.prog 25 #[dmoV x, .int .u8 97] w fun e w' => e = .returned (.tuple #[.string (mkB (dTold x 97)), .bool true]) ∧ Below w.heap.size w w' := by
  have HZ := hide (fun (v : Int) (k : Nat) W (hb : Below w.heap.size w W) h0 h1 hk => zeros_any v k W h0 h1 hk (hT.below hb))
  have HIT := hide (fun (v : Int) W (hb : Below w.heap.size w W) h0 h1 => itoa_any v W h0 h1 (hT.below hb))
  have EN := hide (DEnv.start 60 x w)
  have HE : Hid (dTold x 97 = dNames.getD (x.wk - 1).toNat []) := hide (by simp [dTold])
  obtain ⟨⟨gy0, gy1⟩, ⟨gm0, gm1⟩, ⟨gd0, gd1⟩, ⟨gh0, gh1⟩, ⟨gi0, gi1⟩, ⟨gs0, gs1⟩, ⟨gw0, gw1⟩, ⟨gj0, gj1⟩, ⟨gt0, gt1⟩⟩ := hg
  obtain ⟨y, m, d, h, mi, s, wk, day, t⟩ := x
  unfold dmoV
  unfold dmoO at EN
  simp only at gy0 gy1 gm0 gm1 gd0 gd1 gh0 gh1 gi0 gi1 gs0 gs1 gw0 gw1 gj0 gj1 gt0 gt1 EN HE ⊢
  obtain ⟨k, rfl⟩ : ∃ k : Nat, wk = (k : Int) + 1 := ⟨(wk - 1).toNat, by omega⟩
  have HC := hide (day_cut (k := k) (by omega))
  have hk : k < 7 := by omega
  have HK : Hid (((k : Int) + 1 - 1).toNat = k) := hide (by omega)
  have h3 : 0 ≤ 3 * ((k : Int) + 1) - 3 := by omega
  have h4 : 3 * ((k : Int) + 1) - 3 ≤ 3 * ((k : Int) + 1) := by omega
  have h5 : 3 * ((k : Int) + 1) ≤ 21 := by omega
  have h6 : 0 ≤ 3 * ((k : Int) + 1) := by omega
  clear hT
  go_enter Tryz.func25, Tryz.ntmps25
  go_wp2_with fail
  go_ret2
  exact ⟨by rw [HE.out, HK.out, ← HC.out]; exact congrArg (fun z => Ending.returned (.tuple #[.string z, .bool true])) (by congr 1 <;> omega), EN.out.bel⟩
set_option maxHeartbeats 2000000 in
set_option maxRecDepth 100000 in
theorem part_b (x : DMo) (hg : x.good) (w : World) (hT : PowTab w) :
    Calls Tryz.prog 25 #[dmoV x, .int .u8 98] w fun e w' => e = .returned (.tuple #[.string (mkB (dTold x 98)), .bool true]) ∧ Below w.heap.size w w' := by
  have HZ := hide (fun (v : Int) (k : Nat) W (hb : Below w.heap.size w W) h0 h1 hk => zeros_any v k W h0 h1 hk (hT.below hb))
  have HIT := hide (fun (v : Int) W (hb : Below w.heap.size w W) h0 h1 => itoa_any v W h0 h1 (hT.below hb))
  have EN := hide (DEnv.start 60 x w)
  have HE : Hid (dTold x 98 = mNames.getD (x.m - 1).toNat []) := hide (by simp [dTold])
  obtain ⟨⟨gy0, gy1⟩, ⟨gm0, gm1⟩, ⟨gd0, gd1⟩, ⟨gh0, gh1⟩, ⟨gi0, gi1⟩, ⟨gs0, gs1⟩, ⟨gw0, gw1⟩, ⟨gj0, gj1⟩, ⟨gt0, gt1⟩⟩ := hg
  obtain ⟨y, m, d, h, mi, s, wk, day, t⟩ := x
  unfold dmoV
  unfold dmoO at EN
  simp only at gy0 gy1 gm0 gm1 gd0 gd1 gh0 gh1 gi0 gi1 gs0 gs1 gw0 gw1 gj0 gj1 gt0 gt1 EN HE ⊢
  obtain ⟨k, rfl⟩ : ∃ k : Nat, m = (k : Int) + 1 := ⟨(m - 1).toNat, by omega⟩
  have HC := hide (mon_cut (k := k) (by omega))
  have hk : k < 12 := by omega
  have HK : Hid (((k : Int) + 1 - 1).toNat = k) := hide (by omega)
  have h3 : 0 ≤ 3 * ((k : Int) + 1) - 3 := by omega
  have h4 : 3 * ((k : Int) + 1) - 3 ≤ 3 * ((k : Int) + 1) := by omega
  have h5 : 3 * ((k : Int) + 1) ≤ 36 := by omega
  have h6 : 0 ≤ 3 * ((k : Int) + 1) := by omega
  clear hT
  go_enter Tryz.func25, Tryz.ntmps25
  go_wp2_with fail
  go_ret2
  exact ⟨by rw [HE.out, HK.out, ← HC.out]; exact congrArg (fun z => Ending.returned (.tuple #[.string z, .bool true])) (by congr 1 <;> omega), EN.out.bel⟩
set_option maxHeartbeats 2000000 in
set_option maxRecDepth 100000 in
theorem part_F (x : DMo) (hg : x.good) (w : World) (hT : PowTab w) :
    Calls Tryz.prog 25 #[dmoV x, .int .u8 70] w fun e w' => e = .returned (.tuple #[.string (mkB (dTold x 70)), .bool true]) ∧ Below w.heap.size w w' := by
  have HZ := hide (fun (v : Int) (k : Nat) W (hb : Below w.heap.size w W) h0 h1 hk => zeros_any v k W h0 h1 hk (hT.below hb))
  have HIT := hide (fun (v : Int) W (hb : Below w.heap.size w W) h0 h1 => itoa_any v W h0 h1 (hT.below hb))
  have EN := hide (DEnv.start 60 x w)
  have HE : Hid (dTold x 70 = fillN x.y 4 true ++ 45 :: (fillN x.m 2 true ++ 45 :: fillN x.d 2 true)) := hide (by simp [dTold])
  obtain ⟨⟨gy0, gy1⟩, ⟨gm0, gm1⟩, ⟨gd0, gd1⟩, ⟨gh0, gh1⟩, ⟨gi0, gi1⟩, ⟨gs0, gs1⟩, ⟨gw0, gw1⟩, ⟨gj0, gj1⟩, ⟨gt0, gt1⟩⟩ := hg
  obtain ⟨y, m, d, h, mi, s, wk, day, t⟩ := x
  unfold dmoV
  unfold dmoO at EN
  simp only at gy0 gy1 gm0 gm1 gd0 gd1 gh0 gh1 gi0 gi1 gs0 gs1 gw0 gw1 gj0 gj1 gt0 gt1 EN HE ⊢
  have z1 : (mkB (fillN y 4 true)).size ≤ 100 := by rw [mkB_size]; have := fillN_len2 (n := y) (w := 4) (z := true) (by omega) (by omega) (by omega); omega
  have z2 : (mkB (fillN m 2 true)).size ≤ 100 := by rw [mkB_size]; have := fillN_len2 (n := m) (w := 2) (z := true) (by omega) (by omega) (by omega); omega
  have z3 : (mkB (fillN d 2 true)).size ≤ 100 := by rw [mkB_size]; have := fillN_len2 (n := d) (w := 2) (z := true) (by omega) (by omega) (by omega); omega
  have HZ1 : Hid (∀ W, Below w.heap.size w W → Calls Tryz.prog 61 #[.int .i64 y, .int .i64 4] W fun e w' => e = .returned (.string (mkB (fillN y 4 true))) ∧ Below W.heap.size W w') := hide (fun W hb => HZ.out _ 4 W hb (by omega) (by omega) (by omega))
  have HZ2 : Hid (∀ W, Below w.heap.size w W → Calls Tryz.prog 61 #[.int .i64 m, .int .i64 2] W fun e w' => e = .returned (.string (mkB (fillN m 2 true))) ∧ Below W.heap.size W w') := hide (fun W hb => HZ.out _ 2 W hb (by omega) (by omega) (by omega))
  have HZ3 : Hid (∀ W, Below w.heap.size w W → Calls Tryz.prog 61 #[.int .i64 d, .int .i64 2] W fun e w' => e = .returned (.string (mkB (fillN d 2 true))) ∧ Below W.heap.size W w') := hide (fun W hb => HZ.out _ 2 W hb (by omega) (by omega) (by omega))
  have HX : Hid (mkB (fillN y 4 true ++ 45 :: (fillN m 2 true ++ 45 :: fillN d 2 true)) = ((((mkB (fillN y 4 true) ++ (⟨#[45]⟩ : ByteArray)) ++ mkB (fillN m 2 true)) ++ (⟨#[45]⟩ : ByteArray)) ++ mkB (fillN d 2 true))) := hide (by
    rw [show (⟨#[45]⟩ : ByteArray) = mkB [45] from rfl, mkB_app', mkB_app', mkB_app', mkB_app']; simp)
  obtain ⟨q1, hq1⟩ : ∃ q, mkB (fillN y 4 true) = q := ⟨_, rfl⟩
  obtain ⟨q2, hq2⟩ : ∃ q, mkB (fillN m 2 true) = q := ⟨_, rfl⟩
  obtain ⟨q3, hq3⟩ : ∃ q, mkB (fillN d 2 true) = q := ⟨_, rfl⟩
  rw [hq1] at z1
  rw [hq2] at z2
  rw [hq3] at z3
  simp only [hq1, hq2, hq3] at HX HZ1 HZ2 HZ3
  have a1 : ¬ (9223372036854775807 < q1.size + 1) := by omega
  have a2 : ¬ (9223372036854775807 < q1.size + 1 + q2.size) := by omega
  have a3 : ¬ (9223372036854775807 < q1.size + 1 + q2.size + 1) := by omega
  have a4 : ¬ (9223372036854775807 < q1.size + 1 + q2.size + 1 + q3.size) := by omega
  clear HZ hq1 hq2 hq3
  clear hT
  go_enter Tryz.func25, Tryz.ntmps25
  go_wp2_with fail
  obtain ⟨W0, hW0⟩ : ∃ W0, w.alloc (.cells #[.int .i64 y, .int .i64 m, .int .i64 d, .int .i64 h, .int .i64 mi, .int .i64 s, .int .i64 wk, .int .i64 day, .int .i64 t] 60) = W0 := ⟨_, rfl⟩
  rw [hW0] at EN ⊢
  clear hW0
  obtain ⟨c0, c1, c2, c3, c4, c5⟩ := EN.out.cells
  go_region_held3 (fun w' => w'.cell? ⟨w.heap.size, 0, none⟩ = some (.int .i64 y) ∧ w'.cell? ⟨w.heap.size, 1, none⟩ = some (.int .i64 m) ∧ w'.cell? ⟨w.heap.size, 2, none⟩ = some (.int .i64 d)) (go_keep)
    (first
      | (go_at_call 61; (with_reducible refine (HZ1.out _ ?_).mono ?_); (focus (exact EN.out.drew.bel)); rintro e w1 ⟨rfl, hb1⟩; have EN1 := hide (EN.out.drew.next hb1); clear hb1; obtain ⟨e0, e1, e2, e3, e4, e5⟩ := EN1.out.cells)
      | (go_at_call 61; (with_reducible refine (HZ2.out _ ?_).mono ?_); (focus (exact EN1.out.bel)); rintro e w2 ⟨rfl, hb2⟩; have EN2 := hide (EN1.out.next hb2); clear hb2; obtain ⟨f0, f1, f2, f3, f4, f5⟩ := EN2.out.cells)
      | (go_at_call 61; (with_reducible refine (HZ3.out _ ?_).mono ?_); (focus (exact EN2.out.bel)); rintro e w3 ⟨rfl, hb3⟩; have EN3 := hide (EN2.out.next hb3); clear hb3; obtain ⟨g0, g1, g2, g3, g4, g5⟩ := EN3.out.cells))
  go_wp2_with fail
  go_ret2
  exact ⟨by rw [HE.out, HX.out]; rfl, EN3.out.bel⟩
set_option maxHeartbeats 2000000 in
set_option maxRecDepth 100000 in
theorem part_T (x : DMo) (hg : x.good) (w : World) (hT : PowTab w) :
    Calls Tryz.prog 25 #[dmoV x, .int .u8 84] w fun e w' => e = .returned (.tuple #[.string (mkB (dTold x 84)), .bool true]) ∧ Below w.heap.size w w' := by
  have HZ := hide (fun (v : Int) (k : Nat) W (hb : Below w.heap.size w W) h0 h1 hk => zeros_any v k W h0 h1 hk (hT.below hb))
  have HIT := hide (fun (v : Int) W (hb : Below w.heap.size w W) h0 h1 => itoa_any v W h0 h1 (hT.below hb))
  have EN := hide (DEnv.start 60 x w)
  have HE : Hid (dTold x 84 = fillN x.h 2 true ++ 58 :: (fillN x.mi 2 true ++ 58 :: fillN x.s 2 true)) := hide (by simp [dTold])
  obtain ⟨⟨gy0, gy1⟩, ⟨gm0, gm1⟩, ⟨gd0, gd1⟩, ⟨gh0, gh1⟩, ⟨gi0, gi1⟩, ⟨gs0, gs1⟩, ⟨gw0, gw1⟩, ⟨gj0, gj1⟩, ⟨gt0, gt1⟩⟩ := hg
  obtain ⟨y, m, d, h, mi, s, wk, day, t⟩ := x
  unfold dmoV
  unfold dmoO at EN
  simp only at gy0 gy1 gm0 gm1 gd0 gd1 gh0 gh1 gi0 gi1 gs0 gs1 gw0 gw1 gj0 gj1 gt0 gt1 EN HE ⊢
  have z1 : (mkB (fillN h 2 true)).size ≤ 100 := by rw [mkB_size]; have := fillN_len2 (n := h) (w := 2) (z := true) (by omega) (by omega) (by omega); omega
  have z2 : (mkB (fillN mi 2 true)).size ≤ 100 := by rw [mkB_size]; have := fillN_len2 (n := mi) (w := 2) (z := true) (by omega) (by omega) (by omega); omega
  have z3 : (mkB (fillN s 2 true)).size ≤ 100 := by rw [mkB_size]; have := fillN_len2 (n := s) (w := 2) (z := true) (by omega) (by omega) (by omega); omega
  have HZ1 : Hid (∀ W, Below w.heap.size w W → Calls Tryz.prog 61 #[.int .i64 h, .int .i64 2] W fun e w' => e = .returned (.string (mkB (fillN h 2 true))) ∧ Below W.heap.size W w') := hide (fun W hb => HZ.out _ 2 W hb (by omega) (by omega) (by omega))
  have HZ2 : Hid (∀ W, Below w.heap.size w W → Calls Tryz.prog 61 #[.int .i64 mi, .int .i64 2] W fun e w' => e = .returned (.string (mkB (fillN mi 2 true))) ∧ Below W.heap.size W w') := hide (fun W hb => HZ.out _ 2 W hb (by omega) (by omega) (by omega))
  have HZ3 : Hid (∀ W, Below w.heap.size w W → Calls Tryz.prog 61 #[.int .i64 s, .int .i64 2] W fun e w' => e = .returned (.string (mkB (fillN s 2 true))) ∧ Below W.heap.size W w') := hide (fun W hb => HZ.out _ 2 W hb (by omega) (by omega) (by omega))
  have HX : Hid (mkB (fillN h 2 true ++ 58 :: (fillN mi 2 true ++ 58 :: fillN s 2 true)) = ((((mkB (fillN h 2 true) ++ (⟨#[58]⟩ : ByteArray)) ++ mkB (fillN mi 2 true)) ++ (⟨#[58]⟩ : ByteArray)) ++ mkB (fillN s 2 true))) := hide (by
    rw [show (⟨#[58]⟩ : ByteArray) = mkB [58] from rfl, mkB_app', mkB_app', mkB_app', mkB_app']; simp)
  obtain ⟨q1, hq1⟩ : ∃ q, mkB (fillN h 2 true) = q := ⟨_, rfl⟩
  obtain ⟨q2, hq2⟩ : ∃ q, mkB (fillN mi 2 true) = q := ⟨_, rfl⟩
  obtain ⟨q3, hq3⟩ : ∃ q, mkB (fillN s 2 true) = q := ⟨_, rfl⟩
  rw [hq1] at z1
  rw [hq2] at z2
  rw [hq3] at z3
  simp only [hq1, hq2, hq3] at HX HZ1 HZ2 HZ3
  have a1 : ¬ (9223372036854775807 < q1.size + 1) := by omega
  have a2 : ¬ (9223372036854775807 < q1.size + 1 + q2.size) := by omega
  have a3 : ¬ (9223372036854775807 < q1.size + 1 + q2.size + 1) := by omega
  have a4 : ¬ (9223372036854775807 < q1.size + 1 + q2.size + 1 + q3.size) := by omega
  clear HZ hq1 hq2 hq3
  clear hT
  go_enter Tryz.func25, Tryz.ntmps25
  go_wp2_with fail
  obtain ⟨W0, hW0⟩ : ∃ W0, w.alloc (.cells #[.int .i64 y, .int .i64 m, .int .i64 d, .int .i64 h, .int .i64 mi, .int .i64 s, .int .i64 wk, .int .i64 day, .int .i64 t] 60) = W0 := ⟨_, rfl⟩
  rw [hW0] at EN ⊢
  clear hW0
  obtain ⟨c0, c1, c2, c3, c4, c5⟩ := EN.out.cells
  go_region_held3 (fun w' => w'.cell? ⟨w.heap.size, 3, none⟩ = some (.int .i64 h) ∧ w'.cell? ⟨w.heap.size, 4, none⟩ = some (.int .i64 mi) ∧ w'.cell? ⟨w.heap.size, 5, none⟩ = some (.int .i64 s)) (go_keep)
    (first
      | (go_at_call 61; (with_reducible refine (HZ1.out _ ?_).mono ?_); (focus (exact EN.out.drew.bel)); rintro e w1 ⟨rfl, hb1⟩; have EN1 := hide (EN.out.drew.next hb1); clear hb1; obtain ⟨e0, e1, e2, e3, e4, e5⟩ := EN1.out.cells)
      | (go_at_call 61; (with_reducible refine (HZ2.out _ ?_).mono ?_); (focus (exact EN1.out.bel)); rintro e w2 ⟨rfl, hb2⟩; have EN2 := hide (EN1.out.next hb2); clear hb2; obtain ⟨f0, f1, f2, f3, f4, f5⟩ := EN2.out.cells)
      | (go_at_call 61; (with_reducible refine (HZ3.out _ ?_).mono ?_); (focus (exact EN2.out.bel)); rintro e w3 ⟨rfl, hb3⟩; have EN3 := hide (EN2.out.next hb3); clear hb3; obtain ⟨g0, g1, g2, g3, g4, g5⟩ := EN3.out.cells))
  go_wp2_with fail
  go_ret2
  exact ⟨by rw [HE.out, HX.out]; rfl, EN3.out.bel⟩
set_option maxHeartbeats 2000000 in
set_option maxRecDepth 100000 in
theorem part_n (x : DMo) (hg : x.good) (w : World) (hT : PowTab w) :
    Calls Tryz.prog 25 #[dmoV x, .int .u8 110] w fun e w' => e = .returned (.tuple #[.string (mkB (dTold x 110)), .bool true]) ∧ Below w.heap.size w w' := by
  have HZ := hide (fun (v : Int) (k : Nat) W (hb : Below w.heap.size w W) h0 h1 hk => zeros_any v k W h0 h1 hk (hT.below hb))
  have HIT := hide (fun (v : Int) W (hb : Below w.heap.size w W) h0 h1 => itoa_any v W h0 h1 (hT.below hb))
  have EN := hide (DEnv.start 60 x w)
  have HE : Hid (dTold x 110 = [10]) := hide (by simp [dTold])
  obtain ⟨⟨gy0, gy1⟩, ⟨gm0, gm1⟩, ⟨gd0, gd1⟩, ⟨gh0, gh1⟩, ⟨gi0, gi1⟩, ⟨gs0, gs1⟩, ⟨gw0, gw1⟩, ⟨gj0, gj1⟩, ⟨gt0, gt1⟩⟩ := hg
  obtain ⟨y, m, d, h, mi, s, wk, day, t⟩ := x
  unfold dmoV
  unfold dmoO at EN
  simp only at gy0 gy1 gm0 gm1 gd0 gd1 gh0 gh1 gi0 gi1 gs0 gs1 gw0 gw1 gj0 gj1 gt0 gt1 EN HE ⊢
  clear hT
  go_enter Tryz.func25, Tryz.ntmps25
  go_wp2_with fail
  go_ret2
  exact ⟨by rw [HE.out]; rfl, EN.out.bel⟩
set_option maxHeartbeats 2000000 in
set_option maxRecDepth 100000 in
theorem part_t (x : DMo) (hg : x.good) (w : World) (hT : PowTab w) :
    Calls Tryz.prog 25 #[dmoV x, .int .u8 116] w fun e w' => e = .returned (.tuple #[.string (mkB (dTold x 116)), .bool true]) ∧ Below w.heap.size w w' := by
  have HZ := hide (fun (v : Int) (k : Nat) W (hb : Below w.heap.size w W) h0 h1 hk => zeros_any v k W h0 h1 hk (hT.below hb))
  have HIT := hide (fun (v : Int) W (hb : Below w.heap.size w W) h0 h1 => itoa_any v W h0 h1 (hT.below hb))
  have EN := hide (DEnv.start 60 x w)
  have HE : Hid (dTold x 116 = [9]) := hide (by simp [dTold])
  obtain ⟨⟨gy0, gy1⟩, ⟨gm0, gm1⟩, ⟨gd0, gd1⟩, ⟨gh0, gh1⟩, ⟨gi0, gi1⟩, ⟨gs0, gs1⟩, ⟨gw0, gw1⟩, ⟨gj0, gj1⟩, ⟨gt0, gt1⟩⟩ := hg
  obtain ⟨y, m, d, h, mi, s, wk, day, t⟩ := x
  unfold dmoV
  unfold dmoO at EN
  simp only at gy0 gy1 gm0 gm1 gd0 gd1 gh0 gh1 gi0 gi1 gs0 gs1 gw0 gw1 gj0 gj1 gt0 gt1 EN HE ⊢
  clear hT
  go_enter Tryz.func25, Tryz.ntmps25
  go_wp2_with fail
  go_ret2
  exact ⟨by rw [HE.out]; rfl, EN.out.bel⟩
set_option maxHeartbeats 2000000 in
set_option maxRecDepth 100000 in
theorem part_p (x : DMo) (hg : x.good) (w : World) (hT : PowTab w) :
    Calls Tryz.prog 25 #[dmoV x, .int .u8 37] w fun e w' => e = .returned (.tuple #[.string (mkB (dTold x 37)), .bool true]) ∧ Below w.heap.size w w' := by
  have HZ := hide (fun (v : Int) (k : Nat) W (hb : Below w.heap.size w W) h0 h1 hk => zeros_any v k W h0 h1 hk (hT.below hb))
  have HIT := hide (fun (v : Int) W (hb : Below w.heap.size w W) h0 h1 => itoa_any v W h0 h1 (hT.below hb))
  have EN := hide (DEnv.start 60 x w)
  have HE : Hid (dTold x 37 = [37]) := hide (by simp [dTold])
  obtain ⟨⟨gy0, gy1⟩, ⟨gm0, gm1⟩, ⟨gd0, gd1⟩, ⟨gh0, gh1⟩, ⟨gi0, gi1⟩, ⟨gs0, gs1⟩, ⟨gw0, gw1⟩, ⟨gj0, gj1⟩, ⟨gt0, gt1⟩⟩ := hg
  obtain ⟨y, m, d, h, mi, s, wk, day, t⟩ := x
  unfold dmoV
  unfold dmoO at EN
  simp only at gy0 gy1 gm0 gm1 gd0 gd1 gh0 gh1 gi0 gi1 gs0 gs1 gw0 gw1 gj0 gj1 gt0 gt1 EN HE ⊢
  clear hT
  go_enter Tryz.func25, Tryz.ntmps25
  go_wp2_with fail
  go_ret2
  exact ⟨by rw [HE.out]; rfl, EN.out.bel⟩
theorem part_any (x : DMo) (hg : x.good) (c : UInt8) (hc : c ∈ dLetters) (w : World) (hT : PowTab w) :
    Calls Tryz.prog 25 #[dmoV x, .int .u8 (c.toNat : Int)] w fun e w' => e = .returned (.tuple #[.string (mkB (dTold x c)), .bool true]) ∧ Below w.heap.size w w' := by
  unfold dLetters at hc
  simp only [List.mem_cons, List.not_mem_nil, or_false] at hc
  rcases hc with rfl | rfl | rfl | rfl | rfl | rfl | rfl | rfl | rfl | rfl | rfl | rfl | rfl | rfl | rfl | rfl | rfl | rfl
  · exact part_Y x hg w hT
  · exact part_y x hg w hT
  · exact part_m x hg w hT
  · exact part_d x hg w hT
  · exact part_H x hg w hT
  · exact part_M x hg w hT
  · exact part_S x hg w hT
  · exact part_j x hg w hT
  · exact part_e x hg w hT
  · exact part_u x hg w hT
  · exact part_a x hg w hT
  · exact part_b x hg w hT
  · exact part_s x hg w hT
  · exact part_F x hg w hT
  · exact part_T x hg w hT
  · exact part_n x hg w hT
  · exact part_t x hg w hT
  · exact part_p x hg w hT
set_option maxHeartbeats 2000000 in
set_option maxRecDepth 100000 in
theorem part_no (x : DMo) (c : UInt8) (hc : c ∉ dLetters) (w : World) :
    Calls Tryz.prog 25 #[dmoV x, .int .u8 (c.toNat : Int)] w fun e w' => e = .returned (.tuple #[.string ⟨#[]⟩, .bool false]) ∧ Below w.heap.size w w' := by
  have EN := hide (DEnv.start 60 x w)
  have key : ∀ b : UInt8, b ∈ dLetters → ((c.toNat : Int) == (b.toNat : Int)) = false := fun b hb => by
    have : c.toNat ≠ b.toNat := fun e => hc (by rw [UInt8.toNat_inj.1 e]; exact hb)
    simp; omega
  have k89 : ((c.toNat : Int) == 89) = false := key 89 (by decide)
  have k121 : ((c.toNat : Int) == 121) = false := key 121 (by decide)
  have k109 : ((c.toNat : Int) == 109) = false := key 109 (by decide)
  have k100 : ((c.toNat : Int) == 100) = false := key 100 (by decide)
  have k72 : ((c.toNat : Int) == 72) = false := key 72 (by decide)
  have k77 : ((c.toNat : Int) == 77) = false := key 77 (by decide)
  have k83 : ((c.toNat : Int) == 83) = false := key 83 (by decide)
  have k106 : ((c.toNat : Int) == 106) = false := key 106 (by decide)
  have k101 : ((c.toNat : Int) == 101) = false := key 101 (by decide)
  have k117 : ((c.toNat : Int) == 117) = false := key 117 (by decide)
  have k97 : ((c.toNat : Int) == 97) = false := key 97 (by decide)
  have k98 : ((c.toNat : Int) == 98) = false := key 98 (by decide)
  have k115 : ((c.toNat : Int) == 115) = false := key 115 (by decide)
  have k70 : ((c.toNat : Int) == 70) = false := key 70 (by decide)
  have k84 : ((c.toNat : Int) == 84) = false := key 84 (by decide)
  have k110 : ((c.toNat : Int) == 110) = false := key 110 (by decide)
  have k116 : ((c.toNat : Int) == 116) = false := key 116 (by decide)
  have k37 : ((c.toNat : Int) == 37) = false := key 37 (by decide)
  obtain ⟨y, m, d, h, mi, s, wk, day, t⟩ := x
  unfold dmoV
  unfold dmoO at EN
  simp only at EN ⊢
  clear hc key
  go_enter Tryz.func25, Tryz.ntmps25
  go_wp2_with fail
  go_ret2
  exact ⟨rfl, EN.out.bel⟩
end Go.Proofs.YtifpmigghplmoaaGreatDoor

/- DateS -/
set_option linter.unusedVariables false
set_option linter.unusedSimpArgs false
namespace Go.Proofs.YtifpmigghplmoaaGreatDoor
open Go.RowKit Go.Pw
theorem info_dmo : (Tryz.prog.info? 60).map (·.size) = some 9 := by kernel_rfl
theorem results_dmo {fn : Func} {p u : Tmp} (h : fn.results = #[.cell p 60, .tmp u]) (tmps : Array Value) (w : World) (g : Nat) (x : DMo)
    (hp : tmps.getD p undef = .pointer (some ⟨g, 0, none⟩)) (hg : w.heap[g]? = some (dmoO x 60)) : (results fn tmps).run Tryz.prog w = .ok (.tuple #[dmoV x, tmps.getD u undef]) w := by
  rw [results_cell_tmp h, hp]
  unfold dmoO at hg
  simp [asAddr, run_loadVar_row w g 60 60 _ (0, 0) _ hg Tryz.underlying60 rfl info_dmo, Result.andThen, dmoV]
def dmo0 : DMo := ⟨0, 0, 0, 0, 0, 0, 0, 0, 0⟩
theorem neg_div {t : Int} (h : t < 0) : t.tdiv 86400 = -((-t) / 86400) ∧ t.tmod 86400 = -((-t) % 86400) := by
  obtain ⟨k, rfl⟩ : ∃ k : Nat, t = -(k : Int) := ⟨t.natAbs, by omega⟩
  rw [Int.neg_tdiv, Int.neg_tmod, Int.tdiv_eq_ediv_of_nonneg (by omega), Int.tmod_eq_emod_of_nonneg (by omega), Int.neg_neg]
  exact ⟨rfl, rfl⟩
theorem neg_seven {v : Int} (h : v < 0) : v.tmod 7 = -((-v) % 7) := by
  obtain ⟨k, rfl⟩ : ∃ k : Nat, v = -(k : Int) := ⟨v.natAbs, by omega⟩
  rw [Int.neg_tmod, Int.tmod_eq_emod_of_nonneg (by omega), Int.neg_neg]
set_option maxHeartbeats 2000000 in
set_option maxRecDepth 100000 in
theorem moment_pp {t n r y d : Int} {m : Nat} (h : DIs t n r y m d) (w : World) (ht : 0 ≤ t) (hw : 0 ≤ n + 3) :
    Calls Tryz.prog 24 #[.int .i64 t] w fun e w' => e = .returned (.tuple #[dmoV (dMo n r t y m d), .bool true]) ∧ Below w.heap.size w w' := by
  have hday := h.day
  have hrest := h.rest
  have hr0 := h.r0
  have hr1 := h.r1
  have hn0 := h.lo
  have hn1 := h.hi
  have ht0 := h.t0
  have ht1 := h.t1
  have hn : 0 ≤ t := ht
  have h2 : ¬ t % 86400 < 0 := by omega
  have h3 : 0 ≤ t / 86400 * 86400 := by omega
  have h4 : t / 86400 * 86400 ≤ 9223372036854775807 := by omega
  have h5 : 0 ≤ t - t / 86400 * 86400 := by omega
  have h6 : t - t / 86400 * 86400 ≤ 86400 := by omega
  have HN : Hid (t / 86400 = n) := hide hday
  have HR : Hid (t - n * 86400 = r) := hide (by rw [← hday, ← hrest]; omega)
  have g1 : 0 ≤ n + 3 := hw
  have g2 : ¬ (n + 3) % 7 < 0 := by omega
  have HW : Hid ((n + 3) % 7 + 1 = (n + 3) % 7 + 1) := hide rfl
  have HC := hide h.civ
  have HDO := hide (fun W => DayOf_yes n W hn0 hn1)
  obtain ⟨⟨gy0, gy1⟩, -, -, -, -, -, -, ⟨gj0, gj1⟩, -⟩ := h.good
  simp only [dMo] at gy0 gy1 gj0 gj1
  have gy2 : 1 ≤ y := h.civ.1
  have gc := h.civ.2.2.1
  obtain ⟨gz0, gz1⟩ := yb_le (y := y) (by omega) (by omega)
  have gj2 : 0 ≤ n - (yb y - 719162) := by omega
  have gj3 : n - (yb y - 719162) ≤ 366 := by omega
  have q1 : 0 ≤ r / 60 := by omega
  have HJ : Hid (n - (yb y - 719162) + 1 = n + 719162 - yb y + 1) := hide (by omega)
  have HYB := hide (fun W => yearBegin_any y W gy2 (by omega))
  clear hday hrest h gj0 gj1 gc ht
  go_enter Tryz.func24, Tryz.ntmps24
  go_wp2_with fail
  rw [HN.out, HR.out]
  refine (HDO.out _).mono ?_
  rintro e w' ⟨⟨y', m', d', hc, rfl⟩, rfl⟩
  obtain ⟨rfl, rfl, rfl⟩ := HC.out.one hc
  clear hc
  go_wp2_with fail
  refine (HYB.out _).mono ?_
  rintro e w' ⟨rfl, rfl⟩
  go_wp2_with fail
  (try simp only [Exit.inBlock, Exit.then])
  refine bodyPost_ret (results_dmo rfl _ _ w.heap.size (dMo n r t y m d) rfl ?_) rfl ⟨rfl, (Below.refl _ _).alloc (Nat.le_refl _) _⟩
  unfold dmoO dMo
  rw [heap_alloc_new]
  simp only
  rw [← HJ.out]
set_option maxHeartbeats 2000000 in
set_option maxRecDepth 100000 in
theorem moment_zp {t n r y d : Int} {m : Nat} (h : DIs t n r y m d) (w : World) (ht : t < 0) (hz : (-t) % 86400 = 0) (hw : 0 ≤ n + 3) :
    Calls Tryz.prog 24 #[.int .i64 t] w fun e w' => e = .returned (.tuple #[dmoV (dMo n r t y m d), .bool true]) ∧ Below w.heap.size w w' := by
  have hday := h.day
  have hrest := h.rest
  have hr0 := h.r0
  have hr1 := h.r1
  have hn0 := h.lo
  have hn1 := h.hi
  have ht0 := h.t0
  have ht1 := h.t1
  obtain ⟨hd, hm⟩ := neg_div ht
  have h2 : ¬ t.tmod 86400 < 0 := by omega
  have h3 : -9223372036854775808 ≤ t.tdiv 86400 * 86400 := by omega
  have h4 : t.tdiv 86400 * 86400 ≤ 9223372036854775807 := by omega
  have h5 : 0 ≤ t - t.tdiv 86400 * 86400 := by omega
  have h6 : t - t.tdiv 86400 * 86400 ≤ 86400 := by omega
  have HN : Hid (t.tdiv 86400 = n) := hide (by omega)
  have HR : Hid (t - n * 86400 = r) := hide (by rw [← hday, ← hrest]; omega)
  clear hd hm
  have g1 : 0 ≤ n + 3 := hw
  have g2 : ¬ (n + 3) % 7 < 0 := by omega
  have HW : Hid ((n + 3) % 7 + 1 = (n + 3) % 7 + 1) := hide rfl
  have HC := hide h.civ
  have HDO := hide (fun W => DayOf_yes n W hn0 hn1)
  obtain ⟨⟨gy0, gy1⟩, -, -, -, -, -, -, ⟨gj0, gj1⟩, -⟩ := h.good
  simp only [dMo] at gy0 gy1 gj0 gj1
  have gy2 : 1 ≤ y := h.civ.1
  have gc := h.civ.2.2.1
  obtain ⟨gz0, gz1⟩ := yb_le (y := y) (by omega) (by omega)
  have gj2 : 0 ≤ n - (yb y - 719162) := by omega
  have gj3 : n - (yb y - 719162) ≤ 366 := by omega
  have q1 : 0 ≤ r / 60 := by omega
  have HJ : Hid (n - (yb y - 719162) + 1 = n + 719162 - yb y + 1) := hide (by omega)
  have HYB := hide (fun W => yearBegin_any y W gy2 (by omega))
  clear hday hrest h gj0 gj1 gc ht hz
  go_enter Tryz.func24, Tryz.ntmps24
  go_wp2_with fail
  rw [HN.out, HR.out]
  refine (HDO.out _).mono ?_
  rintro e w' ⟨⟨y', m', d', hc, rfl⟩, rfl⟩
  obtain ⟨rfl, rfl, rfl⟩ := HC.out.one hc
  clear hc
  go_wp2_with fail
  refine (HYB.out _).mono ?_
  rintro e w' ⟨rfl, rfl⟩
  go_wp2_with fail
  (try simp only [Exit.inBlock, Exit.then])
  refine bodyPost_ret (results_dmo rfl _ _ w.heap.size (dMo n r t y m d) rfl ?_) rfl ⟨rfl, (Below.refl _ _).alloc (Nat.le_refl _) _⟩
  unfold dmoO dMo
  rw [heap_alloc_new]
  simp only
  rw [← HJ.out]
set_option maxHeartbeats 2000000 in
set_option maxRecDepth 100000 in
theorem moment_zz {t n r y d : Int} {m : Nat} (h : DIs t n r y m d) (w : World) (ht : t < 0) (hz : (-t) % 86400 = 0) (hw : n + 3 < 0) (hs : (-(n + 3)) % 7 = 0) :
    Calls Tryz.prog 24 #[.int .i64 t] w fun e w' => e = .returned (.tuple #[dmoV (dMo n r t y m d), .bool true]) ∧ Below w.heap.size w w' := by
  have hday := h.day
  have hrest := h.rest
  have hr0 := h.r0
  have hr1 := h.r1
  have hn0 := h.lo
  have hn1 := h.hi
  have ht0 := h.t0
  have ht1 := h.t1
  obtain ⟨hd, hm⟩ := neg_div ht
  have h2 : ¬ t.tmod 86400 < 0 := by omega
  have h3 : -9223372036854775808 ≤ t.tdiv 86400 * 86400 := by omega
  have h4 : t.tdiv 86400 * 86400 ≤ 9223372036854775807 := by omega
  have h5 : 0 ≤ t - t.tdiv 86400 * 86400 := by omega
  have h6 : t - t.tdiv 86400 * 86400 ≤ 86400 := by omega
  have HN : Hid (t.tdiv 86400 = n) := hide (by omega)
  have HR : Hid (t - n * 86400 = r) := hide (by rw [← hday, ← hrest]; omega)
  clear hd hm
  have hv := neg_seven hw
  have g2 : ¬ (n + 3).tmod 7 < 0 := by omega
  have g3 : (n + 3).tmod 7 ≤ 7 := by omega
  have HW : Hid ((n + 3).tmod 7 + 1 = (n + 3) % 7 + 1) := hide (by omega)
  clear hv
  have HC := hide h.civ
  have HDO := hide (fun W => DayOf_yes n W hn0 hn1)
  obtain ⟨⟨gy0, gy1⟩, -, -, -, -, -, -, ⟨gj0, gj1⟩, -⟩ := h.good
  simp only [dMo] at gy0 gy1 gj0 gj1
  have gy2 : 1 ≤ y := h.civ.1
  have gc := h.civ.2.2.1
  obtain ⟨gz0, gz1⟩ := yb_le (y := y) (by omega) (by omega)
  have gj2 : 0 ≤ n - (yb y - 719162) := by omega
  have gj3 : n - (yb y - 719162) ≤ 366 := by omega
  have q1 : 0 ≤ r / 60 := by omega
  have HJ : Hid (n - (yb y - 719162) + 1 = n + 719162 - yb y + 1) := hide (by omega)
  have HYB := hide (fun W => yearBegin_any y W gy2 (by omega))
  clear hday hrest h gj0 gj1 gc ht hz
  go_enter Tryz.func24, Tryz.ntmps24
  go_wp2_with fail
  rw [HN.out, HR.out]
  refine (HDO.out _).mono ?_
  rintro e w' ⟨⟨y', m', d', hc, rfl⟩, rfl⟩
  obtain ⟨rfl, rfl, rfl⟩ := HC.out.one hc
  clear hc
  go_wp2_with fail
  refine (HYB.out _).mono ?_
  rintro e w' ⟨rfl, rfl⟩
  go_wp2_with fail
  (try simp only [Exit.inBlock, Exit.then])
  refine bodyPost_ret (results_dmo rfl _ _ w.heap.size (dMo n r t y m d) rfl ?_) rfl ⟨rfl, (Below.refl _ _).alloc (Nat.le_refl _) _⟩
  unfold dmoO dMo
  rw [heap_alloc_new]
  simp only
  rw [← HJ.out, ← HW.out]
set_option maxHeartbeats 2000000 in
set_option maxRecDepth 100000 in
theorem moment_zn {t n r y d : Int} {m : Nat} (h : DIs t n r y m d) (w : World) (ht : t < 0) (hz : (-t) % 86400 = 0) (hw : n + 3 < 0) (hs : ¬ (-(n + 3)) % 7 = 0) :
    Calls Tryz.prog 24 #[.int .i64 t] w fun e w' => e = .returned (.tuple #[dmoV (dMo n r t y m d), .bool true]) ∧ Below w.heap.size w w' := by
  have hday := h.day
  have hrest := h.rest
  have hr0 := h.r0
  have hr1 := h.r1
  have hn0 := h.lo
  have hn1 := h.hi
  have ht0 := h.t0
  have ht1 := h.t1
  obtain ⟨hd, hm⟩ := neg_div ht
  have h2 : ¬ t.tmod 86400 < 0 := by omega
  have h3 : -9223372036854775808 ≤ t.tdiv 86400 * 86400 := by omega
  have h4 : t.tdiv 86400 * 86400 ≤ 9223372036854775807 := by omega
  have h5 : 0 ≤ t - t.tdiv 86400 * 86400 := by omega
  have h6 : t - t.tdiv 86400 * 86400 ≤ 86400 := by omega
  have HN : Hid (t.tdiv 86400 = n) := hide (by omega)
  have HR : Hid (t - n * 86400 = r) := hide (by rw [← hday, ← hrest]; omega)
  clear hd hm
  have hv := neg_seven hw
  have g2 : (n + 3).tmod 7 < 0 := by omega
  have g3 : 0 ≤ (n + 3).tmod 7 + 7 := by omega
  have g4 : (n + 3).tmod 7 + 7 ≤ 7 := by omega
  have HW : Hid ((n + 3).tmod 7 + 7 + 1 = (n + 3) % 7 + 1) := hide (by omega)
  clear hv
  have HC := hide h.civ
  have HDO := hide (fun W => DayOf_yes n W hn0 hn1)
  obtain ⟨⟨gy0, gy1⟩, -, -, -, -, -, -, ⟨gj0, gj1⟩, -⟩ := h.good
  simp only [dMo] at gy0 gy1 gj0 gj1
  have gy2 : 1 ≤ y := h.civ.1
  have gc := h.civ.2.2.1
  obtain ⟨gz0, gz1⟩ := yb_le (y := y) (by omega) (by omega)
  have gj2 : 0 ≤ n - (yb y - 719162) := by omega
  have gj3 : n - (yb y - 719162) ≤ 366 := by omega
  have q1 : 0 ≤ r / 60 := by omega
  have HJ : Hid (n - (yb y - 719162) + 1 = n + 719162 - yb y + 1) := hide (by omega)
  have HYB := hide (fun W => yearBegin_any y W gy2 (by omega))
  clear hday hrest h gj0 gj1 gc ht hz
  go_enter Tryz.func24, Tryz.ntmps24
  go_wp2_with fail
  rw [HN.out, HR.out]
  refine (HDO.out _).mono ?_
  rintro e w' ⟨⟨y', m', d', hc, rfl⟩, rfl⟩
  obtain ⟨rfl, rfl, rfl⟩ := HC.out.one hc
  clear hc
  go_wp2_with fail
  refine (HYB.out _).mono ?_
  rintro e w' ⟨rfl, rfl⟩
  go_wp2_with fail
  (try simp only [Exit.inBlock, Exit.then])
  refine bodyPost_ret (results_dmo rfl _ _ w.heap.size (dMo n r t y m d) rfl ?_) rfl ⟨rfl, (Below.refl _ _).alloc (Nat.le_refl _) _⟩
  unfold dmoO dMo
  rw [heap_alloc_new]
  simp only
  rw [← HJ.out, ← HW.out]
set_option maxHeartbeats 2000000 in
set_option maxRecDepth 100000 in
theorem moment_np {t n r y d : Int} {m : Nat} (h : DIs t n r y m d) (w : World) (ht : t < 0) (hz : ¬ (-t) % 86400 = 0) (hlow : -9223372036854000000 ≤ t) (hw : 0 ≤ n + 3) :
    Calls Tryz.prog 24 #[.int .i64 t] w fun e w' => e = .returned (.tuple #[dmoV (dMo n r t y m d), .bool true]) ∧ Below w.heap.size w w' := by
  have hday := h.day
  have hrest := h.rest
  have hr0 := h.r0
  have hr1 := h.r1
  have hn0 := h.lo
  have hn1 := h.hi
  have ht0 := h.t0
  have ht1 := h.t1
  obtain ⟨hd, hm⟩ := neg_div ht
  have h2 : t.tmod 86400 < 0 := by omega
  have h7 : -9223372036854775808 ≤ t.tdiv 86400 - 1 := by omega
  have h8 : t.tdiv 86400 - 1 ≤ 9223372036854775807 := by omega
  have h3 : -9223372036854775808 ≤ (t.tdiv 86400 - 1) * 86400 := by omega
  have h4 : (t.tdiv 86400 - 1) * 86400 ≤ 9223372036854775807 := by omega
  have h5 : 0 ≤ t - (t.tdiv 86400 - 1) * 86400 := by omega
  have h6 : t - (t.tdiv 86400 - 1) * 86400 ≤ 86400 := by omega
  have HN : Hid (t.tdiv 86400 - 1 = n) := hide (by omega)
  have HR : Hid (t - n * 86400 = r) := hide (by rw [← hday, ← hrest]; omega)
  clear hd hm
  have g1 : 0 ≤ n + 3 := hw
  have g2 : ¬ (n + 3) % 7 < 0 := by omega
  have HW : Hid ((n + 3) % 7 + 1 = (n + 3) % 7 + 1) := hide rfl
  have HC := hide h.civ
  have HDO := hide (fun W => DayOf_yes n W hn0 hn1)
  obtain ⟨⟨gy0, gy1⟩, -, -, -, -, -, -, ⟨gj0, gj1⟩, -⟩ := h.good
  simp only [dMo] at gy0 gy1 gj0 gj1
  have gy2 : 1 ≤ y := h.civ.1
  have gc := h.civ.2.2.1
  obtain ⟨gz0, gz1⟩ := yb_le (y := y) (by omega) (by omega)
  have gj2 : 0 ≤ n - (yb y - 719162) := by omega
  have gj3 : n - (yb y - 719162) ≤ 366 := by omega
  have q1 : 0 ≤ r / 60 := by omega
  have HJ : Hid (n - (yb y - 719162) + 1 = n + 719162 - yb y + 1) := hide (by omega)
  have HYB := hide (fun W => yearBegin_any y W gy2 (by omega))
  clear hday hrest h gj0 gj1 gc ht hz hlow
  go_enter Tryz.func24, Tryz.ntmps24
  go_wp2_with fail
  rw [HN.out, HR.out]
  refine (HDO.out _).mono ?_
  rintro e w' ⟨⟨y', m', d', hc, rfl⟩, rfl⟩
  obtain ⟨rfl, rfl, rfl⟩ := HC.out.one hc
  clear hc
  go_wp2_with fail
  refine (HYB.out _).mono ?_
  rintro e w' ⟨rfl, rfl⟩
  go_wp2_with fail
  (try simp only [Exit.inBlock, Exit.then])
  refine bodyPost_ret (results_dmo rfl _ _ w.heap.size (dMo n r t y m d) rfl ?_) rfl ⟨rfl, (Below.refl _ _).alloc (Nat.le_refl _) _⟩
  unfold dmoO dMo
  rw [heap_alloc_new]
  simp only
  rw [← HJ.out]
set_option maxHeartbeats 2000000 in
set_option maxRecDepth 100000 in
theorem moment_nz {t n r y d : Int} {m : Nat} (h : DIs t n r y m d) (w : World) (ht : t < 0) (hz : ¬ (-t) % 86400 = 0) (hlow : -9223372036854000000 ≤ t) (hw : n + 3 < 0) (hs : (-(n + 3)) % 7 = 0) :
    Calls Tryz.prog 24 #[.int .i64 t] w fun e w' => e = .returned (.tuple #[dmoV (dMo n r t y m d), .bool true]) ∧ Below w.heap.size w w' := by
  have hday := h.day
  have hrest := h.rest
  have hr0 := h.r0
  have hr1 := h.r1
  have hn0 := h.lo
  have hn1 := h.hi
  have ht0 := h.t0
  have ht1 := h.t1
  obtain ⟨hd, hm⟩ := neg_div ht
  have h2 : t.tmod 86400 < 0 := by omega
  have h7 : -9223372036854775808 ≤ t.tdiv 86400 - 1 := by omega
  have h8 : t.tdiv 86400 - 1 ≤ 9223372036854775807 := by omega
  have h3 : -9223372036854775808 ≤ (t.tdiv 86400 - 1) * 86400 := by omega
  have h4 : (t.tdiv 86400 - 1) * 86400 ≤ 9223372036854775807 := by omega
  have h5 : 0 ≤ t - (t.tdiv 86400 - 1) * 86400 := by omega
  have h6 : t - (t.tdiv 86400 - 1) * 86400 ≤ 86400 := by omega
  have HN : Hid (t.tdiv 86400 - 1 = n) := hide (by omega)
  have HR : Hid (t - n * 86400 = r) := hide (by rw [← hday, ← hrest]; omega)
  clear hd hm
  have hv := neg_seven hw
  have g2 : ¬ (n + 3).tmod 7 < 0 := by omega
  have g3 : (n + 3).tmod 7 ≤ 7 := by omega
  have HW : Hid ((n + 3).tmod 7 + 1 = (n + 3) % 7 + 1) := hide (by omega)
  clear hv
  have HC := hide h.civ
  have HDO := hide (fun W => DayOf_yes n W hn0 hn1)
  obtain ⟨⟨gy0, gy1⟩, -, -, -, -, -, -, ⟨gj0, gj1⟩, -⟩ := h.good
  simp only [dMo] at gy0 gy1 gj0 gj1
  have gy2 : 1 ≤ y := h.civ.1
  have gc := h.civ.2.2.1
  obtain ⟨gz0, gz1⟩ := yb_le (y := y) (by omega) (by omega)
  have gj2 : 0 ≤ n - (yb y - 719162) := by omega
  have gj3 : n - (yb y - 719162) ≤ 366 := by omega
  have q1 : 0 ≤ r / 60 := by omega
  have HJ : Hid (n - (yb y - 719162) + 1 = n + 719162 - yb y + 1) := hide (by omega)
  have HYB := hide (fun W => yearBegin_any y W gy2 (by omega))
  clear hday hrest h gj0 gj1 gc ht hz hlow
  go_enter Tryz.func24, Tryz.ntmps24
  go_wp2_with fail
  rw [HN.out, HR.out]
  refine (HDO.out _).mono ?_
  rintro e w' ⟨⟨y', m', d', hc, rfl⟩, rfl⟩
  obtain ⟨rfl, rfl, rfl⟩ := HC.out.one hc
  clear hc
  go_wp2_with fail
  refine (HYB.out _).mono ?_
  rintro e w' ⟨rfl, rfl⟩
  go_wp2_with fail
  (try simp only [Exit.inBlock, Exit.then])
  refine bodyPost_ret (results_dmo rfl _ _ w.heap.size (dMo n r t y m d) rfl ?_) rfl ⟨rfl, (Below.refl _ _).alloc (Nat.le_refl _) _⟩
  unfold dmoO dMo
  rw [heap_alloc_new]
  simp only
  rw [← HJ.out, ← HW.out]
set_option maxHeartbeats 2000000 in
set_option maxRecDepth 100000 in
theorem moment_nn {t n r y d : Int} {m : Nat} (h : DIs t n r y m d) (w : World) (ht : t < 0) (hz : ¬ (-t) % 86400 = 0) (hlow : -9223372036854000000 ≤ t) (hw : n + 3 < 0) (hs : ¬ (-(n + 3)) % 7 = 0) :
    Calls Tryz.prog 24 #[.int .i64 t] w fun e w' => e = .returned (.tuple #[dmoV (dMo n r t y m d), .bool true]) ∧ Below w.heap.size w w' := by
  have hday := h.day
  have hrest := h.rest
  have hr0 := h.r0
  have hr1 := h.r1
  have hn0 := h.lo
  have hn1 := h.hi
  have ht0 := h.t0
  have ht1 := h.t1
  obtain ⟨hd, hm⟩ := neg_div ht
  have h2 : t.tmod 86400 < 0 := by omega
  have h7 : -9223372036854775808 ≤ t.tdiv 86400 - 1 := by omega
  have h8 : t.tdiv 86400 - 1 ≤ 9223372036854775807 := by omega
  have h3 : -9223372036854775808 ≤ (t.tdiv 86400 - 1) * 86400 := by omega
  have h4 : (t.tdiv 86400 - 1) * 86400 ≤ 9223372036854775807 := by omega
  have h5 : 0 ≤ t - (t.tdiv 86400 - 1) * 86400 := by omega
  have h6 : t - (t.tdiv 86400 - 1) * 86400 ≤ 86400 := by omega
  have HN : Hid (t.tdiv 86400 - 1 = n) := hide (by omega)
  have HR : Hid (t - n * 86400 = r) := hide (by rw [← hday, ← hrest]; omega)
  clear hd hm
  have hv := neg_seven hw
  have g2 : (n + 3).tmod 7 < 0 := by omega
  have g3 : 0 ≤ (n + 3).tmod 7 + 7 := by omega
  have g4 : (n + 3).tmod 7 + 7 ≤ 7 := by omega
  have HW : Hid ((n + 3).tmod 7 + 7 + 1 = (n + 3) % 7 + 1) := hide (by omega)
  clear hv
  have HC := hide h.civ
  have HDO := hide (fun W => DayOf_yes n W hn0 hn1)
  obtain ⟨⟨gy0, gy1⟩, -, -, -, -, -, -, ⟨gj0, gj1⟩, -⟩ := h.good
  simp only [dMo] at gy0 gy1 gj0 gj1
  have gy2 : 1 ≤ y := h.civ.1
  have gc := h.civ.2.2.1
  obtain ⟨gz0, gz1⟩ := yb_le (y := y) (by omega) (by omega)
  have gj2 : 0 ≤ n - (yb y - 719162) := by omega
  have gj3 : n - (yb y - 719162) ≤ 366 := by omega
  have q1 : 0 ≤ r / 60 := by omega
  have HJ : Hid (n - (yb y - 719162) + 1 = n + 719162 - yb y + 1) := hide (by omega)
  have HYB := hide (fun W => yearBegin_any y W gy2 (by omega))
  clear hday hrest h gj0 gj1 gc ht hz hlow
  go_enter Tryz.func24, Tryz.ntmps24
  go_wp2_with fail
  rw [HN.out, HR.out]
  refine (HDO.out _).mono ?_
  rintro e w' ⟨⟨y', m', d', hc, rfl⟩, rfl⟩
  obtain ⟨rfl, rfl, rfl⟩ := HC.out.one hc
  clear hc
  go_wp2_with fail
  refine (HYB.out _).mono ?_
  rintro e w' ⟨rfl, rfl⟩
  go_wp2_with fail
  (try simp only [Exit.inBlock, Exit.then])
  refine bodyPost_ret (results_dmo rfl _ _ w.heap.size (dMo n r t y m d) rfl ?_) rfl ⟨rfl, (Below.refl _ _).alloc (Nat.le_refl _) _⟩
  unfold dmoO dMo
  rw [heap_alloc_new]
  simp only
  rw [← HJ.out, ← HW.out]
theorem moment_yes {t n r y d : Int} {m : Nat} (h : DIs t n r y m d) (w : World) :
    Calls Tryz.prog 24 #[.int .i64 t] w fun e w' => e = .returned (.tuple #[dmoV (dMo n r t y m d), .bool true]) ∧ Below w.heap.size w w' := by
  have hday := h.day
  have hlo := h.lo
  rcases Int.lt_or_le t 0 with ht | ht
  · by_cases hz : (-t) % 86400 = 0
    · rcases Int.lt_or_le (n + 3) 0 with hw | hw
      · by_cases hs : (-(n + 3)) % 7 = 0
        · exact moment_zz h w ht hz hw hs
        · exact moment_zn h w ht hz hw hs
      · exact moment_zp h w ht hz hw
    · rcases Int.lt_or_le (n + 3) 0 with hw | hw
      · by_cases hs : (-(n + 3)) % 7 = 0
        · exact moment_nz h w ht hz (by omega) hw hs
        · exact moment_nn h w ht hz (by omega) hw hs
      · exact moment_np h w ht hz (by omega) hw
  · exact moment_pp h w ht (by omega)
set_option maxHeartbeats 2000000 in
set_option maxRecDepth 100000 in
theorem moment_no (t : Int) (w : World) (h0 : -9223372036854775808 ≤ t) (h1 : t ≤ 9223372036854775807) (hin : dInB t = false) :
    Calls Tryz.prog 24 #[.int .i64 t] w fun e w' => e = .returned (.tuple #[dmoV dmo0, .bool false]) ∧ Below w.heap.size w w' := by
  have hout : t / 86400 < -719162 ∨ 2932896 < t / 86400 := by
    unfold dInB at hin
    rcases Int.lt_or_le (t / 86400) (-719162) with h | h
    · exact .inl h
    · rcases Int.lt_or_le 2932896 (t / 86400) with h' | h'
      · exact .inr h'
      · simp [h, h'] at hin
  have HDO := hide (fun W => DayOf_no (t / 86400) W hout)
  clear hin hout
  obtain ⟨n, hn⟩ : ∃ n, t / 86400 = n := ⟨_, rfl⟩
  rw [hn] at HDO
  rcases Int.lt_or_le t 0 with ht | ht
  · obtain ⟨hd, hm⟩ := neg_div ht
    by_cases hz : (-t) % 86400 = 0
    · have h2 : ¬ t.tmod 86400 < 0 := by omega
      have HN : Hid (t.tdiv 86400 = n) := hide (by omega)
      clear hd hm hn hz ht
      go_enter Tryz.func24, Tryz.ntmps24
      go_wp2_with fail
      rw [HN.out]
      refine (HDO.out _).mono ?_
      rintro e w' ⟨rfl, rfl⟩
      go_wp2_with fail
      (try simp only [Exit.inBlock, Exit.then])
      exact bodyPost_ret (results_dmo rfl _ _ w.heap.size dmo0 rfl (by first | exact heap_alloc_new w _ | simp [heap_alloc_new, dmoO, dmo0])) rfl ⟨rfl, (Below.refl _ _).alloc (Nat.le_refl _) _⟩
    · have h2 : t.tmod 86400 < 0 := by omega
      have h7 : -9223372036854775808 ≤ t.tdiv 86400 - 1 := by omega
      have h8 : t.tdiv 86400 - 1 ≤ 9223372036854775807 := by omega
      have HN : Hid (t.tdiv 86400 - 1 = n) := hide (by omega)
      clear hd hm hn hz ht
      go_enter Tryz.func24, Tryz.ntmps24
      go_wp2_with fail
      rw [HN.out]
      refine (HDO.out _).mono ?_
      rintro e w' ⟨rfl, rfl⟩
      go_wp2_with fail
      (try simp only [Exit.inBlock, Exit.then])
      exact bodyPost_ret (results_dmo rfl _ _ w.heap.size dmo0 rfl (by first | exact heap_alloc_new w _ | simp [heap_alloc_new, dmoO, dmo0])) rfl ⟨rfl, (Below.refl _ _).alloc (Nat.le_refl _) _⟩
  · have h2 : ¬ t % 86400 < 0 := by omega
    have HN : Hid (t / 86400 = n) := hide hn
    clear hn
    go_enter Tryz.func24, Tryz.ntmps24
    go_wp2_with fail
    rw [HN.out]
    refine (HDO.out _).mono ?_
    rintro e w' ⟨rfl, rfl⟩
    go_wp2_with fail
    (try simp only [Exit.inBlock, Exit.then])
    exact bodyPost_ret (results_dmo rfl _ _ w.heap.size dmo0 rfl (by first | exact heap_alloc_new w _ | simp [heap_alloc_new, dmoO, dmo0])) rfl ⟨rfl, (Below.refl _ _).alloc (Nat.le_refl _) _⟩
end Go.Proofs.YtifpmigghplmoaaGreatDoor

/- DateD -/
set_option linter.unusedVariables false
set_option linter.unusedSimpArgs false
namespace Go.Pw
open Go.RowKit
def dmo1 : DMo := ⟨0, 1, 0, 0, 0, 0, 1, 0, 0⟩
theorem dmo1_good : dmo1.good := by unfold DMo.good dmo1; simp
theorem u8_ne {c : UInt8} {n : UInt8} (h : ¬ c = n) : ((c.toNat : Int) == (n.toNat : Int)) = false := by
  have : c.toNat ≠ n.toNat := fun e => h (UInt8.toNat_inj.1 e)
  simp; omega
end Go.Pw
namespace Go.Proofs.YtifpmigghplmoaaGreatDoor
open Go.RowKit Go.Pw
set_option maxHeartbeats 4000000 in
set_option maxRecDepth 100000 in
theorem dateFormat_any (s : ByteArray) (w : World) (hs : s.size ≤ 200) (hT : PowTab w) :
    Calls Tryz.prog 21 #[.string s] w fun e w' => e = .returned (.bool (dParse s.data.toList).isSome) ∧ Below w.heap.size w w' := by
  have HLS := hide (len_size s)
  have HY : Hid (∀ c, c ∈ dLetters → ∀ W, Below w.heap.size w W → Calls Tryz.prog 25 #[.agg #[.int .i64 0, .int .i64 1, .int .i64 0, .int .i64 0, .int .i64 0, .int .i64 0, .int .i64 1, .int .i64 0, .int .i64 0], .int .u8 (c.toNat : Int)] W fun e w' => e = .returned (.tuple #[.string (mkB (dTold dmo1 c)), .bool true]) ∧ Below W.heap.size W w') := hide (fun c hc W hb => part_any dmo1 dmo1_good c hc W (hT.below hb))
  have HNO : Hid (∀ c, c ∉ dLetters → ∀ W, Calls Tryz.prog 25 #[.agg #[.int .i64 0, .int .i64 1, .int .i64 0, .int .i64 0, .int .i64 0, .int .i64 0, .int .i64 1, .int .i64 0, .int .i64 0], .int .u8 (c.toNat : Int)] W fun e w' => e = .returned (.tuple #[.string ⟨#[]⟩, .bool false]) ∧ Below W.heap.size W w') := hide (fun c hc W => part_no dmo1 c hc W)
  clear hT
  go_enter Tryz.func21, Tryz.ntmps21
  go_wp2_with fail
  go_loopw [3] (fun i wr => ∃ (k : Nat) (ps : List (UInt8 × UInt8)), k ≤ s.size ∧ i = .int .i64 (k : Int) ∧ Hid (DAtI s.data.toList k ps) ∧ Hid (Below w.heap.size w wr)) (fun i _ => s.size - (intOf i).toNat)
  case atStart => exact ⟨0, [], by omega, rfl, hide (DAtI.start _), hide (Below.refl _ _)⟩
  case round =>
    obtain ⟨k, ps, hk, rfl, HI, HB⟩ := hrel
    by_cases hlt : k < s.size
    · have hd0 : (0 : Int) ≤ (k : Int) := by omega
      have hd1 : (k : Int) < (s.size : Int) := by omega
      by_cases hc : s[k] = 37
      · have hcf : ((s[k].toNat : Int) == 37) = true := by rw [hc]; rfl
        by_cases hlast : k + 1 = s.size
        · have HN := hide (HI.out.last (by rw [HLS.out]; exact hlast) hc)
          have hq : (s.size : Int) ≤ (k : Int) + 1 := by omega
          have HV : Hid ((dParse s.data.toList).isSome = false) := hide (by rw [HN.out]; rfl)
          clear hc
          go_wp2_with fail
          go_ret
          exact ⟨by rw [HV.out]; rfl, HB.out⟩
        · have hk1 : k + 1 < s.size := by omega
          have hq : ¬ (s.size : Int) ≤ (k : Int) + 1 := by omega
          have hd2 : (0 : Int) ≤ (k : Int) + 1 := by omega
          have hd3 : (k : Int) + 1 < (s.size : Int) := by omega
          have HC := hide hc
          clear hc
          by_cases hm : s[k + 1] ∈ dLetters
          · have HI2 := hide (HI.out.yes (by rw [HLS.out]; exact hk1) HC.out hm)
            have HP := hide (HY.out _ hm wr HB.out)
            clear hm
            go_wp2_with fail
            refine HP.out.mono ?_
            rintro e w1 ⟨rfl, hb1⟩
            have HB1 := hide (HB.out.trans (hb1.mono HB.out.size))
            clear hb1 HP
            go_wp2_with fail
            go_roundw
            case rel => exact ⟨k + 2, ps ++ [(s[k + 1], (0 : UInt8))], by omega, by go_num, HI2, HB1⟩
            case measure => simp [intOf]; omega
          · have HN := hide (HI.out.no (by rw [HLS.out]; exact hk1) HC.out hm)
            have HV : Hid ((dParse s.data.toList).isSome = false) := hide (by rw [HN.out]; rfl)
            have HP := hide (HNO.out _ hm wr)
            clear hm
            go_wp2_with fail
            refine HP.out.mono ?_
            rintro e w1 ⟨rfl, hb1⟩
            have HB1 := hide (HB.out.trans (hb1.mono HB.out.size))
            clear hb1 HP
            go_wp2_with fail
            go_ret
            exact ⟨by rw [HV.out]; rfl, HB1.out⟩
      · have hcf : ((s[k].toNat : Int) == 37) = false := u8_ne hc
        have HI2 := hide (HI.out.byte (by rw [HLS.out]; exact hlt) hc)
        go_wp2_with fail
        go_roundw
        case rel => exact ⟨k + 1, ps ++ [((0 : UInt8), s[k])], by omega, by go_num, HI2, HB⟩
        case measure => simp [intOf]; omega
    · have HD := hide (HI.out.done (by rw [HLS.out]; omega))
      have HV : Hid ((dParse s.data.toList).isSome = true) := hide (by rw [HD.out]; rfl)
      go_wp2_with fail
      go_ret
      exact ⟨by rw [HV.out]; rfl, HB.out⟩
end Go.Proofs.YtifpmigghplmoaaGreatDoor

/- DateE -/
set_option linter.unusedVariables false
set_option linter.unusedSimpArgs false
namespace Go.Pw
open Go.RowKit
theorem extract_one (s : ByteArray) (k : Nat) (h : k < s.size) : s.extract k (k + 1) = mkB [s[k]] := by
  have e : (s.extract k (k + 1)).data.toList = [s[k]] := by
    have h2 : k < s.data.toList.length := by rw [len_size]; exact h
    rw [ByteArray.data_extract, Array.toList_extract, List.extract_eq_take_drop, show k + 1 - k = 1 by omega, List.drop_eq_getElem_cons h2]
    rfl
  rw [← mkB_list (s.extract k (k + 1)), e]
theorem DEnv.cells9 {T : TypeId} {x : DMo} {w W : World} (h : DEnv T x w W) : (W.cell? ⟨w.heap.size, 0, none⟩ = some (.int .i64 x.y) ∧ W.cell? ⟨w.heap.size, 1, none⟩ = some (.int .i64 x.m) ∧ W.cell? ⟨w.heap.size, 2, none⟩ = some (.int .i64 x.d)) ∧ (W.cell? ⟨w.heap.size, 3, none⟩ = some (.int .i64 x.h) ∧ W.cell? ⟨w.heap.size, 4, none⟩ = some (.int .i64 x.mi) ∧ W.cell? ⟨w.heap.size, 5, none⟩ = some (.int .i64 x.s)) ∧ W.cell? ⟨w.heap.size, 6, none⟩ = some (.int .i64 x.wk) ∧ W.cell? ⟨w.heap.size, 7, none⟩ = some (.int .i64 x.day) ∧ W.cell? ⟨w.heap.size, 8, none⟩ = some (.int .i64 x.t) := by
  have hr := h.row
  unfold dmoO at hr
  refine ⟨⟨?_, ?_, ?_⟩, ⟨?_, ?_, ?_⟩, ?_, ?_, ?_⟩ <;> rw [cell_of_row _ _ _ _ _ _ hr] <;> rfl
end Go.Pw
namespace Go.Proofs.YtifpmigghplmoaaGreatDoor
open Go.RowKit Go.Pw
end Go.Proofs.YtifpmigghplmoaaGreatDoor
