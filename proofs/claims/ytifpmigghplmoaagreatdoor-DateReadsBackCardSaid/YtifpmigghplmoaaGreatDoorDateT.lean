/- A time is written by a format: what a directive tells: the program's own walk. -/
import Derived.Test.YtifpmigghplmoaaGreatDoorDateP
import Derived.Test.YtifpmigghplmoaaGreatDoorFill
import Derived.Test.YtifpmigghplmoaaGreatDoorItoa
import Derived.Shelf.Strings.SplitShaped
set_option linter.unusedVariables false
set_option linter.unusedSimpArgs false
namespace Go.Pw
open Go.RowKit
theorem fillS_itoa' (n : Int) (w : Nat) (z : Bool) : fillS (Lib.itoa n) w z = fillN n w z := by
  unfold fillS fillN
  cases z
  · rfl
  · by_cases h : n < 0
    · obtain ⟨h1, h2⟩ := itoa_cut_neg h
      rw [h1, h2]
      simp [h]
    · obtain ⟨h1, h2⟩ := itoa_cut_pos h
      rw [h1, h2]
      simp [h]
/-- a time lies on a day -/
structure DIs (t n r y : Int) (m : Nat) (d : Int) : Prop where
  civ : Civ n y m d
  lo : -719162 ≤ n
  hi : n ≤ 2932896
  r0 : 0 ≤ r
  r1 : r < 86400
  t0 : -9223372036854775808 ≤ t
  t1 : t ≤ 9223372036854775807
  day : t / 86400 = n
  rest : t % 86400 = r
theorem DIs.good {t n r y d : Int} {m : Nat} (h : DIs t n r y m d) : (dMo n r t y m d).good := h.civ.good ⟨h.r0, h.r1⟩ ⟨h.t0, h.t1⟩
end Go.Pw
namespace Go.Proofs.YtifpmigghplmoaaGreatDoor
open Go.RowKit Go.Pw
theorem wrap_small {x : Int} (h0 : -9223372036854775808 ≤ x) (h1 : x ≤ 9223372036854775807) : wrap64 x = x := by
  unfold wrap64; omega
theorem divided_any (t : Int) (w : World) (h0 : -9223372036854775808 ≤ t) (h1 : t ≤ 9223372036854775807) :
    Calls Tryz.prog 70 #[.int .i64 t] w fun e w' => e = .returned (.tuple #[.int .i64 (t / 86400), .int .i64 (t % 86400)]) ∧ w = w' := by
  by_cases hn : 0 ≤ t
  · have h2 : ¬ t % 86400 < 0 := by omega
    go_enter Tryz.func70, Tryz.ntmps70
    go_wp2_with fail
    go_ret2
    exact ⟨rfl, rfl⟩
  · obtain ⟨hd, hm⟩ : t.tdiv 86400 = -((-t) / 86400) ∧ t.tmod 86400 = -((-t) % 86400) := by
      obtain ⟨k, rfl⟩ : ∃ k : Nat, t = -(k : Int) := ⟨t.natAbs, by omega⟩
      rw [Int.neg_tdiv, Int.neg_tmod, Int.tdiv_eq_ediv_of_nonneg (by omega), Int.tmod_eq_emod_of_nonneg (by omega), Int.neg_neg]
      exact ⟨rfl, rfl⟩
    by_cases hr : (-t) % 86400 = 0
    · have HE : Hid (t.tdiv 86400 = t / 86400) := hide (by omega)
      have HF : Hid (t.tmod 86400 = t % 86400) := hide (by omega)
      have h3 : ¬ t.tmod 86400 < 0 := by omega
      clear hd hm hr hn
      go_enter Tryz.func70, Tryz.ntmps70
      go_wp2_with fail
      go_ret2
      exact ⟨by rw [← HE.out, ← HF.out]; rfl, rfl⟩
    · have HE : Hid (wrap64 (t.tdiv 86400 - 1) = t / 86400) := hide (by rw [wrap_small (by omega) (by omega)]; omega)
      have HF : Hid (wrap64 (t.tmod 86400 + 86400) = t % 86400) := hide (by rw [wrap_small (by omega) (by omega)]; omega)
      have h3 : t.tmod 86400 < 0 := by omega
      clear hd hm hr hn
      go_enter Tryz.func70, Tryz.ntmps70
      go_wp2_with fail
      go_ret2
      exact ⟨by rw [← HE.out, ← HF.out]; rfl, rfl⟩
theorem week_eq (n : Int) : (wrap64 (n.tmod 7 + 10)).tmod 7 = (n + 3) % 7 := by
  have h : n.tmod 7 = n % 7 ∨ n.tmod 7 = n % 7 - 7 := by
    rcases Int.lt_or_le n 0 with h | h
    · obtain ⟨k, rfl⟩ : ∃ k : Nat, n = -(k : Int) := ⟨n.natAbs, by omega⟩
      rw [Int.neg_tmod, Int.tmod_eq_emod_of_nonneg (by omega)]
      omega
    · rw [Int.tmod_eq_emod_of_nonneg h]; exact .inl rfl
  rw [wrap_small (by omega) (by omega), Int.tmod_eq_emod_of_nonneg (by omega)]
  omega
theorem civil_at {t n r y d : Int} {m : Nat} (h : DIs t n r y m d) (w : World) : Calls Tryz.prog 75 #[.int .i64 n] w fun e w' => e = .returned (.tuple #[.int .i64 y, .int .i64 (m : Int), .int .i64 d]) ∧ Below w.heap.size w w' :=
  (civil_any n w h.lo h.hi).mono fun e w' ⟨⟨y', m', d', hc, he⟩, hb⟩ => by
    obtain ⟨rfl, rfl, rfl⟩ := h.civ.one hc
    exact ⟨he, hb⟩
/-- the table of the blanks is as the start-up lays it -/
def SpTab (w : World) : Prop := Lib.TabIs Tryz.prog w "strings.asciiSpace" .u8 Lib.asciiSpaceTab
theorem SpTab.below {w w' : World} (h : SpTab w) (hb : Below w.heap.size w w') : SpTab w' := by
  have hg : Tryz.prog.globalNamed "strings.asciiSpace" = some 0 := by kernel_rfl
  unfold SpTab Lib.TabIs World.var? at h ⊢
  rw [hg] at h ⊢
  simp only [Option.bind_some] at h ⊢
  have hlt : 0 < w.heap.size := by
    rcases Nat.lt_or_ge 0 w.heap.size with h' | h'
    · exact h'
    · rw [Array.getElem?_eq_none h'] at h; cases h
  rw [hb.block _ hlt]
  exact h
def dayStr : ByteArray := ⟨#[77, 111, 110, 32, 84, 117, 101, 32, 87, 101, 100, 32, 84, 104, 117, 32, 70, 114, 105, 32, 83, 97, 116, 32, 83, 117, 110]⟩
def monStr : ByteArray := ⟨#[74, 97, 110, 32, 70, 101, 98, 32, 77, 97, 114, 32, 65, 112, 114, 32, 77, 97, 121, 32, 74, 117, 110, 32, 74, 117, 108, 32, 65, 117, 103, 32, 83, 101, 112, 32, 79, 99, 116, 32, 78, 111, 118, 32, 68, 101, 99]⟩
theorem days_any (w : World) (hS : SpTab w) : Calls Tryz.prog 78 #[.string dayStr] w fun e w' => e = .returned (.slice (some ⟨w.heap.size, 0, none⟩) 7 7) ∧ w' = w.alloc (.cells (dNames.map fun l => Value.string (mkB l)).toArray 9) := by
  have e : Lib.fields dayStr.data.toList = dNames := by decide +kernel
  have h7 : ∀ b ∈ dayStr.data.toList, b.toNat < 128 := by decide +kernel
  have := Tryz.strings_Fields_laid dayStr w (by decide) (fun j b hb => h7 b (List.mem_of_getElem? hb)) hS
  rw [e] at this
  exact this
theorem months_any (w : World) (hS : SpTab w) : Calls Tryz.prog 78 #[.string monStr] w fun e w' => e = .returned (.slice (some ⟨w.heap.size, 0, none⟩) 12 12) ∧ w' = w.alloc (.cells (mNames.map fun l => Value.string (mkB l)).toArray 9) := by
  have e : Lib.fields monStr.data.toList = mNames := by decide +kernel
  have h7 : ∀ b ∈ monStr.data.toList, b.toNat < 128 := by decide +kernel
  have := Tryz.strings_Fields_laid monStr w (by decide) (fun j b hb => h7 b (List.mem_of_getElem? hb)) hS
  rw [e] at this
  exact this
theorem days_cell (w : World) (t k : Nat) (hk : k < 7) : (w.alloc (.cells (dNames.map fun l => Value.string (mkB l)).toArray t)).cell? ⟨w.heap.size, k, none⟩ = some (.string (mkB (dNames.getD k []))) := by
  rw [cell_of_row _ _ _ _ _ _ (heap_alloc_new w _)]
  match k, hk with
  | 0, _ | 1, _ | 2, _ | 3, _ | 4, _ | 5, _ | 6, _ => rfl
theorem months_cell (w : World) (t k : Nat) (hk : k < 12) : (w.alloc (.cells (mNames.map fun l => Value.string (mkB l)).toArray t)).cell? ⟨w.heap.size, k, none⟩ = some (.string (mkB (mNames.getD k []))) := by
  rw [cell_of_row _ _ _ _ _ _ (heap_alloc_new w _)]
  match k, hk with
  | 0, _ | 1, _ | 2, _ | 3, _ | 4, _ | 5, _ | 6, _ | 7, _ | 8, _ | 9, _ | 10, _ | 11, _ => rfl
theorem padded_any (n : Int) (k : Nat) (z : Bool) (w : World) (h0 : -9223372036854775808 ≤ n) (h1 : n ≤ 9223372036854775807) (hk : k ≤ 1000) (hT : PowTab w) :
    Calls Tryz.prog 76 #[.int .i64 n, .int .i64 (k : Int)] w fun e w' => e = .returned (.string (mkB (fillN n k true))) ∧ Below w.heap.size w w' := by
  have hl := Lib.itoa_length_le n h0 h1
  have HI := hide (itoa_any n w h0 h1 hT)
  have HF := hide (fun W => filled_any ⟨(Lib.itoa n).toArray⟩ (k : Int) true W (by simp [ByteArray.size]; omega) (by omega) (by omega))
  have HE := hide (fillS_itoa' n k true)
  clear hl
  obtain ⟨q, hq⟩ : ∃ q, (⟨(Lib.itoa n).toArray⟩ : ByteArray) = q := ⟨_, rfl⟩
  simp only [hq] at HI HF
  clear hq
  go_enter Tryz.func76, Tryz.ntmps76
  go_wp2_with fail
  refine (HI.out).mono ?_
  rintro e w1 ⟨rfl, hb1⟩
  have HB1 := hide hb1
  clear hb1
  go_wp2_with fail
  refine (HF.out _).mono ?_
  rintro e w2 ⟨rfl, hb2⟩
  have HB2 := hide (HB1.out.trans (hb2.mono HB1.out.size))
  clear hb2
  go_wp2_with fail
  go_ret
  exact ⟨by rw [HE.out]; rfl, HB2.out⟩

set_option maxHeartbeats 2000000 in
set_option maxRecDepth 100000 in
theorem told_Y {t n r y d : Int} {m : Nat} (h : DIs t n r y m d) (w : World) (hT : PowTab w) :
    Calls Tryz.prog 32 #[.int .u8 89, .int .i64 t] w fun e w' => e = .returned (.string (mkB (dTold (dMo n r t y m d) 89))) ∧ Below w.heap.size w w' := by
  have HE : Hid (dTold (dMo n r t y m d) 89 = fillN (y) 4 true) := hide (by simp [dTold, dMo])
  have HDV : Hid (∀ W, Calls Tryz.prog 70 #[.int .i64 t] W fun e w' => e = .returned (.tuple #[.int .i64 n, .int .i64 r]) ∧ W = w') := hide (fun W => by
    have := divided_any t W h.t0 h.t1
    rw [h.day, h.rest] at this; exact this)
  have HCV := hide (fun W => civil_at h W)
  have HPD := hide (fun (v : Int) (k : Nat) W (hb : Below w.heap.size w W) h0 h1 hk => padded_any v k true W h0 h1 hk (hT.below hb))
  have HIT := hide (fun (v : Int) W (hb : Below w.heap.size w W) h0 h1 => itoa_any v W h0 h1 (hT.below hb))
  obtain ⟨⟨gy0, gy1⟩, ⟨gm0, gm1⟩, ⟨gd0, gd1⟩, ⟨gh0, gh1⟩, ⟨gi0, gi1⟩, ⟨gs0, gs1⟩, ⟨gw0, gw1⟩, ⟨gj0, gj1⟩, ⟨gt0, gt1⟩⟩ := h.good
  simp only [dMo] at gy0 gy1 gm0 gm1 gd0 gd1 gh0 gh1 gi0 gi1 gs0 gs1 gw0 gw1 gj0 gj1 gt0 gt1
  have gy2 : 1 ≤ y := h.civ.1
  have hn0 := h.lo
  have hn1 := h.hi
  have hr0 := h.r0
  have hr1 := h.r1
  have HWK := hide (week_eq n)
  obtain ⟨gz0, gz1⟩ := yb_le (y := y) (by omega) (by omega)
  have gc := h.civ.2.2.1
  have gj2 : 0 ≤ n - (yb y - 719162) := by omega
  have HWU : Hid (wrap64 ((n + 3) % 7 + 1) = (n + 3) % 7 + 1) := hide (wrap_small (by omega) (by omega))
  have gj3 : n - (yb y - 719162) ≤ 366 := by omega
  have HFY := hide (fun W => dayNumber_first y W (by omega) (by omega))
  have HFI : Hid (∀ W, Calls Tryz.prog 77 #[.string ⟨(Lib.itoa d).toArray⟩, .int .i64 2, .bool false] W fun e w' => e = .returned (.string (mkB (fillN d 2 false))) ∧ Below W.heap.size W w') := hide (fun W => by
    have hl := Lib.itoa_length_le d (by omega) (by omega)
    have := filled_any ⟨(Lib.itoa d).toArray⟩ 2 false W (by simp [ByteArray.size]; omega) (by omega) (by omega)
    rw [show fillS (⟨(Lib.itoa d).toArray⟩ : ByteArray).data.toList ((2 : Int)).toNat false = fillN d 2 false from fillS_itoa' d 2 false] at this
    exact this)
  clear h hT
  go_enter Tryz.func32, Tryz.ntmps32
  go_wp2_with fail
  refine (HDV.out _).mono ?_
  rintro e w' ⟨rfl, rfl⟩
  go_wp2_with fail
  refine (HCV.out _).mono ?_
  rintro e w1 ⟨rfl, hb1⟩
  have HB1 := hide hb1
  clear hb1
  go_wp2_with fail
  refine (HPD.out _ 4 _ HB1.out (by omega) (by omega) (by omega)).mono ?_
  rintro e w2 ⟨rfl, hb2⟩
  have HB2 := hide (HB1.out.trans (hb2.mono HB1.out.size))
  clear hb2
  go_wp2_with fail
  go_ret
  exact ⟨by rw [HE.out]; rfl, HB2.out⟩
set_option maxHeartbeats 2000000 in
set_option maxRecDepth 100000 in
theorem told_y {t n r y d : Int} {m : Nat} (h : DIs t n r y m d) (w : World) (hT : PowTab w) :
    Calls Tryz.prog 32 #[.int .u8 121, .int .i64 t] w fun e w' => e = .returned (.string (mkB (dTold (dMo n r t y m d) 121))) ∧ Below w.heap.size w w' := by
  have HE : Hid (dTold (dMo n r t y m d) 121 = fillN (y % 100) 2 true) := hide (by simp [dTold, dMo])
  have HDV : Hid (∀ W, Calls Tryz.prog 70 #[.int .i64 t] W fun e w' => e = .returned (.tuple #[.int .i64 n, .int .i64 r]) ∧ W = w') := hide (fun W => by
    have := divided_any t W h.t0 h.t1
    rw [h.day, h.rest] at this; exact this)
  have HCV := hide (fun W => civil_at h W)
  have HPD := hide (fun (v : Int) (k : Nat) W (hb : Below w.heap.size w W) h0 h1 hk => padded_any v k true W h0 h1 hk (hT.below hb))
  have HIT := hide (fun (v : Int) W (hb : Below w.heap.size w W) h0 h1 => itoa_any v W h0 h1 (hT.below hb))
  obtain ⟨⟨gy0, gy1⟩, ⟨gm0, gm1⟩, ⟨gd0, gd1⟩, ⟨gh0, gh1⟩, ⟨gi0, gi1⟩, ⟨gs0, gs1⟩, ⟨gw0, gw1⟩, ⟨gj0, gj1⟩, ⟨gt0, gt1⟩⟩ := h.good
  simp only [dMo] at gy0 gy1 gm0 gm1 gd0 gd1 gh0 gh1 gi0 gi1 gs0 gs1 gw0 gw1 gj0 gj1 gt0 gt1
  have gy2 : 1 ≤ y := h.civ.1
  have hn0 := h.lo
  have hn1 := h.hi
  have hr0 := h.r0
  have hr1 := h.r1
  have HWK := hide (week_eq n)
  obtain ⟨gz0, gz1⟩ := yb_le (y := y) (by omega) (by omega)
  have gc := h.civ.2.2.1
  have gj2 : 0 ≤ n - (yb y - 719162) := by omega
  have HWU : Hid (wrap64 ((n + 3) % 7 + 1) = (n + 3) % 7 + 1) := hide (wrap_small (by omega) (by omega))
  have gj3 : n - (yb y - 719162) ≤ 366 := by omega
  have HFY := hide (fun W => dayNumber_first y W (by omega) (by omega))
  have HFI : Hid (∀ W, Calls Tryz.prog 77 #[.string ⟨(Lib.itoa d).toArray⟩, .int .i64 2, .bool false] W fun e w' => e = .returned (.string (mkB (fillN d 2 false))) ∧ Below W.heap.size W w') := hide (fun W => by
    have hl := Lib.itoa_length_le d (by omega) (by omega)
    have := filled_any ⟨(Lib.itoa d).toArray⟩ 2 false W (by simp [ByteArray.size]; omega) (by omega) (by omega)
    rw [show fillS (⟨(Lib.itoa d).toArray⟩ : ByteArray).data.toList ((2 : Int)).toNat false = fillN d 2 false from fillS_itoa' d 2 false] at this
    exact this)
  clear h hT
  go_enter Tryz.func32, Tryz.ntmps32
  go_wp2_with fail
  refine (HDV.out _).mono ?_
  rintro e w' ⟨rfl, rfl⟩
  go_wp2_with fail
  refine (HCV.out _).mono ?_
  rintro e w1 ⟨rfl, hb1⟩
  have HB1 := hide hb1
  clear hb1
  go_wp2_with fail
  refine (HPD.out _ 2 _ HB1.out (by omega) (by omega) (by omega)).mono ?_
  rintro e w2 ⟨rfl, hb2⟩
  have HB2 := hide (HB1.out.trans (hb2.mono HB1.out.size))
  clear hb2
  go_wp2_with fail
  go_ret
  exact ⟨by rw [HE.out]; rfl, HB2.out⟩
set_option maxHeartbeats 2000000 in
set_option maxRecDepth 100000 in
theorem told_m {t n r y d : Int} {m : Nat} (h : DIs t n r y m d) (w : World) (hT : PowTab w) :
    Calls Tryz.prog 32 #[.int .u8 109, .int .i64 t] w fun e w' => e = .returned (.string (mkB (dTold (dMo n r t y m d) 109))) ∧ Below w.heap.size w w' := by
  have HE : Hid (dTold (dMo n r t y m d) 109 = fillN ((m : Int)) 2 true) := hide (by simp [dTold, dMo])
  have HDV : Hid (∀ W, Calls Tryz.prog 70 #[.int .i64 t] W fun e w' => e = .returned (.tuple #[.int .i64 n, .int .i64 r]) ∧ W = w') := hide (fun W => by
    have := divided_any t W h.t0 h.t1
    rw [h.day, h.rest] at this; exact this)
  have HCV := hide (fun W => civil_at h W)
  have HPD := hide (fun (v : Int) (k : Nat) W (hb : Below w.heap.size w W) h0 h1 hk => padded_any v k true W h0 h1 hk (hT.below hb))
  have HIT := hide (fun (v : Int) W (hb : Below w.heap.size w W) h0 h1 => itoa_any v W h0 h1 (hT.below hb))
  obtain ⟨⟨gy0, gy1⟩, ⟨gm0, gm1⟩, ⟨gd0, gd1⟩, ⟨gh0, gh1⟩, ⟨gi0, gi1⟩, ⟨gs0, gs1⟩, ⟨gw0, gw1⟩, ⟨gj0, gj1⟩, ⟨gt0, gt1⟩⟩ := h.good
  simp only [dMo] at gy0 gy1 gm0 gm1 gd0 gd1 gh0 gh1 gi0 gi1 gs0 gs1 gw0 gw1 gj0 gj1 gt0 gt1
  have gy2 : 1 ≤ y := h.civ.1
  have hn0 := h.lo
  have hn1 := h.hi
  have hr0 := h.r0
  have hr1 := h.r1
  have HWK := hide (week_eq n)
  obtain ⟨gz0, gz1⟩ := yb_le (y := y) (by omega) (by omega)
  have gc := h.civ.2.2.1
  have gj2 : 0 ≤ n - (yb y - 719162) := by omega
  have HWU : Hid (wrap64 ((n + 3) % 7 + 1) = (n + 3) % 7 + 1) := hide (wrap_small (by omega) (by omega))
  have gj3 : n - (yb y - 719162) ≤ 366 := by omega
  have HFY := hide (fun W => dayNumber_first y W (by omega) (by omega))
  have HFI : Hid (∀ W, Calls Tryz.prog 77 #[.string ⟨(Lib.itoa d).toArray⟩, .int .i64 2, .bool false] W fun e w' => e = .returned (.string (mkB (fillN d 2 false))) ∧ Below W.heap.size W w') := hide (fun W => by
    have hl := Lib.itoa_length_le d (by omega) (by omega)
    have := filled_any ⟨(Lib.itoa d).toArray⟩ 2 false W (by simp [ByteArray.size]; omega) (by omega) (by omega)
    rw [show fillS (⟨(Lib.itoa d).toArray⟩ : ByteArray).data.toList ((2 : Int)).toNat false = fillN d 2 false from fillS_itoa' d 2 false] at this
    exact this)
  clear h hT
  go_enter Tryz.func32, Tryz.ntmps32
  go_wp2_with fail
  refine (HDV.out _).mono ?_
  rintro e w' ⟨rfl, rfl⟩
  go_wp2_with fail
  refine (HCV.out _).mono ?_
  rintro e w1 ⟨rfl, hb1⟩
  have HB1 := hide hb1
  clear hb1
  go_wp2_with fail
  refine (HPD.out _ 2 _ HB1.out (by omega) (by omega) (by omega)).mono ?_
  rintro e w2 ⟨rfl, hb2⟩
  have HB2 := hide (HB1.out.trans (hb2.mono HB1.out.size))
  clear hb2
  go_wp2_with fail
  go_ret
  exact ⟨by rw [HE.out]; rfl, HB2.out⟩
set_option maxHeartbeats 2000000 in
set_option maxRecDepth 100000 in
theorem told_d {t n r y d : Int} {m : Nat} (h : DIs t n r y m d) (w : World) (hT : PowTab w) :
    Calls Tryz.prog 32 #[.int .u8 100, .int .i64 t] w fun e w' => e = .returned (.string (mkB (dTold (dMo n r t y m d) 100))) ∧ Below w.heap.size w w' := by
  have HE : Hid (dTold (dMo n r t y m d) 100 = fillN (d) 2 true) := hide (by simp [dTold, dMo])
  have HDV : Hid (∀ W, Calls Tryz.prog 70 #[.int .i64 t] W fun e w' => e = .returned (.tuple #[.int .i64 n, .int .i64 r]) ∧ W = w') := hide (fun W => by
    have := divided_any t W h.t0 h.t1
    rw [h.day, h.rest] at this; exact this)
  have HCV := hide (fun W => civil_at h W)
  have HPD := hide (fun (v : Int) (k : Nat) W (hb : Below w.heap.size w W) h0 h1 hk => padded_any v k true W h0 h1 hk (hT.below hb))
  have HIT := hide (fun (v : Int) W (hb : Below w.heap.size w W) h0 h1 => itoa_any v W h0 h1 (hT.below hb))
  obtain ⟨⟨gy0, gy1⟩, ⟨gm0, gm1⟩, ⟨gd0, gd1⟩, ⟨gh0, gh1⟩, ⟨gi0, gi1⟩, ⟨gs0, gs1⟩, ⟨gw0, gw1⟩, ⟨gj0, gj1⟩, ⟨gt0, gt1⟩⟩ := h.good
  simp only [dMo] at gy0 gy1 gm0 gm1 gd0 gd1 gh0 gh1 gi0 gi1 gs0 gs1 gw0 gw1 gj0 gj1 gt0 gt1
  have gy2 : 1 ≤ y := h.civ.1
  have hn0 := h.lo
  have hn1 := h.hi
  have hr0 := h.r0
  have hr1 := h.r1
  have HWK := hide (week_eq n)
  obtain ⟨gz0, gz1⟩ := yb_le (y := y) (by omega) (by omega)
  have gc := h.civ.2.2.1
  have gj2 : 0 ≤ n - (yb y - 719162) := by omega
  have HWU : Hid (wrap64 ((n + 3) % 7 + 1) = (n + 3) % 7 + 1) := hide (wrap_small (by omega) (by omega))
  have gj3 : n - (yb y - 719162) ≤ 366 := by omega
  have HFY := hide (fun W => dayNumber_first y W (by omega) (by omega))
  have HFI : Hid (∀ W, Calls Tryz.prog 77 #[.string ⟨(Lib.itoa d).toArray⟩, .int .i64 2, .bool false] W fun e w' => e = .returned (.string (mkB (fillN d 2 false))) ∧ Below W.heap.size W w') := hide (fun W => by
    have hl := Lib.itoa_length_le d (by omega) (by omega)
    have := filled_any ⟨(Lib.itoa d).toArray⟩ 2 false W (by simp [ByteArray.size]; omega) (by omega) (by omega)
    rw [show fillS (⟨(Lib.itoa d).toArray⟩ : ByteArray).data.toList ((2 : Int)).toNat false = fillN d 2 false from fillS_itoa' d 2 false] at this
    exact this)
  clear h hT
  go_enter Tryz.func32, Tryz.ntmps32
  go_wp2_with fail
  refine (HDV.out _).mono ?_
  rintro e w' ⟨rfl, rfl⟩
  go_wp2_with fail
  refine (HCV.out _).mono ?_
  rintro e w1 ⟨rfl, hb1⟩
  have HB1 := hide hb1
  clear hb1
  go_wp2_with fail
  refine (HPD.out _ 2 _ HB1.out (by omega) (by omega) (by omega)).mono ?_
  rintro e w2 ⟨rfl, hb2⟩
  have HB2 := hide (HB1.out.trans (hb2.mono HB1.out.size))
  clear hb2
  go_wp2_with fail
  go_ret
  exact ⟨by rw [HE.out]; rfl, HB2.out⟩
set_option maxHeartbeats 2000000 in
set_option maxRecDepth 100000 in
theorem told_H {t n r y d : Int} {m : Nat} (h : DIs t n r y m d) (w : World) (hT : PowTab w) :
    Calls Tryz.prog 32 #[.int .u8 72, .int .i64 t] w fun e w' => e = .returned (.string (mkB (dTold (dMo n r t y m d) 72))) ∧ Below w.heap.size w w' := by
  have HE : Hid (dTold (dMo n r t y m d) 72 = fillN (r / 3600) 2 true) := hide (by simp [dTold, dMo])
  have HDV : Hid (∀ W, Calls Tryz.prog 70 #[.int .i64 t] W fun e w' => e = .returned (.tuple #[.int .i64 n, .int .i64 r]) ∧ W = w') := hide (fun W => by
    have := divided_any t W h.t0 h.t1
    rw [h.day, h.rest] at this; exact this)
  have HCV := hide (fun W => civil_at h W)
  have HPD := hide (fun (v : Int) (k : Nat) W (hb : Below w.heap.size w W) h0 h1 hk => padded_any v k true W h0 h1 hk (hT.below hb))
  have HIT := hide (fun (v : Int) W (hb : Below w.heap.size w W) h0 h1 => itoa_any v W h0 h1 (hT.below hb))
  obtain ⟨⟨gy0, gy1⟩, ⟨gm0, gm1⟩, ⟨gd0, gd1⟩, ⟨gh0, gh1⟩, ⟨gi0, gi1⟩, ⟨gs0, gs1⟩, ⟨gw0, gw1⟩, ⟨gj0, gj1⟩, ⟨gt0, gt1⟩⟩ := h.good
  simp only [dMo] at gy0 gy1 gm0 gm1 gd0 gd1 gh0 gh1 gi0 gi1 gs0 gs1 gw0 gw1 gj0 gj1 gt0 gt1
  have gy2 : 1 ≤ y := h.civ.1
  have hn0 := h.lo
  have hn1 := h.hi
  have hr0 := h.r0
  have hr1 := h.r1
  have HWK := hide (week_eq n)
  obtain ⟨gz0, gz1⟩ := yb_le (y := y) (by omega) (by omega)
  have gc := h.civ.2.2.1
  have gj2 : 0 ≤ n - (yb y - 719162) := by omega
  have HWU : Hid (wrap64 ((n + 3) % 7 + 1) = (n + 3) % 7 + 1) := hide (wrap_small (by omega) (by omega))
  have gj3 : n - (yb y - 719162) ≤ 366 := by omega
  have HFY := hide (fun W => dayNumber_first y W (by omega) (by omega))
  have HFI : Hid (∀ W, Calls Tryz.prog 77 #[.string ⟨(Lib.itoa d).toArray⟩, .int .i64 2, .bool false] W fun e w' => e = .returned (.string (mkB (fillN d 2 false))) ∧ Below W.heap.size W w') := hide (fun W => by
    have hl := Lib.itoa_length_le d (by omega) (by omega)
    have := filled_any ⟨(Lib.itoa d).toArray⟩ 2 false W (by simp [ByteArray.size]; omega) (by omega) (by omega)
    rw [show fillS (⟨(Lib.itoa d).toArray⟩ : ByteArray).data.toList ((2 : Int)).toNat false = fillN d 2 false from fillS_itoa' d 2 false] at this
    exact this)
  clear h hT
  go_enter Tryz.func32, Tryz.ntmps32
  go_wp2_with fail
  refine (HDV.out _).mono ?_
  rintro e w' ⟨rfl, rfl⟩
  go_wp2_with fail
  refine (HCV.out _).mono ?_
  rintro e w1 ⟨rfl, hb1⟩
  have HB1 := hide hb1
  clear hb1
  go_wp2_with fail
  refine (HPD.out _ 2 _ HB1.out (by omega) (by omega) (by omega)).mono ?_
  rintro e w2 ⟨rfl, hb2⟩
  have HB2 := hide (HB1.out.trans (hb2.mono HB1.out.size))
  clear hb2
  go_wp2_with fail
  go_ret
  exact ⟨by rw [HE.out]; rfl, HB2.out⟩
set_option maxHeartbeats 2000000 in
set_option maxRecDepth 100000 in
theorem told_M {t n r y d : Int} {m : Nat} (h : DIs t n r y m d) (w : World) (hT : PowTab w) :
    Calls Tryz.prog 32 #[.int .u8 77, .int .i64 t] w fun e w' => e = .returned (.string (mkB (dTold (dMo n r t y m d) 77))) ∧ Below w.heap.size w w' := by
  have HE : Hid (dTold (dMo n r t y m d) 77 = fillN (r / 60 % 60) 2 true) := hide (by simp [dTold, dMo])
  have HDV : Hid (∀ W, Calls Tryz.prog 70 #[.int .i64 t] W fun e w' => e = .returned (.tuple #[.int .i64 n, .int .i64 r]) ∧ W = w') := hide (fun W => by
    have := divided_any t W h.t0 h.t1
    rw [h.day, h.rest] at this; exact this)
  have HCV := hide (fun W => civil_at h W)
  have HPD := hide (fun (v : Int) (k : Nat) W (hb : Below w.heap.size w W) h0 h1 hk => padded_any v k true W h0 h1 hk (hT.below hb))
  have HIT := hide (fun (v : Int) W (hb : Below w.heap.size w W) h0 h1 => itoa_any v W h0 h1 (hT.below hb))
  obtain ⟨⟨gy0, gy1⟩, ⟨gm0, gm1⟩, ⟨gd0, gd1⟩, ⟨gh0, gh1⟩, ⟨gi0, gi1⟩, ⟨gs0, gs1⟩, ⟨gw0, gw1⟩, ⟨gj0, gj1⟩, ⟨gt0, gt1⟩⟩ := h.good
  simp only [dMo] at gy0 gy1 gm0 gm1 gd0 gd1 gh0 gh1 gi0 gi1 gs0 gs1 gw0 gw1 gj0 gj1 gt0 gt1
  have gy2 : 1 ≤ y := h.civ.1
  have hn0 := h.lo
  have hn1 := h.hi
  have hr0 := h.r0
  have hr1 := h.r1
  have HWK := hide (week_eq n)
  obtain ⟨gz0, gz1⟩ := yb_le (y := y) (by omega) (by omega)
  have gc := h.civ.2.2.1
  have gj2 : 0 ≤ n - (yb y - 719162) := by omega
  have HWU : Hid (wrap64 ((n + 3) % 7 + 1) = (n + 3) % 7 + 1) := hide (wrap_small (by omega) (by omega))
  have gj3 : n - (yb y - 719162) ≤ 366 := by omega
  have HFY := hide (fun W => dayNumber_first y W (by omega) (by omega))
  have HFI : Hid (∀ W, Calls Tryz.prog 77 #[.string ⟨(Lib.itoa d).toArray⟩, .int .i64 2, .bool false] W fun e w' => e = .returned (.string (mkB (fillN d 2 false))) ∧ Below W.heap.size W w') := hide (fun W => by
    have hl := Lib.itoa_length_le d (by omega) (by omega)
    have := filled_any ⟨(Lib.itoa d).toArray⟩ 2 false W (by simp [ByteArray.size]; omega) (by omega) (by omega)
    rw [show fillS (⟨(Lib.itoa d).toArray⟩ : ByteArray).data.toList ((2 : Int)).toNat false = fillN d 2 false from fillS_itoa' d 2 false] at this
    exact this)
  clear h hT
  go_enter Tryz.func32, Tryz.ntmps32
  go_wp2_with fail
  refine (HDV.out _).mono ?_
  rintro e w' ⟨rfl, rfl⟩
  go_wp2_with fail
  refine (HCV.out _).mono ?_
  rintro e w1 ⟨rfl, hb1⟩
  have HB1 := hide hb1
  clear hb1
  go_wp2_with fail
  refine (HPD.out _ 2 _ HB1.out (by omega) (by omega) (by omega)).mono ?_
  rintro e w2 ⟨rfl, hb2⟩
  have HB2 := hide (HB1.out.trans (hb2.mono HB1.out.size))
  clear hb2
  go_wp2_with fail
  go_ret
  exact ⟨by rw [HE.out]; rfl, HB2.out⟩
set_option maxHeartbeats 2000000 in
set_option maxRecDepth 100000 in
theorem told_S {t n r y d : Int} {m : Nat} (h : DIs t n r y m d) (w : World) (hT : PowTab w) :
    Calls Tryz.prog 32 #[.int .u8 83, .int .i64 t] w fun e w' => e = .returned (.string (mkB (dTold (dMo n r t y m d) 83))) ∧ Below w.heap.size w w' := by
  have HE : Hid (dTold (dMo n r t y m d) 83 = fillN (r % 60) 2 true) := hide (by simp [dTold, dMo])
  have HDV : Hid (∀ W, Calls Tryz.prog 70 #[.int .i64 t] W fun e w' => e = .returned (.tuple #[.int .i64 n, .int .i64 r]) ∧ W = w') := hide (fun W => by
    have := divided_any t W h.t0 h.t1
    rw [h.day, h.rest] at this; exact this)
  have HCV := hide (fun W => civil_at h W)
  have HPD := hide (fun (v : Int) (k : Nat) W (hb : Below w.heap.size w W) h0 h1 hk => padded_any v k true W h0 h1 hk (hT.below hb))
  have HIT := hide (fun (v : Int) W (hb : Below w.heap.size w W) h0 h1 => itoa_any v W h0 h1 (hT.below hb))
  obtain ⟨⟨gy0, gy1⟩, ⟨gm0, gm1⟩, ⟨gd0, gd1⟩, ⟨gh0, gh1⟩, ⟨gi0, gi1⟩, ⟨gs0, gs1⟩, ⟨gw0, gw1⟩, ⟨gj0, gj1⟩, ⟨gt0, gt1⟩⟩ := h.good
  simp only [dMo] at gy0 gy1 gm0 gm1 gd0 gd1 gh0 gh1 gi0 gi1 gs0 gs1 gw0 gw1 gj0 gj1 gt0 gt1
  have gy2 : 1 ≤ y := h.civ.1
  have hn0 := h.lo
  have hn1 := h.hi
  have hr0 := h.r0
  have hr1 := h.r1
  have HWK := hide (week_eq n)
  obtain ⟨gz0, gz1⟩ := yb_le (y := y) (by omega) (by omega)
  have gc := h.civ.2.2.1
  have gj2 : 0 ≤ n - (yb y - 719162) := by omega
  have HWU : Hid (wrap64 ((n + 3) % 7 + 1) = (n + 3) % 7 + 1) := hide (wrap_small (by omega) (by omega))
  have gj3 : n - (yb y - 719162) ≤ 366 := by omega
  have HFY := hide (fun W => dayNumber_first y W (by omega) (by omega))
  have HFI : Hid (∀ W, Calls Tryz.prog 77 #[.string ⟨(Lib.itoa d).toArray⟩, .int .i64 2, .bool false] W fun e w' => e = .returned (.string (mkB (fillN d 2 false))) ∧ Below W.heap.size W w') := hide (fun W => by
    have hl := Lib.itoa_length_le d (by omega) (by omega)
    have := filled_any ⟨(Lib.itoa d).toArray⟩ 2 false W (by simp [ByteArray.size]; omega) (by omega) (by omega)
    rw [show fillS (⟨(Lib.itoa d).toArray⟩ : ByteArray).data.toList ((2 : Int)).toNat false = fillN d 2 false from fillS_itoa' d 2 false] at this
    exact this)
  clear h hT
  go_enter Tryz.func32, Tryz.ntmps32
  go_wp2_with fail
  refine (HDV.out _).mono ?_
  rintro e w' ⟨rfl, rfl⟩
  go_wp2_with fail
  refine (HCV.out _).mono ?_
  rintro e w1 ⟨rfl, hb1⟩
  have HB1 := hide hb1
  clear hb1
  go_wp2_with fail
  refine (HPD.out _ 2 _ HB1.out (by omega) (by omega) (by omega)).mono ?_
  rintro e w2 ⟨rfl, hb2⟩
  have HB2 := hide (HB1.out.trans (hb2.mono HB1.out.size))
  clear hb2
  go_wp2_with fail
  go_ret
  exact ⟨by rw [HE.out]; rfl, HB2.out⟩
set_option maxHeartbeats 2000000 in
set_option maxRecDepth 100000 in
theorem told_j {t n r y d : Int} {m : Nat} (h : DIs t n r y m d) (w : World) (hT : PowTab w) :
    Calls Tryz.prog 32 #[.int .u8 106, .int .i64 t] w fun e w' => e = .returned (.string (mkB (dTold (dMo n r t y m d) 106))) ∧ Below w.heap.size w w' := by
  have HE : Hid (dTold (dMo n r t y m d) 106 = fillN (n - (yb y - 719162) + 1) 3 true) := hide (by simp [dTold, dMo]; congr 1; omega)
  have HDV : Hid (∀ W, Calls Tryz.prog 70 #[.int .i64 t] W fun e w' => e = .returned (.tuple #[.int .i64 n, .int .i64 r]) ∧ W = w') := hide (fun W => by
    have := divided_any t W h.t0 h.t1
    rw [h.day, h.rest] at this; exact this)
  have HCV := hide (fun W => civil_at h W)
  have HPD := hide (fun (v : Int) (k : Nat) W (hb : Below w.heap.size w W) h0 h1 hk => padded_any v k true W h0 h1 hk (hT.below hb))
  have HIT := hide (fun (v : Int) W (hb : Below w.heap.size w W) h0 h1 => itoa_any v W h0 h1 (hT.below hb))
  obtain ⟨⟨gy0, gy1⟩, ⟨gm0, gm1⟩, ⟨gd0, gd1⟩, ⟨gh0, gh1⟩, ⟨gi0, gi1⟩, ⟨gs0, gs1⟩, ⟨gw0, gw1⟩, ⟨gj0, gj1⟩, ⟨gt0, gt1⟩⟩ := h.good
  simp only [dMo] at gy0 gy1 gm0 gm1 gd0 gd1 gh0 gh1 gi0 gi1 gs0 gs1 gw0 gw1 gj0 gj1 gt0 gt1
  have gy2 : 1 ≤ y := h.civ.1
  have hn0 := h.lo
  have hn1 := h.hi
  have hr0 := h.r0
  have hr1 := h.r1
  have HWK := hide (week_eq n)
  obtain ⟨gz0, gz1⟩ := yb_le (y := y) (by omega) (by omega)
  have gc := h.civ.2.2.1
  have gj2 : 0 ≤ n - (yb y - 719162) := by omega
  have HWU : Hid (wrap64 ((n + 3) % 7 + 1) = (n + 3) % 7 + 1) := hide (wrap_small (by omega) (by omega))
  have gj3 : n - (yb y - 719162) ≤ 366 := by omega
  have HFY := hide (fun W => dayNumber_first y W (by omega) (by omega))
  have HFI : Hid (∀ W, Calls Tryz.prog 77 #[.string ⟨(Lib.itoa d).toArray⟩, .int .i64 2, .bool false] W fun e w' => e = .returned (.string (mkB (fillN d 2 false))) ∧ Below W.heap.size W w') := hide (fun W => by
    have hl := Lib.itoa_length_le d (by omega) (by omega)
    have := filled_any ⟨(Lib.itoa d).toArray⟩ 2 false W (by simp [ByteArray.size]; omega) (by omega) (by omega)
    rw [show fillS (⟨(Lib.itoa d).toArray⟩ : ByteArray).data.toList ((2 : Int)).toNat false = fillN d 2 false from fillS_itoa' d 2 false] at this
    exact this)
  clear h hT
  go_enter Tryz.func32, Tryz.ntmps32
  go_wp2_with fail
  refine (HDV.out _).mono ?_
  rintro e w' ⟨rfl, rfl⟩
  go_wp2_with fail
  refine (HCV.out _).mono ?_
  rintro e w1 ⟨rfl, hb1⟩
  have HB1 := hide hb1
  clear hb1
  go_wp2_with fail
  refine (HFY.out _).mono ?_
  rintro e w2 ⟨rfl, hb2⟩
  have HB2 := hide (HB1.out.trans (hb2.mono HB1.out.size))
  clear hb2
  go_wp2_with fail
  refine (HPD.out _ 3 _ HB2.out (by omega) (by omega) (by omega)).mono ?_
  rintro e w3 ⟨rfl, hb3⟩
  have HB3 := hide (HB2.out.trans (hb3.mono HB2.out.size))
  clear hb3
  go_wp2_with fail
  go_ret
  exact ⟨by rw [HE.out]; rfl, HB3.out⟩
set_option maxHeartbeats 2000000 in
set_option maxRecDepth 100000 in
theorem told_e {t n r y d : Int} {m : Nat} (h : DIs t n r y m d) (w : World) (hT : PowTab w) :
    Calls Tryz.prog 32 #[.int .u8 101, .int .i64 t] w fun e w' => e = .returned (.string (mkB (dTold (dMo n r t y m d) 101))) ∧ Below w.heap.size w w' := by
  have HE : Hid (dTold (dMo n r t y m d) 101 = fillN d 2 false) := hide (by simp [dTold, dMo])
  have HDV : Hid (∀ W, Calls Tryz.prog 70 #[.int .i64 t] W fun e w' => e = .returned (.tuple #[.int .i64 n, .int .i64 r]) ∧ W = w') := hide (fun W => by
    have := divided_any t W h.t0 h.t1
    rw [h.day, h.rest] at this; exact this)
  have HCV := hide (fun W => civil_at h W)
  have HPD := hide (fun (v : Int) (k : Nat) W (hb : Below w.heap.size w W) h0 h1 hk => padded_any v k true W h0 h1 hk (hT.below hb))
  have HIT := hide (fun (v : Int) W (hb : Below w.heap.size w W) h0 h1 => itoa_any v W h0 h1 (hT.below hb))
  obtain ⟨⟨gy0, gy1⟩, ⟨gm0, gm1⟩, ⟨gd0, gd1⟩, ⟨gh0, gh1⟩, ⟨gi0, gi1⟩, ⟨gs0, gs1⟩, ⟨gw0, gw1⟩, ⟨gj0, gj1⟩, ⟨gt0, gt1⟩⟩ := h.good
  simp only [dMo] at gy0 gy1 gm0 gm1 gd0 gd1 gh0 gh1 gi0 gi1 gs0 gs1 gw0 gw1 gj0 gj1 gt0 gt1
  have gy2 : 1 ≤ y := h.civ.1
  have hn0 := h.lo
  have hn1 := h.hi
  have hr0 := h.r0
  have hr1 := h.r1
  have HWK := hide (week_eq n)
  obtain ⟨gz0, gz1⟩ := yb_le (y := y) (by omega) (by omega)
  have gc := h.civ.2.2.1
  have gj2 : 0 ≤ n - (yb y - 719162) := by omega
  have HWU : Hid (wrap64 ((n + 3) % 7 + 1) = (n + 3) % 7 + 1) := hide (wrap_small (by omega) (by omega))
  have gj3 : n - (yb y - 719162) ≤ 366 := by omega
  have HFY := hide (fun W => dayNumber_first y W (by omega) (by omega))
  have HFI : Hid (∀ W, Calls Tryz.prog 77 #[.string ⟨(Lib.itoa d).toArray⟩, .int .i64 2, .bool false] W fun e w' => e = .returned (.string (mkB (fillN d 2 false))) ∧ Below W.heap.size W w') := hide (fun W => by
    have hl := Lib.itoa_length_le d (by omega) (by omega)
    have := filled_any ⟨(Lib.itoa d).toArray⟩ 2 false W (by simp [ByteArray.size]; omega) (by omega) (by omega)
    rw [show fillS (⟨(Lib.itoa d).toArray⟩ : ByteArray).data.toList ((2 : Int)).toNat false = fillN d 2 false from fillS_itoa' d 2 false] at this
    exact this)
  clear h hT
  go_enter Tryz.func32, Tryz.ntmps32
  go_wp2_with fail
  refine (HDV.out _).mono ?_
  rintro e w' ⟨rfl, rfl⟩
  go_wp2_with fail
  refine (HCV.out _).mono ?_
  rintro e w1 ⟨rfl, hb1⟩
  have HB1 := hide hb1
  clear hb1
  go_wp2_with fail
  refine (HIT.out _ _ HB1.out (by omega) (by omega)).mono ?_
  rintro e w2 ⟨rfl, hb2⟩
  have HB2 := hide (HB1.out.trans (hb2.mono HB1.out.size))
  clear hb2
  go_wp2_with fail
  refine (HFI.out _).mono ?_
  rintro e w3 ⟨rfl, hb3⟩
  have HB3 := hide (HB2.out.trans (hb3.mono HB2.out.size))
  clear hb3
  go_wp2_with fail
  go_ret
  exact ⟨by rw [HE.out]; rfl, HB3.out⟩
set_option maxHeartbeats 2000000 in
set_option maxRecDepth 100000 in
theorem told_u {t n r y d : Int} {m : Nat} (h : DIs t n r y m d) (w : World) (hT : PowTab w) :
    Calls Tryz.prog 32 #[.int .u8 117, .int .i64 t] w fun e w' => e = .returned (.string (mkB (dTold (dMo n r t y m d) 117))) ∧ Below w.heap.size w w' := by
  have HE : Hid (dTold (dMo n r t y m d) 117 = Lib.itoa ((n + 3) % 7 + 1)) := hide (by simp [dTold, dMo])
  have HDV : Hid (∀ W, Calls Tryz.prog 70 #[.int .i64 t] W fun e w' => e = .returned (.tuple #[.int .i64 n, .int .i64 r]) ∧ W = w') := hide (fun W => by
    have := divided_any t W h.t0 h.t1
    rw [h.day, h.rest] at this; exact this)
  have HCV := hide (fun W => civil_at h W)
  have HPD := hide (fun (v : Int) (k : Nat) W (hb : Below w.heap.size w W) h0 h1 hk => padded_any v k true W h0 h1 hk (hT.below hb))
  have HIT := hide (fun (v : Int) W (hb : Below w.heap.size w W) h0 h1 => itoa_any v W h0 h1 (hT.below hb))
  obtain ⟨⟨gy0, gy1⟩, ⟨gm0, gm1⟩, ⟨gd0, gd1⟩, ⟨gh0, gh1⟩, ⟨gi0, gi1⟩, ⟨gs0, gs1⟩, ⟨gw0, gw1⟩, ⟨gj0, gj1⟩, ⟨gt0, gt1⟩⟩ := h.good
  simp only [dMo] at gy0 gy1 gm0 gm1 gd0 gd1 gh0 gh1 gi0 gi1 gs0 gs1 gw0 gw1 gj0 gj1 gt0 gt1
  have gy2 : 1 ≤ y := h.civ.1
  have hn0 := h.lo
  have hn1 := h.hi
  have hr0 := h.r0
  have hr1 := h.r1
  have HWK := hide (week_eq n)
  obtain ⟨gz0, gz1⟩ := yb_le (y := y) (by omega) (by omega)
  have gc := h.civ.2.2.1
  have gj2 : 0 ≤ n - (yb y - 719162) := by omega
  have HWU : Hid (wrap64 ((n + 3) % 7 + 1) = (n + 3) % 7 + 1) := hide (wrap_small (by omega) (by omega))
  have gj3 : n - (yb y - 719162) ≤ 366 := by omega
  have HFY := hide (fun W => dayNumber_first y W (by omega) (by omega))
  have HFI : Hid (∀ W, Calls Tryz.prog 77 #[.string ⟨(Lib.itoa d).toArray⟩, .int .i64 2, .bool false] W fun e w' => e = .returned (.string (mkB (fillN d 2 false))) ∧ Below W.heap.size W w') := hide (fun W => by
    have hl := Lib.itoa_length_le d (by omega) (by omega)
    have := filled_any ⟨(Lib.itoa d).toArray⟩ 2 false W (by simp [ByteArray.size]; omega) (by omega) (by omega)
    rw [show fillS (⟨(Lib.itoa d).toArray⟩ : ByteArray).data.toList ((2 : Int)).toNat false = fillN d 2 false from fillS_itoa' d 2 false] at this
    exact this)
  clear h hT
  go_enter Tryz.func32, Tryz.ntmps32
  go_wp2_with fail
  refine (HDV.out _).mono ?_
  rintro e w' ⟨rfl, rfl⟩
  go_wp2_with fail
  refine (HCV.out _).mono ?_
  rintro e w1 ⟨rfl, hb1⟩
  have HB1 := hide hb1
  clear hb1
  go_wp2_with fail
  rw [HWK.out, HWU.out]
  refine (HIT.out _ _ HB1.out (by omega) (by omega)).mono ?_
  rintro e w2 ⟨rfl, hb2⟩
  have HB2 := hide (HB1.out.trans (hb2.mono HB1.out.size))
  clear hb2
  go_wp2_with fail
  go_ret
  exact ⟨by rw [HE.out]; rfl, HB2.out⟩
set_option maxHeartbeats 2000000 in
set_option maxRecDepth 100000 in
theorem told_a {t n r y d : Int} {m : Nat} (h : DIs t n r y m d) (w : World) (hT : PowTab w) (hA : SpTab w) :
    Calls Tryz.prog 32 #[.int .u8 97, .int .i64 t] w fun e w' => e = .returned (.string (mkB (dTold (dMo n r t y m d) 97))) ∧ Below w.heap.size w w' := by
  have HE : Hid (dTold (dMo n r t y m d) 97 = dNames.getD ((n + 3) % 7 + 1 - 1).toNat []) := hide (by simp [dTold, dMo])
  have HDV : Hid (∀ W, Calls Tryz.prog 70 #[.int .i64 t] W fun e w' => e = .returned (.tuple #[.int .i64 n, .int .i64 r]) ∧ W = w') := hide (fun W => by
    have := divided_any t W h.t0 h.t1
    rw [h.day, h.rest] at this; exact this)
  have HCV := hide (fun W => civil_at h W)
  have HPD := hide (fun (v : Int) (k : Nat) W (hb : Below w.heap.size w W) h0 h1 hk => padded_any v k true W h0 h1 hk (hT.below hb))
  have HIT := hide (fun (v : Int) W (hb : Below w.heap.size w W) h0 h1 => itoa_any v W h0 h1 (hT.below hb))
  obtain ⟨⟨gy0, gy1⟩, ⟨gm0, gm1⟩, ⟨gd0, gd1⟩, ⟨gh0, gh1⟩, ⟨gi0, gi1⟩, ⟨gs0, gs1⟩, ⟨gw0, gw1⟩, ⟨gj0, gj1⟩, ⟨gt0, gt1⟩⟩ := h.good
  simp only [dMo] at gy0 gy1 gm0 gm1 gd0 gd1 gh0 gh1 gi0 gi1 gs0 gs1 gw0 gw1 gj0 gj1 gt0 gt1
  have gy2 : 1 ≤ y := h.civ.1
  have hn0 := h.lo
  have hn1 := h.hi
  have hr0 := h.r0
  have hr1 := h.r1
  have HWK := hide (week_eq n)
  obtain ⟨gz0, gz1⟩ := yb_le (y := y) (by omega) (by omega)
  have gc := h.civ.2.2.1
  have gj2 : 0 ≤ n - (yb y - 719162) := by omega
  have HWU : Hid (wrap64 ((n + 3) % 7 + 1) = (n + 3) % 7 + 1) := hide (wrap_small (by omega) (by omega))
  have gj3 : n - (yb y - 719162) ≤ 366 := by omega
  have HFY := hide (fun W => dayNumber_first y W (by omega) (by omega))
  have HFI : Hid (∀ W, Calls Tryz.prog 77 #[.string ⟨(Lib.itoa d).toArray⟩, .int .i64 2, .bool false] W fun e w' => e = .returned (.string (mkB (fillN d 2 false))) ∧ Below W.heap.size W w') := hide (fun W => by
    have hl := Lib.itoa_length_le d (by omega) (by omega)
    have := filled_any ⟨(Lib.itoa d).toArray⟩ 2 false W (by simp [ByteArray.size]; omega) (by omega) (by omega)
    rw [show fillS (⟨(Lib.itoa d).toArray⟩ : ByteArray).data.toList ((2 : Int)).toNat false = fillN d 2 false from fillS_itoa' d 2 false] at this
    exact this)
  have HA := hide hA
  clear hA
  clear h hT
  go_enter Tryz.func32, Tryz.ntmps32
  go_wp2_with fail
  refine (HDV.out _).mono ?_
  rintro e w' ⟨rfl, rfl⟩
  go_wp2_with fail
  refine (HCV.out _).mono ?_
  rintro e w1 ⟨rfl, hb1⟩
  have HB1 := hide hb1
  clear hb1
  go_wp2_with fail
  refine (days_any _ (HA.out.below HB1.out)).mono ?_
  rintro e w2 ⟨rfl, rfl⟩
  obtain ⟨k, hk⟩ : ∃ k : Nat, (n + 3) % 7 = (k : Int) := ⟨((n + 3) % 7).toNat, by omega⟩
  have hk0 : (0 : Int) ≤ (k : Int) := by omega
  have hk1 : (k : Int) < 7 := by omega
  have hk2 : k < 7 := by omega
  have hcell := days_cell w1 9 k hk2
  have HKN : Hid (((n + 3) % 7 + 1 - 1).toNat = k) := hide (by omega)
  have HB2 := hide (HB1.out.alloc HB1.out.size (.cells (dNames.map fun l => Value.string (mkB l)).toArray 9))
  rw [HWK.out, hk]
  clear hk
  go_wp2_with fail
  go_ret
  exact ⟨by rw [HE.out, HKN.out]; rfl, HB2.out⟩
set_option maxHeartbeats 2000000 in
set_option maxRecDepth 100000 in
theorem told_b {t n r y d : Int} {m : Nat} (h : DIs t n r y m d) (w : World) (hT : PowTab w) (hA : SpTab w) :
    Calls Tryz.prog 32 #[.int .u8 98, .int .i64 t] w fun e w' => e = .returned (.string (mkB (dTold (dMo n r t y m d) 98))) ∧ Below w.heap.size w w' := by
  have HE : Hid (dTold (dMo n r t y m d) 98 = mNames.getD ((m : Int) - 1).toNat []) := hide (by simp [dTold, dMo])
  have HDV : Hid (∀ W, Calls Tryz.prog 70 #[.int .i64 t] W fun e w' => e = .returned (.tuple #[.int .i64 n, .int .i64 r]) ∧ W = w') := hide (fun W => by
    have := divided_any t W h.t0 h.t1
    rw [h.day, h.rest] at this; exact this)
  have HCV := hide (fun W => civil_at h W)
  have HPD := hide (fun (v : Int) (k : Nat) W (hb : Below w.heap.size w W) h0 h1 hk => padded_any v k true W h0 h1 hk (hT.below hb))
  have HIT := hide (fun (v : Int) W (hb : Below w.heap.size w W) h0 h1 => itoa_any v W h0 h1 (hT.below hb))
  obtain ⟨⟨gy0, gy1⟩, ⟨gm0, gm1⟩, ⟨gd0, gd1⟩, ⟨gh0, gh1⟩, ⟨gi0, gi1⟩, ⟨gs0, gs1⟩, ⟨gw0, gw1⟩, ⟨gj0, gj1⟩, ⟨gt0, gt1⟩⟩ := h.good
  simp only [dMo] at gy0 gy1 gm0 gm1 gd0 gd1 gh0 gh1 gi0 gi1 gs0 gs1 gw0 gw1 gj0 gj1 gt0 gt1
  have gy2 : 1 ≤ y := h.civ.1
  have hn0 := h.lo
  have hn1 := h.hi
  have hr0 := h.r0
  have hr1 := h.r1
  have HWK := hide (week_eq n)
  obtain ⟨gz0, gz1⟩ := yb_le (y := y) (by omega) (by omega)
  have gc := h.civ.2.2.1
  have gj2 : 0 ≤ n - (yb y - 719162) := by omega
  have HWU : Hid (wrap64 ((n + 3) % 7 + 1) = (n + 3) % 7 + 1) := hide (wrap_small (by omega) (by omega))
  have gj3 : n - (yb y - 719162) ≤ 366 := by omega
  have HFY := hide (fun W => dayNumber_first y W (by omega) (by omega))
  have HFI : Hid (∀ W, Calls Tryz.prog 77 #[.string ⟨(Lib.itoa d).toArray⟩, .int .i64 2, .bool false] W fun e w' => e = .returned (.string (mkB (fillN d 2 false))) ∧ Below W.heap.size W w') := hide (fun W => by
    have hl := Lib.itoa_length_le d (by omega) (by omega)
    have := filled_any ⟨(Lib.itoa d).toArray⟩ 2 false W (by simp [ByteArray.size]; omega) (by omega) (by omega)
    rw [show fillS (⟨(Lib.itoa d).toArray⟩ : ByteArray).data.toList ((2 : Int)).toNat false = fillN d 2 false from fillS_itoa' d 2 false] at this
    exact this)
  have HA := hide hA
  clear hA
  clear h hT
  go_enter Tryz.func32, Tryz.ntmps32
  go_wp2_with fail
  refine (HDV.out _).mono ?_
  rintro e w' ⟨rfl, rfl⟩
  go_wp2_with fail
  refine (HCV.out _).mono ?_
  rintro e w1 ⟨rfl, hb1⟩
  have HB1 := hide hb1
  clear hb1
  go_wp2_with fail
  refine (months_any _ (HA.out.below HB1.out)).mono ?_
  rintro e w2 ⟨rfl, rfl⟩
  obtain ⟨k, hk⟩ : ∃ k : Nat, (m : Int) - 1 = (k : Int) := ⟨m - 1, by omega⟩
  have hk0 : (0 : Int) ≤ (k : Int) := by omega
  have hk1 : (k : Int) < 12 := by omega
  have hk2 : k < 12 := by omega
  have hcell := months_cell w1 9 k hk2
  have HKN : Hid (((m : Int) - 1).toNat = k) := hide (by omega)
  have HB2 := hide (HB1.out.alloc HB1.out.size (.cells (mNames.map fun l => Value.string (mkB l)).toArray 9))
  go_wp2_with fail
  go_ret
  exact ⟨by rw [HE.out, HKN.out]; rfl, HB2.out⟩
set_option maxHeartbeats 2000000 in
set_option maxRecDepth 100000 in
theorem told_s {t n r y d : Int} {m : Nat} (h : DIs t n r y m d) (w : World) (hT : PowTab w) :
    Calls Tryz.prog 32 #[.int .u8 115, .int .i64 t] w fun e w' => e = .returned (.string (mkB (dTold (dMo n r t y m d) 115))) ∧ Below w.heap.size w w' := by
  have HE : Hid (dTold (dMo n r t y m d) 115 = Lib.itoa t) := hide (by simp [dTold, dMo])
  have HDV : Hid (∀ W, Calls Tryz.prog 70 #[.int .i64 t] W fun e w' => e = .returned (.tuple #[.int .i64 n, .int .i64 r]) ∧ W = w') := hide (fun W => by
    have := divided_any t W h.t0 h.t1
    rw [h.day, h.rest] at this; exact this)
  have HCV := hide (fun W => civil_at h W)
  have HPD := hide (fun (v : Int) (k : Nat) W (hb : Below w.heap.size w W) h0 h1 hk => padded_any v k true W h0 h1 hk (hT.below hb))
  have HIT := hide (fun (v : Int) W (hb : Below w.heap.size w W) h0 h1 => itoa_any v W h0 h1 (hT.below hb))
  obtain ⟨⟨gy0, gy1⟩, ⟨gm0, gm1⟩, ⟨gd0, gd1⟩, ⟨gh0, gh1⟩, ⟨gi0, gi1⟩, ⟨gs0, gs1⟩, ⟨gw0, gw1⟩, ⟨gj0, gj1⟩, ⟨gt0, gt1⟩⟩ := h.good
  simp only [dMo] at gy0 gy1 gm0 gm1 gd0 gd1 gh0 gh1 gi0 gi1 gs0 gs1 gw0 gw1 gj0 gj1 gt0 gt1
  have gy2 : 1 ≤ y := h.civ.1
  have hn0 := h.lo
  have hn1 := h.hi
  have hr0 := h.r0
  have hr1 := h.r1
  have HWK := hide (week_eq n)
  obtain ⟨gz0, gz1⟩ := yb_le (y := y) (by omega) (by omega)
  have gc := h.civ.2.2.1
  have gj2 : 0 ≤ n - (yb y - 719162) := by omega
  have HWU : Hid (wrap64 ((n + 3) % 7 + 1) = (n + 3) % 7 + 1) := hide (wrap_small (by omega) (by omega))
  have gj3 : n - (yb y - 719162) ≤ 366 := by omega
  have HFY := hide (fun W => dayNumber_first y W (by omega) (by omega))
  have HFI : Hid (∀ W, Calls Tryz.prog 77 #[.string ⟨(Lib.itoa d).toArray⟩, .int .i64 2, .bool false] W fun e w' => e = .returned (.string (mkB (fillN d 2 false))) ∧ Below W.heap.size W w') := hide (fun W => by
    have hl := Lib.itoa_length_le d (by omega) (by omega)
    have := filled_any ⟨(Lib.itoa d).toArray⟩ 2 false W (by simp [ByteArray.size]; omega) (by omega) (by omega)
    rw [show fillS (⟨(Lib.itoa d).toArray⟩ : ByteArray).data.toList ((2 : Int)).toNat false = fillN d 2 false from fillS_itoa' d 2 false] at this
    exact this)
  clear h hT
  go_enter Tryz.func32, Tryz.ntmps32
  go_wp2_with fail
  refine (HDV.out _).mono ?_
  rintro e w' ⟨rfl, rfl⟩
  go_wp2_with fail
  refine (HCV.out _).mono ?_
  rintro e w1 ⟨rfl, hb1⟩
  have HB1 := hide hb1
  clear hb1
  go_wp2_with fail
  refine (HIT.out _ _ HB1.out (by omega) (by omega)).mono ?_
  rintro e w2 ⟨rfl, hb2⟩
  have HB2 := hide (HB1.out.trans (hb2.mono HB1.out.size))
  clear hb2
  go_wp2_with fail
  go_ret
  exact ⟨by rw [HE.out]; rfl, HB2.out⟩
set_option maxHeartbeats 2000000 in
set_option maxRecDepth 100000 in
theorem told_F {t n r y d : Int} {m : Nat} (h : DIs t n r y m d) (w : World) (hT : PowTab w) :
    Calls Tryz.prog 32 #[.int .u8 70, .int .i64 t] w fun e w' => e = .returned (.string (mkB (dTold (dMo n r t y m d) 70))) ∧ Below w.heap.size w w' := by
  have HDV : Hid (∀ W, Calls Tryz.prog 70 #[.int .i64 t] W fun e w' => e = .returned (.tuple #[.int .i64 n, .int .i64 r]) ∧ W = w') := hide (fun W => by
    have := divided_any t W h.t0 h.t1
    rw [h.day, h.rest] at this; exact this)
  have HCV := hide (fun W => civil_at h W)
  obtain ⟨q1, hq1⟩ : ∃ q, mkB (dTold (dMo n r t y m d) 89) = q := ⟨_, rfl⟩
  obtain ⟨q2, hq2⟩ : ∃ q, mkB (dTold (dMo n r t y m d) 109) = q := ⟨_, rfl⟩
  obtain ⟨q3, hq3⟩ : ∃ q, mkB (dTold (dMo n r t y m d) 100) = q := ⟨_, rfl⟩
  have z1 : q1.size ≤ 100 := by rw [← hq1, mkB_size]; exact dTold_len h.good _
  have z2 : q2.size ≤ 100 := by rw [← hq2, mkB_size]; exact dTold_len h.good _
  have z3 : q3.size ≤ 100 := by rw [← hq3, mkB_size]; exact dTold_len h.good _
  have HE : Hid (mkB (dTold (dMo n r t y m d) 70) = (((q1 ++ (⟨#[45]⟩ : ByteArray)) ++ q2) ++ (⟨#[45]⟩ : ByteArray)) ++ q3) := hide (by
    rw [← hq1, ← hq2, ← hq3, show (⟨#[45]⟩ : ByteArray) = mkB [45] from rfl, mkB_app', mkB_app', mkB_app', mkB_app']
    simp [dTold, dMo])
  have H1 : Hid (∀ W, Below w.heap.size w W → Calls Tryz.prog 32 #[.int .u8 89, .int .i64 t] W fun e w' => e = .returned (.string q1) ∧ Below W.heap.size W w') := hide (fun W hb => by rw [← hq1]; exact told_Y h W (hT.below hb))
  have H2 : Hid (∀ W, Below w.heap.size w W → Calls Tryz.prog 32 #[.int .u8 109, .int .i64 t] W fun e w' => e = .returned (.string q2) ∧ Below W.heap.size W w') := hide (fun W hb => by rw [← hq2]; exact told_m h W (hT.below hb))
  have H3 : Hid (∀ W, Below w.heap.size w W → Calls Tryz.prog 32 #[.int .u8 100, .int .i64 t] W fun e w' => e = .returned (.string q3) ∧ Below W.heap.size W w') := hide (fun W hb => by rw [← hq3]; exact told_d h W (hT.below hb))
  clear h hT hq1 hq2 hq3
  go_enter Tryz.func32, Tryz.ntmps32
  go_wp2_with fail
  refine (HDV.out _).mono ?_
  rintro e w' ⟨rfl, rfl⟩
  go_wp2_with fail
  refine (HCV.out _).mono ?_
  rintro e w1 ⟨rfl, hb1⟩
  have HB1 := hide hb1
  clear hb1
  go_wp2_with fail
  refine (H1.out _ HB1.out).mono ?_
  rintro e w2 ⟨rfl, hb2⟩
  have HB2 := hide (HB1.out.trans (hb2.mono HB1.out.size))
  clear hb2
  go_wp2_with fail
  refine (H2.out _ HB2.out).mono ?_
  rintro e w3 ⟨rfl, hb3⟩
  have HB3 := hide (HB2.out.trans (hb3.mono HB2.out.size))
  clear hb3
  go_wp2_with fail
  refine (H3.out _ HB3.out).mono ?_
  rintro e w4 ⟨rfl, hb4⟩
  have HB4 := hide (HB3.out.trans (hb4.mono HB3.out.size))
  clear hb4
  go_wp2_with fail
  go_ret
  exact ⟨by rw [HE.out]; rfl, HB4.out⟩
set_option maxHeartbeats 2000000 in
set_option maxRecDepth 100000 in
theorem told_T {t n r y d : Int} {m : Nat} (h : DIs t n r y m d) (w : World) (hT : PowTab w) :
    Calls Tryz.prog 32 #[.int .u8 84, .int .i64 t] w fun e w' => e = .returned (.string (mkB (dTold (dMo n r t y m d) 84))) ∧ Below w.heap.size w w' := by
  have HDV : Hid (∀ W, Calls Tryz.prog 70 #[.int .i64 t] W fun e w' => e = .returned (.tuple #[.int .i64 n, .int .i64 r]) ∧ W = w') := hide (fun W => by
    have := divided_any t W h.t0 h.t1
    rw [h.day, h.rest] at this; exact this)
  have HCV := hide (fun W => civil_at h W)
  obtain ⟨q1, hq1⟩ : ∃ q, mkB (dTold (dMo n r t y m d) 72) = q := ⟨_, rfl⟩
  obtain ⟨q2, hq2⟩ : ∃ q, mkB (dTold (dMo n r t y m d) 77) = q := ⟨_, rfl⟩
  obtain ⟨q3, hq3⟩ : ∃ q, mkB (dTold (dMo n r t y m d) 83) = q := ⟨_, rfl⟩
  have z1 : q1.size ≤ 100 := by rw [← hq1, mkB_size]; exact dTold_len h.good _
  have z2 : q2.size ≤ 100 := by rw [← hq2, mkB_size]; exact dTold_len h.good _
  have z3 : q3.size ≤ 100 := by rw [← hq3, mkB_size]; exact dTold_len h.good _
  have HE : Hid (mkB (dTold (dMo n r t y m d) 84) = (((q1 ++ (⟨#[58]⟩ : ByteArray)) ++ q2) ++ (⟨#[58]⟩ : ByteArray)) ++ q3) := hide (by
    rw [← hq1, ← hq2, ← hq3, show (⟨#[58]⟩ : ByteArray) = mkB [58] from rfl, mkB_app', mkB_app', mkB_app', mkB_app']
    simp [dTold, dMo])
  have H1 : Hid (∀ W, Below w.heap.size w W → Calls Tryz.prog 32 #[.int .u8 72, .int .i64 t] W fun e w' => e = .returned (.string q1) ∧ Below W.heap.size W w') := hide (fun W hb => by rw [← hq1]; exact told_H h W (hT.below hb))
  have H2 : Hid (∀ W, Below w.heap.size w W → Calls Tryz.prog 32 #[.int .u8 77, .int .i64 t] W fun e w' => e = .returned (.string q2) ∧ Below W.heap.size W w') := hide (fun W hb => by rw [← hq2]; exact told_M h W (hT.below hb))
  have H3 : Hid (∀ W, Below w.heap.size w W → Calls Tryz.prog 32 #[.int .u8 83, .int .i64 t] W fun e w' => e = .returned (.string q3) ∧ Below W.heap.size W w') := hide (fun W hb => by rw [← hq3]; exact told_S h W (hT.below hb))
  clear h hT hq1 hq2 hq3
  go_enter Tryz.func32, Tryz.ntmps32
  go_wp2_with fail
  refine (HDV.out _).mono ?_
  rintro e w' ⟨rfl, rfl⟩
  go_wp2_with fail
  refine (HCV.out _).mono ?_
  rintro e w1 ⟨rfl, hb1⟩
  have HB1 := hide hb1
  clear hb1
  go_wp2_with fail
  refine (H1.out _ HB1.out).mono ?_
  rintro e w2 ⟨rfl, hb2⟩
  have HB2 := hide (HB1.out.trans (hb2.mono HB1.out.size))
  clear hb2
  go_wp2_with fail
  refine (H2.out _ HB2.out).mono ?_
  rintro e w3 ⟨rfl, hb3⟩
  have HB3 := hide (HB2.out.trans (hb3.mono HB2.out.size))
  clear hb3
  go_wp2_with fail
  refine (H3.out _ HB3.out).mono ?_
  rintro e w4 ⟨rfl, hb4⟩
  have HB4 := hide (HB3.out.trans (hb4.mono HB3.out.size))
  clear hb4
  go_wp2_with fail
  go_ret
  exact ⟨by rw [HE.out]; rfl, HB4.out⟩
set_option maxHeartbeats 2000000 in
set_option maxRecDepth 100000 in
theorem told_n {t n r y d : Int} {m : Nat} (h : DIs t n r y m d) (w : World) (hT : PowTab w) :
    Calls Tryz.prog 32 #[.int .u8 110, .int .i64 t] w fun e w' => e = .returned (.string (mkB (dTold (dMo n r t y m d) 110))) ∧ Below w.heap.size w w' := by
  have HE : Hid (dTold (dMo n r t y m d) 110 = [10]) := hide (by simp [dTold, dMo])
  have HDV : Hid (∀ W, Calls Tryz.prog 70 #[.int .i64 t] W fun e w' => e = .returned (.tuple #[.int .i64 n, .int .i64 r]) ∧ W = w') := hide (fun W => by
    have := divided_any t W h.t0 h.t1
    rw [h.day, h.rest] at this; exact this)
  have HCV := hide (fun W => civil_at h W)
  have HPD := hide (fun (v : Int) (k : Nat) W (hb : Below w.heap.size w W) h0 h1 hk => padded_any v k true W h0 h1 hk (hT.below hb))
  have HIT := hide (fun (v : Int) W (hb : Below w.heap.size w W) h0 h1 => itoa_any v W h0 h1 (hT.below hb))
  obtain ⟨⟨gy0, gy1⟩, ⟨gm0, gm1⟩, ⟨gd0, gd1⟩, ⟨gh0, gh1⟩, ⟨gi0, gi1⟩, ⟨gs0, gs1⟩, ⟨gw0, gw1⟩, ⟨gj0, gj1⟩, ⟨gt0, gt1⟩⟩ := h.good
  simp only [dMo] at gy0 gy1 gm0 gm1 gd0 gd1 gh0 gh1 gi0 gi1 gs0 gs1 gw0 gw1 gj0 gj1 gt0 gt1
  have gy2 : 1 ≤ y := h.civ.1
  have hn0 := h.lo
  have hn1 := h.hi
  have hr0 := h.r0
  have hr1 := h.r1
  have HWK := hide (week_eq n)
  obtain ⟨gz0, gz1⟩ := yb_le (y := y) (by omega) (by omega)
  have gc := h.civ.2.2.1
  have gj2 : 0 ≤ n - (yb y - 719162) := by omega
  have HWU : Hid (wrap64 ((n + 3) % 7 + 1) = (n + 3) % 7 + 1) := hide (wrap_small (by omega) (by omega))
  have gj3 : n - (yb y - 719162) ≤ 366 := by omega
  have HFY := hide (fun W => dayNumber_first y W (by omega) (by omega))
  have HFI : Hid (∀ W, Calls Tryz.prog 77 #[.string ⟨(Lib.itoa d).toArray⟩, .int .i64 2, .bool false] W fun e w' => e = .returned (.string (mkB (fillN d 2 false))) ∧ Below W.heap.size W w') := hide (fun W => by
    have hl := Lib.itoa_length_le d (by omega) (by omega)
    have := filled_any ⟨(Lib.itoa d).toArray⟩ 2 false W (by simp [ByteArray.size]; omega) (by omega) (by omega)
    rw [show fillS (⟨(Lib.itoa d).toArray⟩ : ByteArray).data.toList ((2 : Int)).toNat false = fillN d 2 false from fillS_itoa' d 2 false] at this
    exact this)
  clear h hT
  go_enter Tryz.func32, Tryz.ntmps32
  go_wp2_with fail
  refine (HDV.out _).mono ?_
  rintro e w' ⟨rfl, rfl⟩
  go_wp2_with fail
  refine (HCV.out _).mono ?_
  rintro e w1 ⟨rfl, hb1⟩
  have HB1 := hide hb1
  clear hb1
  go_wp2_with fail
  go_ret
  exact ⟨by rw [HE.out]; rfl, HB1.out⟩
set_option maxHeartbeats 2000000 in
set_option maxRecDepth 100000 in
theorem told_t {t n r y d : Int} {m : Nat} (h : DIs t n r y m d) (w : World) (hT : PowTab w) :
    Calls Tryz.prog 32 #[.int .u8 116, .int .i64 t] w fun e w' => e = .returned (.string (mkB (dTold (dMo n r t y m d) 116))) ∧ Below w.heap.size w w' := by
  have HE : Hid (dTold (dMo n r t y m d) 116 = [9]) := hide (by simp [dTold, dMo])
  have HDV : Hid (∀ W, Calls Tryz.prog 70 #[.int .i64 t] W fun e w' => e = .returned (.tuple #[.int .i64 n, .int .i64 r]) ∧ W = w') := hide (fun W => by
    have := divided_any t W h.t0 h.t1
    rw [h.day, h.rest] at this; exact this)
  have HCV := hide (fun W => civil_at h W)
  have HPD := hide (fun (v : Int) (k : Nat) W (hb : Below w.heap.size w W) h0 h1 hk => padded_any v k true W h0 h1 hk (hT.below hb))
  have HIT := hide (fun (v : Int) W (hb : Below w.heap.size w W) h0 h1 => itoa_any v W h0 h1 (hT.below hb))
  obtain ⟨⟨gy0, gy1⟩, ⟨gm0, gm1⟩, ⟨gd0, gd1⟩, ⟨gh0, gh1⟩, ⟨gi0, gi1⟩, ⟨gs0, gs1⟩, ⟨gw0, gw1⟩, ⟨gj0, gj1⟩, ⟨gt0, gt1⟩⟩ := h.good
  simp only [dMo] at gy0 gy1 gm0 gm1 gd0 gd1 gh0 gh1 gi0 gi1 gs0 gs1 gw0 gw1 gj0 gj1 gt0 gt1
  have gy2 : 1 ≤ y := h.civ.1
  have hn0 := h.lo
  have hn1 := h.hi
  have hr0 := h.r0
  have hr1 := h.r1
  have HWK := hide (week_eq n)
  obtain ⟨gz0, gz1⟩ := yb_le (y := y) (by omega) (by omega)
  have gc := h.civ.2.2.1
  have gj2 : 0 ≤ n - (yb y - 719162) := by omega
  have HWU : Hid (wrap64 ((n + 3) % 7 + 1) = (n + 3) % 7 + 1) := hide (wrap_small (by omega) (by omega))
  have gj3 : n - (yb y - 719162) ≤ 366 := by omega
  have HFY := hide (fun W => dayNumber_first y W (by omega) (by omega))
  have HFI : Hid (∀ W, Calls Tryz.prog 77 #[.string ⟨(Lib.itoa d).toArray⟩, .int .i64 2, .bool false] W fun e w' => e = .returned (.string (mkB (fillN d 2 false))) ∧ Below W.heap.size W w') := hide (fun W => by
    have hl := Lib.itoa_length_le d (by omega) (by omega)
    have := filled_any ⟨(Lib.itoa d).toArray⟩ 2 false W (by simp [ByteArray.size]; omega) (by omega) (by omega)
    rw [show fillS (⟨(Lib.itoa d).toArray⟩ : ByteArray).data.toList ((2 : Int)).toNat false = fillN d 2 false from fillS_itoa' d 2 false] at this
    exact this)
  clear h hT
  go_enter Tryz.func32, Tryz.ntmps32
  go_wp2_with fail
  refine (HDV.out _).mono ?_
  rintro e w' ⟨rfl, rfl⟩
  go_wp2_with fail
  refine (HCV.out _).mono ?_
  rintro e w1 ⟨rfl, hb1⟩
  have HB1 := hide hb1
  clear hb1
  go_wp2_with fail
  go_ret
  exact ⟨by rw [HE.out]; rfl, HB1.out⟩
set_option maxHeartbeats 2000000 in
set_option maxRecDepth 100000 in
theorem told_p {t n r y d : Int} {m : Nat} (h : DIs t n r y m d) (w : World) (hT : PowTab w) :
    Calls Tryz.prog 32 #[.int .u8 37, .int .i64 t] w fun e w' => e = .returned (.string (mkB (dTold (dMo n r t y m d) 37))) ∧ Below w.heap.size w w' := by
  have HE : Hid (dTold (dMo n r t y m d) 37 = [37]) := hide (by simp [dTold, dMo])
  have HDV : Hid (∀ W, Calls Tryz.prog 70 #[.int .i64 t] W fun e w' => e = .returned (.tuple #[.int .i64 n, .int .i64 r]) ∧ W = w') := hide (fun W => by
    have := divided_any t W h.t0 h.t1
    rw [h.day, h.rest] at this; exact this)
  have HCV := hide (fun W => civil_at h W)
  have HPD := hide (fun (v : Int) (k : Nat) W (hb : Below w.heap.size w W) h0 h1 hk => padded_any v k true W h0 h1 hk (hT.below hb))
  have HIT := hide (fun (v : Int) W (hb : Below w.heap.size w W) h0 h1 => itoa_any v W h0 h1 (hT.below hb))
  obtain ⟨⟨gy0, gy1⟩, ⟨gm0, gm1⟩, ⟨gd0, gd1⟩, ⟨gh0, gh1⟩, ⟨gi0, gi1⟩, ⟨gs0, gs1⟩, ⟨gw0, gw1⟩, ⟨gj0, gj1⟩, ⟨gt0, gt1⟩⟩ := h.good
  simp only [dMo] at gy0 gy1 gm0 gm1 gd0 gd1 gh0 gh1 gi0 gi1 gs0 gs1 gw0 gw1 gj0 gj1 gt0 gt1
  have gy2 : 1 ≤ y := h.civ.1
  have hn0 := h.lo
  have hn1 := h.hi
  have hr0 := h.r0
  have hr1 := h.r1
  have HWK := hide (week_eq n)
  obtain ⟨gz0, gz1⟩ := yb_le (y := y) (by omega) (by omega)
  have gc := h.civ.2.2.1
  have gj2 : 0 ≤ n - (yb y - 719162) := by omega
  have HWU : Hid (wrap64 ((n + 3) % 7 + 1) = (n + 3) % 7 + 1) := hide (wrap_small (by omega) (by omega))
  have gj3 : n - (yb y - 719162) ≤ 366 := by omega
  have HFY := hide (fun W => dayNumber_first y W (by omega) (by omega))
  have HFI : Hid (∀ W, Calls Tryz.prog 77 #[.string ⟨(Lib.itoa d).toArray⟩, .int .i64 2, .bool false] W fun e w' => e = .returned (.string (mkB (fillN d 2 false))) ∧ Below W.heap.size W w') := hide (fun W => by
    have hl := Lib.itoa_length_le d (by omega) (by omega)
    have := filled_any ⟨(Lib.itoa d).toArray⟩ 2 false W (by simp [ByteArray.size]; omega) (by omega) (by omega)
    rw [show fillS (⟨(Lib.itoa d).toArray⟩ : ByteArray).data.toList ((2 : Int)).toNat false = fillN d 2 false from fillS_itoa' d 2 false] at this
    exact this)
  clear h hT
  go_enter Tryz.func32, Tryz.ntmps32
  go_wp2_with fail
  refine (HDV.out _).mono ?_
  rintro e w' ⟨rfl, rfl⟩
  go_wp2_with fail
  refine (HCV.out _).mono ?_
  rintro e w1 ⟨rfl, hb1⟩
  have HB1 := hide hb1
  clear hb1
  go_wp2_with fail
  go_ret
  exact ⟨by rw [HE.out]; rfl, HB1.out⟩
theorem told_any {t n r y d : Int} {m : Nat} (h : DIs t n r y m d) (c : UInt8) (hc : c ∈ dLetters) (w : World) (hT : PowTab w) (hA : SpTab w) :
    Calls Tryz.prog 32 #[.int .u8 (c.toNat : Int), .int .i64 t] w fun e w' => e = .returned (.string (mkB (dTold (dMo n r t y m d) c))) ∧ Below w.heap.size w w' := by
  unfold dLetters at hc
  simp only [List.mem_cons, List.not_mem_nil, or_false] at hc
  rcases hc with rfl | rfl | rfl | rfl | rfl | rfl | rfl | rfl | rfl | rfl | rfl | rfl | rfl | rfl | rfl | rfl | rfl | rfl
  · exact told_Y h w hT
  · exact told_y h w hT
  · exact told_m h w hT
  · exact told_d h w hT
  · exact told_H h w hT
  · exact told_M h w hT
  · exact told_S h w hT
  · exact told_j h w hT
  · exact told_e h w hT
  · exact told_u h w hT
  · exact told_a h w hT hA
  · exact told_b h w hT hA
  · exact told_s h w hT
  · exact told_F h w hT
  · exact told_T h w hT
  · exact told_n h w hT
  · exact told_t h w hT
  · exact told_p h w hT
end Go.Proofs.YtifpmigghplmoaaGreatDoor
