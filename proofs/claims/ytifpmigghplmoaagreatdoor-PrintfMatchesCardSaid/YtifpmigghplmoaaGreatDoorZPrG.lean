/- Printf: the program's digits. -/
import Derived.Test.YtifpmigghplmoaaGreatDoorZPrK
import Derived.Test.YtifpmigghplmoaaGreatDoorZPrF
import Derived.Test.YtifpmigghplmoaaGreatDoorShelf2
/- PfT -/
set_option linter.unusedVariables false
set_option linter.unusedSimpArgs false
namespace Go.Proofs.YtifpmigghplmoaaGreatDoor
open Go.RowKit Go.Pw Go.Shelf
set_option maxHeartbeats 4000000 in
theorem pubFmt_any (b : Int) (u : Int) (s : List UInt8) (w : World)
    (H : Calls Tryz.prog 152 #[.int .u64 u, .int .i64 b] w fun e w' => e = .returned (.string (mkB s)) ∧ Below w.heap.size w w') :
    Calls Tryz.prog 124 #[.int .u64 u, .int .i64 b] w fun e w' => e = .returned (.string (mkB s)) ∧ Below w.heap.size w w' := by
  have HH := hide H
  clear H
  go_enter Tryz.func124, Tryz.ntmps124
  go_wp2_with fail
  refine HH.out.mono ?_
  rintro e w' ⟨rfl, hb⟩
  have HB := hide hb
  clear hb
  go_wp2_with fail
  go_ret
  exact ⟨rfl, HB.out⟩
/-- the digits that a letter asks for: which arm is taken -/
theorem itoa_abs (n : Int) : Lib.trimPrefix (Lib.itoa n) [45] = basP 10 n.natAbs := by
  rw [basP_ten]
  unfold Lib.itoa
  by_cases h : n < 0
  · rw [if_pos h]; simp [Lib.trimPrefix, Lib.hasPrefix]
  · rw [if_neg h]
    have e : n.toNat = n.natAbs := by omega
    rw [e]
    have hd : ∀ (k u : Nat), u ≤ k → (Lib.decDigits u).headD 0 ≠ 45 := by
      intro k
      induction k with
      | zero => intro u hu; obtain rfl : u = 0 := by omega
                rw [← basP_ten, basP_small (by omega)]; decide
      | succ k ih =>
        intro u hu
        by_cases h10 : u < 10
        · rw [← basP_ten, basP_small h10]
          have : ∀ d : Fin 10, (dgc d.val) ≠ 45 := by decide
          exact this ⟨u, h10⟩
        · rw [← basP_ten, basP_big (by omega) h10]
          have := ih (u / 10) (by omega)
          rw [← basP_ten] at this
          cases hb : basP 10 (u / 10) with
          | nil => exact absurd hb (basP_ne _ _)
          | cons x y => rw [hb] at this; exact this
    have h2 := hd _ n.natAbs (Nat.le_refl _)
    unfold Lib.trimPrefix
    rw [if_neg]
    intro hp
    cases hl : Lib.decDigits n.natAbs with
    | nil => rw [hl] at hp; simp [Lib.hasPrefix] at hp
    | cons x y =>
      rw [hl] at hp h2
      simp [Lib.hasPrefix] at hp
      exact h2 hp.symm
end Go.Proofs.YtifpmigghplmoaaGreatDoor

/- PfTd -/
set_option linter.unusedVariables false
set_option linter.unusedSimpArgs false
namespace Go.Proofs.YtifpmigghplmoaaGreatDoor
open Go.RowKit Go.Pw Go.Shelf
set_option maxHeartbeats 16000000 in
set_option maxRecDepth 100000 in
theorem digits_d_f (tx fl : List UInt8) (wd pr : Nat) (hd : DvOk (⟨tx, fl, wd, false, pr, 100⟩ : Dv)) (n : Int) (h0 : -9223372036854775808 ≤ n) (h1 : n ≤ 9223372036854775807) (w : World) (hT : PowTab w) (hZ : TzT w) :
    Calls Tryz.prog 84 #[dvV (⟨tx, fl, wd, false, pr, 100⟩ : Dv), .int .i64 n] w fun e w' => e = .returned (.string (mkB (digP (⟨tx, fl, wd, false, pr, 100⟩ : Dv) n))) ∧ Below w.heap.size w w' := by
  have HR0 : Hid (DvRow 89 w.heap.size (⟨tx, fl, wd, false, pr, 100⟩ : Dv) (w.alloc (.cells #[.string (mkB tx), .string (mkB fl), .int .i64 (wd : Int), .bool false, .int .i64 (pr : Int), .int .u8 100] 89))) := hide (heap_alloc_new w _)
  have HB0 := hide ((Below.refl w.heap.size w).alloc (Nat.le_refl _) (.cells #[.string (mkB tx), .string (mkB fl), .int .i64 (wd : Int), .bool false, .int .i64 (pr : Int), .int .u8 100] 89))
  have HA : Hid (digA 100 n = basP 10 n.natAbs) := hide (by unfold digA; rw [if_pos (by decide)])
  have HAL := hide (digA_len 100 n h0 h1)
  obtain ⟨S, hS⟩ : ∃ S, digA 100 n = S := ⟨_, rfl⟩
  rw [hS] at HA HAL
  obtain ⟨q, hq⟩ : ∃ q, mkB S = q := ⟨_, rfl⟩
  have hqz : q.size ≤ 24 := by rw [← hq, mkB_size]; exact HAL.out
  have HQZ : Hid (q.size = S.length) := hide (by rw [← hq, mkB_size])
  have HQ : Hid (mkB (basP 10 n.natAbs) = q) := hide (by rw [← HA.out, hq])
  have HI := hide (fun W hb => itoa_any n W h0 h1 (hT.below (w' := W) hb))
  have HTP : Hid (∀ W, Calls Tryz.prog 123 #[.string ⟨(Lib.itoa n).toArray⟩, .string ⟨#[45]⟩] W fun e w' => e = .returned (.string q) ∧ w' = W) := hide (fun W => by
    have h := Tryz.strings_TrimPrefix ⟨(Lib.itoa n).toArray⟩ ⟨#[45]⟩ W
    have e1 : (⟨(Lib.itoa n).toArray⟩ : ByteArray).data.toList = Lib.itoa n := by simp
    have e2 : (⟨#[45]⟩ : ByteArray).data.toList = [45] := rfl
    rw [e1, e2, itoa_abs] at h
    rw [← HQ.out]
    exact h)
  have HDP : Hid (digP (⟨tx, fl, wd, false, pr, 100⟩ : Dv) n = digP2 (⟨tx, fl, wd, false, pr, 100⟩ : Dv) (digP1 (⟨tx, fl, wd, false, pr, 100⟩ : Dv) n S)) := hide (by unfold digP; rw [hS])
  have HQ2 := hide hq
  clear hS hq hT hZ hd h0 h1
  have H1 : Hid (digP1 (⟨tx, fl, wd, false, pr, 100⟩ : Dv) n S = S) := hide (by unfold digP1; rfl)
  have HQ3 : Hid (q = mkB S) := hide HQ2.out.symm
  ·
    show Calls Tryz.prog _ #[.agg #[.string (mkB tx), .string (mkB fl), .int .i64 (wd : Int), .bool false, .int .i64 (pr : Int), .int .u8 100], .int .i64 n] w _
    go_enter Tryz.func84, Tryz.ntmps84
    go_wp2_with fail
    refine (HI.out _ HB0.out).mono ?_
    rintro e w2 ⟨rfl, hb⟩
    have R := hide (HR0.out.keep hb)
    have HB2 := hide (HB0.out.trans (hb.mono HB0.out.size))
    clear hb
    go_wp2_with fail
    refine (HTP.out _).mono ?_
    rintro e w3 ⟨rfl, rfl⟩
    obtain ⟨⟨y0, y1, y2⟩, y3, y4, y5⟩ := R.out.cells
    have HFIN : Hid (mkB (digP (⟨tx, fl, wd, false, pr, 100⟩ : Dv) n) = mkB (S)) := hide (by
      rw [HDP.out, H1.out]; unfold digP2; rw [if_neg (fun x => (by decide : ¬ (100 : UInt8) = 111) x.1)])
    go_wp2_with fail
    go_ret
    refine ⟨?_, HB2.out⟩
    rw [HFIN.out, ← HQ3.out]
    rfl
set_option maxHeartbeats 16000000 in
set_option maxRecDepth 100000 in
theorem digits_d_t (tx fl : List UInt8) (wd pr : Nat) (hd : DvOk (⟨tx, fl, wd, true, pr, 100⟩ : Dv)) (n : Int) (h0 : -9223372036854775808 ≤ n) (h1 : n ≤ 9223372036854775807) (w : World) (hT : PowTab w) (hZ : TzT w) :
    Calls Tryz.prog 84 #[dvV (⟨tx, fl, wd, true, pr, 100⟩ : Dv), .int .i64 n] w fun e w' => e = .returned (.string (mkB (digP (⟨tx, fl, wd, true, pr, 100⟩ : Dv) n))) ∧ Below w.heap.size w w' := by
  have HR0 : Hid (DvRow 89 w.heap.size (⟨tx, fl, wd, true, pr, 100⟩ : Dv) (w.alloc (.cells #[.string (mkB tx), .string (mkB fl), .int .i64 (wd : Int), .bool true, .int .i64 (pr : Int), .int .u8 100] 89))) := hide (heap_alloc_new w _)
  have HB0 := hide ((Below.refl w.heap.size w).alloc (Nat.le_refl _) (.cells #[.string (mkB tx), .string (mkB fl), .int .i64 (wd : Int), .bool true, .int .i64 (pr : Int), .int .u8 100] 89))
  have HA : Hid (digA 100 n = basP 10 n.natAbs) := hide (by unfold digA; rw [if_pos (by decide)])
  have HAL := hide (digA_len 100 n h0 h1)
  obtain ⟨S, hS⟩ : ∃ S, digA 100 n = S := ⟨_, rfl⟩
  rw [hS] at HA HAL
  obtain ⟨q, hq⟩ : ∃ q, mkB S = q := ⟨_, rfl⟩
  have hqz : q.size ≤ 24 := by rw [← hq, mkB_size]; exact HAL.out
  have HQZ : Hid (q.size = S.length) := hide (by rw [← hq, mkB_size])
  have HQ : Hid (mkB (basP 10 n.natAbs) = q) := hide (by rw [← HA.out, hq])
  have HI := hide (fun W hb => itoa_any n W h0 h1 (hT.below (w' := W) hb))
  have HTP : Hid (∀ W, Calls Tryz.prog 123 #[.string ⟨(Lib.itoa n).toArray⟩, .string ⟨#[45]⟩] W fun e w' => e = .returned (.string q) ∧ w' = W) := hide (fun W => by
    have h := Tryz.strings_TrimPrefix ⟨(Lib.itoa n).toArray⟩ ⟨#[45]⟩ W
    have e1 : (⟨(Lib.itoa n).toArray⟩ : ByteArray).data.toList = Lib.itoa n := by simp
    have e2 : (⟨#[45]⟩ : ByteArray).data.toList = [45] := rfl
    rw [e1, e2, itoa_abs] at h
    rw [← HQ.out]
    exact h)
  obtain ⟨c, hc⟩ : ∃ c : Nat, max ((pr : Int) - (q.size : Int)) 0 = (c : Int) := ⟨(max ((pr : Int) - (q.size : Int)) 0).toNat, by omega⟩
  have hpr : pr ≤ 999 := hd.2.2
  have HRP := hide (fun W => repeatOne_any 48 c W (by omega))
  have HR00 : Hid (∀ W, Calls Tryz.prog 86 #[.string ⟨#[48]⟩, .int .i64 0] W fun e w' => e = .returned (.string (mkB [])) ∧ Below W.heap.size W w') := hide (fun W => repeatOne_any 48 0 W (by omega))
  have hcz : (mkB (List.replicate c 48)).size ≤ 1000 := by rw [mkB_size, List.length_replicate]; omega
  have hCN : Hid (c = pr - S.length) := hide (by have := HQZ.out; omega)
  have HC := hide hc
  obtain ⟨p, hp⟩ : ∃ p, mkB (List.replicate c 48) = p := ⟨_, rfl⟩
  rw [hp] at hcz
  simp only [hp] at HRP
  have HPQ : Hid (p ++ q = mkB (List.replicate c 48 ++ S)) := hide (by rw [← hp, ← hq, mkB_app'])
  have hc999 : c ≤ 999 := by omega
  clear hp hc
  have HDP : Hid (digP (⟨tx, fl, wd, true, pr, 100⟩ : Dv) n = digP2 (⟨tx, fl, wd, true, pr, 100⟩ : Dv) (digP1 (⟨tx, fl, wd, true, pr, 100⟩ : Dv) n S)) := hide (by unfold digP; rw [hS])
  have HQ2 := hide hq
  clear hS hq hT hZ hd h0 h1
  ·
    show Calls Tryz.prog _ #[.agg #[.string (mkB tx), .string (mkB fl), .int .i64 (wd : Int), .bool true, .int .i64 (pr : Int), .int .u8 100], .int .i64 n] w _
    go_enter Tryz.func84, Tryz.ntmps84
    go_wp2_with fail
    refine (HI.out _ HB0.out).mono ?_
    rintro e w2 ⟨rfl, hb⟩
    have R := hide (HR0.out.keep hb)
    have HB2 := hide (HB0.out.trans (hb.mono HB0.out.size))
    clear hb
    go_wp2_with fail
    refine (HTP.out _).mono ?_
    rintro e w3 ⟨rfl, rfl⟩
    obtain ⟨⟨y0, y1, y2⟩, y3, y4, y5⟩ := R.out.cells
    by_cases hn : n = 0
    · by_cases hp0 : pr = 0
      · have H1 : Hid (digP1 (⟨tx, fl, wd, true, pr, 100⟩ : Dv) n S = []) := hide (by unfold digP1; rw [if_pos rfl, if_pos ⟨hn, hp0⟩]; simp [hp0])
        have HQ3 : Hid ((mkB [] : ByteArray) ++ (⟨#[]⟩ : ByteArray) = mkB []) := hide rfl
        have n0 : (n == 0) = true := by simpa using hn
        have p0 : ((pr : Int) == 0) = true := by simpa using hp0
        have p1 : (pr : Int) = 0 := by omega
        first
          | rw [hp0] at H35
          | skip
        clear hn hp0
        go_wp2_with fail
        refine (HR00.out _).mono ?_
        rintro e w5 ⟨rfl, hb⟩
        have R5 := hide (R.out.keep hb)
        have HB5 := hide (HB2.out.trans (hb.mono HB2.out.size))
        clear hb y0 y1 y2 y3 y4 y5
        obtain ⟨⟨y0, y1, y2⟩, y3, y4, y5⟩ := R5.out.cells
        have HFIN : Hid (mkB (digP (⟨tx, fl, wd, true, pr, 100⟩ : Dv) n) = mkB ([])) := hide (by
          rw [HDP.out, H1.out]; unfold digP2; rw [if_neg (fun x => (by decide : ¬ (100 : UInt8) = 111) x.1)])
        go_wp2_with fail
        go_ret
        refine ⟨?_, HB5.out⟩
        rw [HFIN.out, ← HQ3.out]
        rfl
      · have H1 : Hid (digP1 (⟨tx, fl, wd, true, pr, 100⟩ : Dv) n S = List.replicate c 48 ++ S) := hide (by unfold digP1; rw [if_pos rfl, if_neg (fun x => hp0 x.2), hCN.out])
        have p0 : ((pr : Int) == 0) = false := by simpa using hp0
        have n0 : (n == 0) = true := by simpa using hn
        clear hn hp0
        go_wp2_with fail
        rw [HC.out]
        refine (HRP.out _).mono ?_
        rintro e w5 ⟨rfl, hb⟩
        have R5 := hide (R.out.keep hb)
        have HB5 := hide (HB2.out.trans (hb.mono HB2.out.size))
        clear hb y0 y1 y2 y3 y4 y5
        obtain ⟨⟨y0, y1, y2⟩, y3, y4, y5⟩ := R5.out.cells
        have HFIN : Hid (mkB (digP (⟨tx, fl, wd, true, pr, 100⟩ : Dv) n) = mkB (List.replicate c 48 ++ S)) := hide (by
          rw [HDP.out, H1.out]; unfold digP2; rw [if_neg (fun x => (by decide : ¬ (100 : UInt8) = 111) x.1)])
        go_wp2_with fail
        go_ret
        refine ⟨?_, HB5.out⟩
        rw [HFIN.out, ← HPQ.out]
        rfl
    · have H1 : Hid (digP1 (⟨tx, fl, wd, true, pr, 100⟩ : Dv) n S = List.replicate c 48 ++ S) := hide (by unfold digP1; rw [if_pos rfl, if_neg (fun x => hn x.1), hCN.out])
      have n0 : (n == 0) = false := by simpa using hn
      clear hn
      go_wp2_with fail
      rw [HC.out]
      refine (HRP.out _).mono ?_
      rintro e w5 ⟨rfl, hb⟩
      have R5 := hide (R.out.keep hb)
      have HB5 := hide (HB2.out.trans (hb.mono HB2.out.size))
      clear hb y0 y1 y2 y3 y4 y5
      obtain ⟨⟨y0, y1, y2⟩, y3, y4, y5⟩ := R5.out.cells
      have HFIN : Hid (mkB (digP (⟨tx, fl, wd, true, pr, 100⟩ : Dv) n) = mkB (List.replicate c 48 ++ S)) := hide (by
        rw [HDP.out, H1.out]; unfold digP2; rw [if_neg (fun x => (by decide : ¬ (100 : UInt8) = 111) x.1)])
      go_wp2_with fail
      go_ret
      refine ⟨?_, HB5.out⟩
      rw [HFIN.out, ← HPQ.out]
      rfl
end Go.Proofs.YtifpmigghplmoaaGreatDoor

/- PfTi -/
set_option linter.unusedVariables false
set_option linter.unusedSimpArgs false
namespace Go.Proofs.YtifpmigghplmoaaGreatDoor
open Go.RowKit Go.Pw Go.Shelf
set_option maxHeartbeats 16000000 in
set_option maxRecDepth 100000 in
theorem digits_i_f (tx fl : List UInt8) (wd pr : Nat) (hd : DvOk (⟨tx, fl, wd, false, pr, 105⟩ : Dv)) (n : Int) (h0 : -9223372036854775808 ≤ n) (h1 : n ≤ 9223372036854775807) (w : World) (hT : PowTab w) (hZ : TzT w) :
    Calls Tryz.prog 84 #[dvV (⟨tx, fl, wd, false, pr, 105⟩ : Dv), .int .i64 n] w fun e w' => e = .returned (.string (mkB (digP (⟨tx, fl, wd, false, pr, 105⟩ : Dv) n))) ∧ Below w.heap.size w w' := by
  have HR0 : Hid (DvRow 89 w.heap.size (⟨tx, fl, wd, false, pr, 105⟩ : Dv) (w.alloc (.cells #[.string (mkB tx), .string (mkB fl), .int .i64 (wd : Int), .bool false, .int .i64 (pr : Int), .int .u8 105] 89))) := hide (heap_alloc_new w _)
  have HB0 := hide ((Below.refl w.heap.size w).alloc (Nat.le_refl _) (.cells #[.string (mkB tx), .string (mkB fl), .int .i64 (wd : Int), .bool false, .int .i64 (pr : Int), .int .u8 105] 89))
  have HA : Hid (digA 105 n = basP 10 n.natAbs) := hide (by unfold digA; rw [if_pos (by decide)])
  have HAL := hide (digA_len 105 n h0 h1)
  obtain ⟨S, hS⟩ : ∃ S, digA 105 n = S := ⟨_, rfl⟩
  rw [hS] at HA HAL
  obtain ⟨q, hq⟩ : ∃ q, mkB S = q := ⟨_, rfl⟩
  have hqz : q.size ≤ 24 := by rw [← hq, mkB_size]; exact HAL.out
  have HQZ : Hid (q.size = S.length) := hide (by rw [← hq, mkB_size])
  have HQ : Hid (mkB (basP 10 n.natAbs) = q) := hide (by rw [← HA.out, hq])
  have HI := hide (fun W hb => itoa_any n W h0 h1 (hT.below (w' := W) hb))
  have HTP : Hid (∀ W, Calls Tryz.prog 123 #[.string ⟨(Lib.itoa n).toArray⟩, .string ⟨#[45]⟩] W fun e w' => e = .returned (.string q) ∧ w' = W) := hide (fun W => by
    have h := Tryz.strings_TrimPrefix ⟨(Lib.itoa n).toArray⟩ ⟨#[45]⟩ W
    have e1 : (⟨(Lib.itoa n).toArray⟩ : ByteArray).data.toList = Lib.itoa n := by simp
    have e2 : (⟨#[45]⟩ : ByteArray).data.toList = [45] := rfl
    rw [e1, e2, itoa_abs] at h
    rw [← HQ.out]
    exact h)
  have HDP : Hid (digP (⟨tx, fl, wd, false, pr, 105⟩ : Dv) n = digP2 (⟨tx, fl, wd, false, pr, 105⟩ : Dv) (digP1 (⟨tx, fl, wd, false, pr, 105⟩ : Dv) n S)) := hide (by unfold digP; rw [hS])
  have HQ2 := hide hq
  clear hS hq hT hZ hd h0 h1
  have H1 : Hid (digP1 (⟨tx, fl, wd, false, pr, 105⟩ : Dv) n S = S) := hide (by unfold digP1; rfl)
  have HQ3 : Hid (q = mkB S) := hide HQ2.out.symm
  ·
    show Calls Tryz.prog _ #[.agg #[.string (mkB tx), .string (mkB fl), .int .i64 (wd : Int), .bool false, .int .i64 (pr : Int), .int .u8 105], .int .i64 n] w _
    go_enter Tryz.func84, Tryz.ntmps84
    go_wp2_with fail
    refine (HI.out _ HB0.out).mono ?_
    rintro e w2 ⟨rfl, hb⟩
    have R := hide (HR0.out.keep hb)
    have HB2 := hide (HB0.out.trans (hb.mono HB0.out.size))
    clear hb
    go_wp2_with fail
    refine (HTP.out _).mono ?_
    rintro e w3 ⟨rfl, rfl⟩
    obtain ⟨⟨y0, y1, y2⟩, y3, y4, y5⟩ := R.out.cells
    have HFIN : Hid (mkB (digP (⟨tx, fl, wd, false, pr, 105⟩ : Dv) n) = mkB (S)) := hide (by
      rw [HDP.out, H1.out]; unfold digP2; rw [if_neg (fun x => (by decide : ¬ (105 : UInt8) = 111) x.1)])
    go_wp2_with fail
    go_ret
    refine ⟨?_, HB2.out⟩
    rw [HFIN.out, ← HQ3.out]
    rfl
set_option maxHeartbeats 16000000 in
set_option maxRecDepth 100000 in
theorem digits_i_t (tx fl : List UInt8) (wd pr : Nat) (hd : DvOk (⟨tx, fl, wd, true, pr, 105⟩ : Dv)) (n : Int) (h0 : -9223372036854775808 ≤ n) (h1 : n ≤ 9223372036854775807) (w : World) (hT : PowTab w) (hZ : TzT w) :
    Calls Tryz.prog 84 #[dvV (⟨tx, fl, wd, true, pr, 105⟩ : Dv), .int .i64 n] w fun e w' => e = .returned (.string (mkB (digP (⟨tx, fl, wd, true, pr, 105⟩ : Dv) n))) ∧ Below w.heap.size w w' := by
  have HR0 : Hid (DvRow 89 w.heap.size (⟨tx, fl, wd, true, pr, 105⟩ : Dv) (w.alloc (.cells #[.string (mkB tx), .string (mkB fl), .int .i64 (wd : Int), .bool true, .int .i64 (pr : Int), .int .u8 105] 89))) := hide (heap_alloc_new w _)
  have HB0 := hide ((Below.refl w.heap.size w).alloc (Nat.le_refl _) (.cells #[.string (mkB tx), .string (mkB fl), .int .i64 (wd : Int), .bool true, .int .i64 (pr : Int), .int .u8 105] 89))
  have HA : Hid (digA 105 n = basP 10 n.natAbs) := hide (by unfold digA; rw [if_pos (by decide)])
  have HAL := hide (digA_len 105 n h0 h1)
  obtain ⟨S, hS⟩ : ∃ S, digA 105 n = S := ⟨_, rfl⟩
  rw [hS] at HA HAL
  obtain ⟨q, hq⟩ : ∃ q, mkB S = q := ⟨_, rfl⟩
  have hqz : q.size ≤ 24 := by rw [← hq, mkB_size]; exact HAL.out
  have HQZ : Hid (q.size = S.length) := hide (by rw [← hq, mkB_size])
  have HQ : Hid (mkB (basP 10 n.natAbs) = q) := hide (by rw [← HA.out, hq])
  have HI := hide (fun W hb => itoa_any n W h0 h1 (hT.below (w' := W) hb))
  have HTP : Hid (∀ W, Calls Tryz.prog 123 #[.string ⟨(Lib.itoa n).toArray⟩, .string ⟨#[45]⟩] W fun e w' => e = .returned (.string q) ∧ w' = W) := hide (fun W => by
    have h := Tryz.strings_TrimPrefix ⟨(Lib.itoa n).toArray⟩ ⟨#[45]⟩ W
    have e1 : (⟨(Lib.itoa n).toArray⟩ : ByteArray).data.toList = Lib.itoa n := by simp
    have e2 : (⟨#[45]⟩ : ByteArray).data.toList = [45] := rfl
    rw [e1, e2, itoa_abs] at h
    rw [← HQ.out]
    exact h)
  obtain ⟨c, hc⟩ : ∃ c : Nat, max ((pr : Int) - (q.size : Int)) 0 = (c : Int) := ⟨(max ((pr : Int) - (q.size : Int)) 0).toNat, by omega⟩
  have hpr : pr ≤ 999 := hd.2.2
  have HRP := hide (fun W => repeatOne_any 48 c W (by omega))
  have HR00 : Hid (∀ W, Calls Tryz.prog 86 #[.string ⟨#[48]⟩, .int .i64 0] W fun e w' => e = .returned (.string (mkB [])) ∧ Below W.heap.size W w') := hide (fun W => repeatOne_any 48 0 W (by omega))
  have hcz : (mkB (List.replicate c 48)).size ≤ 1000 := by rw [mkB_size, List.length_replicate]; omega
  have hCN : Hid (c = pr - S.length) := hide (by have := HQZ.out; omega)
  have HC := hide hc
  obtain ⟨p, hp⟩ : ∃ p, mkB (List.replicate c 48) = p := ⟨_, rfl⟩
  rw [hp] at hcz
  simp only [hp] at HRP
  have HPQ : Hid (p ++ q = mkB (List.replicate c 48 ++ S)) := hide (by rw [← hp, ← hq, mkB_app'])
  have hc999 : c ≤ 999 := by omega
  clear hp hc
  have HDP : Hid (digP (⟨tx, fl, wd, true, pr, 105⟩ : Dv) n = digP2 (⟨tx, fl, wd, true, pr, 105⟩ : Dv) (digP1 (⟨tx, fl, wd, true, pr, 105⟩ : Dv) n S)) := hide (by unfold digP; rw [hS])
  have HQ2 := hide hq
  clear hS hq hT hZ hd h0 h1
  ·
    show Calls Tryz.prog _ #[.agg #[.string (mkB tx), .string (mkB fl), .int .i64 (wd : Int), .bool true, .int .i64 (pr : Int), .int .u8 105], .int .i64 n] w _
    go_enter Tryz.func84, Tryz.ntmps84
    go_wp2_with fail
    refine (HI.out _ HB0.out).mono ?_
    rintro e w2 ⟨rfl, hb⟩
    have R := hide (HR0.out.keep hb)
    have HB2 := hide (HB0.out.trans (hb.mono HB0.out.size))
    clear hb
    go_wp2_with fail
    refine (HTP.out _).mono ?_
    rintro e w3 ⟨rfl, rfl⟩
    obtain ⟨⟨y0, y1, y2⟩, y3, y4, y5⟩ := R.out.cells
    by_cases hn : n = 0
    · by_cases hp0 : pr = 0
      · have H1 : Hid (digP1 (⟨tx, fl, wd, true, pr, 105⟩ : Dv) n S = []) := hide (by unfold digP1; rw [if_pos rfl, if_pos ⟨hn, hp0⟩]; simp [hp0])
        have HQ3 : Hid ((mkB [] : ByteArray) ++ (⟨#[]⟩ : ByteArray) = mkB []) := hide rfl
        have n0 : (n == 0) = true := by simpa using hn
        have p0 : ((pr : Int) == 0) = true := by simpa using hp0
        have p1 : (pr : Int) = 0 := by omega
        first
          | rw [hp0] at H35
          | skip
        clear hn hp0
        go_wp2_with fail
        refine (HR00.out _).mono ?_
        rintro e w5 ⟨rfl, hb⟩
        have R5 := hide (R.out.keep hb)
        have HB5 := hide (HB2.out.trans (hb.mono HB2.out.size))
        clear hb y0 y1 y2 y3 y4 y5
        obtain ⟨⟨y0, y1, y2⟩, y3, y4, y5⟩ := R5.out.cells
        have HFIN : Hid (mkB (digP (⟨tx, fl, wd, true, pr, 105⟩ : Dv) n) = mkB ([])) := hide (by
          rw [HDP.out, H1.out]; unfold digP2; rw [if_neg (fun x => (by decide : ¬ (105 : UInt8) = 111) x.1)])
        go_wp2_with fail
        go_ret
        refine ⟨?_, HB5.out⟩
        rw [HFIN.out, ← HQ3.out]
        rfl
      · have H1 : Hid (digP1 (⟨tx, fl, wd, true, pr, 105⟩ : Dv) n S = List.replicate c 48 ++ S) := hide (by unfold digP1; rw [if_pos rfl, if_neg (fun x => hp0 x.2), hCN.out])
        have p0 : ((pr : Int) == 0) = false := by simpa using hp0
        have n0 : (n == 0) = true := by simpa using hn
        clear hn hp0
        go_wp2_with fail
        rw [HC.out]
        refine (HRP.out _).mono ?_
        rintro e w5 ⟨rfl, hb⟩
        have R5 := hide (R.out.keep hb)
        have HB5 := hide (HB2.out.trans (hb.mono HB2.out.size))
        clear hb y0 y1 y2 y3 y4 y5
        obtain ⟨⟨y0, y1, y2⟩, y3, y4, y5⟩ := R5.out.cells
        have HFIN : Hid (mkB (digP (⟨tx, fl, wd, true, pr, 105⟩ : Dv) n) = mkB (List.replicate c 48 ++ S)) := hide (by
          rw [HDP.out, H1.out]; unfold digP2; rw [if_neg (fun x => (by decide : ¬ (105 : UInt8) = 111) x.1)])
        go_wp2_with fail
        go_ret
        refine ⟨?_, HB5.out⟩
        rw [HFIN.out, ← HPQ.out]
        rfl
    · have H1 : Hid (digP1 (⟨tx, fl, wd, true, pr, 105⟩ : Dv) n S = List.replicate c 48 ++ S) := hide (by unfold digP1; rw [if_pos rfl, if_neg (fun x => hn x.1), hCN.out])
      have n0 : (n == 0) = false := by simpa using hn
      clear hn
      go_wp2_with fail
      rw [HC.out]
      refine (HRP.out _).mono ?_
      rintro e w5 ⟨rfl, hb⟩
      have R5 := hide (R.out.keep hb)
      have HB5 := hide (HB2.out.trans (hb.mono HB2.out.size))
      clear hb y0 y1 y2 y3 y4 y5
      obtain ⟨⟨y0, y1, y2⟩, y3, y4, y5⟩ := R5.out.cells
      have HFIN : Hid (mkB (digP (⟨tx, fl, wd, true, pr, 105⟩ : Dv) n) = mkB (List.replicate c 48 ++ S)) := hide (by
        rw [HDP.out, H1.out]; unfold digP2; rw [if_neg (fun x => (by decide : ¬ (105 : UInt8) = 111) x.1)])
      go_wp2_with fail
      go_ret
      refine ⟨?_, HB5.out⟩
      rw [HFIN.out, ← HPQ.out]
      rfl
end Go.Proofs.YtifpmigghplmoaaGreatDoor

/- PfTu -/
set_option linter.unusedVariables false
set_option linter.unusedSimpArgs false
namespace Go.Proofs.YtifpmigghplmoaaGreatDoor
open Go.RowKit Go.Pw Go.Shelf
set_option maxHeartbeats 16000000 in
set_option maxRecDepth 100000 in
theorem digits_u_f (tx fl : List UInt8) (wd pr : Nat) (hd : DvOk (⟨tx, fl, wd, false, pr, 117⟩ : Dv)) (n : Int) (h0 : -9223372036854775808 ≤ n) (h1 : n ≤ 9223372036854775807) (w : World) (hT : PowTab w) (hZ : TzT w) :
    Calls Tryz.prog 84 #[dvV (⟨tx, fl, wd, false, pr, 117⟩ : Dv), .int .i64 n] w fun e w' => e = .returned (.string (mkB (digP (⟨tx, fl, wd, false, pr, 117⟩ : Dv) n))) ∧ Below w.heap.size w w' := by
  have HR0 : Hid (DvRow 89 w.heap.size (⟨tx, fl, wd, false, pr, 117⟩ : Dv) (w.alloc (.cells #[.string (mkB tx), .string (mkB fl), .int .i64 (wd : Int), .bool false, .int .i64 (pr : Int), .int .u8 117] 89))) := hide (heap_alloc_new w _)
  have HB0 := hide ((Below.refl w.heap.size w).alloc (Nat.le_refl _) (.cells #[.string (mkB tx), .string (mkB fl), .int .i64 (wd : Int), .bool false, .int .i64 (pr : Int), .int .u8 117] 89))
  have HA : Hid (digA 117 n = basP 10 (u64N n)) := hide (by unfold digA; simp only [show ((117 : UInt8) = 100 ∨ (117 : UInt8) = 105) = False by decide, if_true, if_false, show ((117 : UInt8) = 117) = True by decide, show ((117 : UInt8) = 111) = False by decide, show ((117 : UInt8) = 120) = False by decide])
  have HAL := hide (digA_len 117 n h0 h1)
  obtain ⟨S, hS⟩ : ∃ S, digA 117 n = S := ⟨_, rfl⟩
  rw [hS] at HA HAL
  obtain ⟨q, hq⟩ : ∃ q, mkB S = q := ⟨_, rfl⟩
  have hqz : q.size ≤ 24 := by rw [← hq, mkB_size]; exact HAL.out
  have HQZ : Hid (q.size = S.length) := hide (by rw [← hq, mkB_size])
  have HQ : Hid (mkB (basP 10 (u64N n)) = q) := hide (by rw [← HA.out, hq])
  have HF := hide (fun W hb => pubFmt_any 10 ((u64N n : Nat) : Int) _ W (fmtUint_10 (u64N n) (u64N_lt n) W (hT.below (w' := W) hb)))
  have HU : Hid (IntKind.u64.wrap n = ((u64N n : Nat) : Int)) := hide (by rw [IntKind.wrap_u64]; unfold u64N; omega)
  rw [HQ.out] at HF
  have HDP : Hid (digP (⟨tx, fl, wd, false, pr, 117⟩ : Dv) n = digP2 (⟨tx, fl, wd, false, pr, 117⟩ : Dv) (digP1 (⟨tx, fl, wd, false, pr, 117⟩ : Dv) n S)) := hide (by unfold digP; rw [hS])
  have HQ2 := hide hq
  clear hS hq hT hZ hd h0 h1
  have H1 : Hid (digP1 (⟨tx, fl, wd, false, pr, 117⟩ : Dv) n S = S) := hide (by unfold digP1; rfl)
  have HQ3 : Hid (q = mkB S) := hide HQ2.out.symm
  ·
    show Calls Tryz.prog _ #[.agg #[.string (mkB tx), .string (mkB fl), .int .i64 (wd : Int), .bool false, .int .i64 (pr : Int), .int .u8 117], .int .i64 n] w _
    go_enter Tryz.func84, Tryz.ntmps84
    go_wp2_with fail
    rw [HU.out]
    refine (HF.out _ HB0.out).mono ?_
    rintro e w2 ⟨rfl, hb⟩
    have R := hide (HR0.out.keep hb)
    have HB2 := hide (HB0.out.trans (hb.mono HB0.out.size))
    clear hb
    obtain ⟨⟨y0, y1, y2⟩, y3, y4, y5⟩ := R.out.cells
    have HFIN : Hid (mkB (digP (⟨tx, fl, wd, false, pr, 117⟩ : Dv) n) = mkB (S)) := hide (by
      rw [HDP.out, H1.out]; unfold digP2; rw [if_neg (fun x => (by decide : ¬ (117 : UInt8) = 111) x.1)])
    go_wp2_with fail
    go_ret
    refine ⟨?_, HB2.out⟩
    rw [HFIN.out, ← HQ3.out]
    rfl
set_option maxHeartbeats 16000000 in
set_option maxRecDepth 100000 in
theorem digits_u_t (tx fl : List UInt8) (wd pr : Nat) (hd : DvOk (⟨tx, fl, wd, true, pr, 117⟩ : Dv)) (n : Int) (h0 : -9223372036854775808 ≤ n) (h1 : n ≤ 9223372036854775807) (w : World) (hT : PowTab w) (hZ : TzT w) :
    Calls Tryz.prog 84 #[dvV (⟨tx, fl, wd, true, pr, 117⟩ : Dv), .int .i64 n] w fun e w' => e = .returned (.string (mkB (digP (⟨tx, fl, wd, true, pr, 117⟩ : Dv) n))) ∧ Below w.heap.size w w' := by
  have HR0 : Hid (DvRow 89 w.heap.size (⟨tx, fl, wd, true, pr, 117⟩ : Dv) (w.alloc (.cells #[.string (mkB tx), .string (mkB fl), .int .i64 (wd : Int), .bool true, .int .i64 (pr : Int), .int .u8 117] 89))) := hide (heap_alloc_new w _)
  have HB0 := hide ((Below.refl w.heap.size w).alloc (Nat.le_refl _) (.cells #[.string (mkB tx), .string (mkB fl), .int .i64 (wd : Int), .bool true, .int .i64 (pr : Int), .int .u8 117] 89))
  have HA : Hid (digA 117 n = basP 10 (u64N n)) := hide (by unfold digA; simp only [show ((117 : UInt8) = 100 ∨ (117 : UInt8) = 105) = False by decide, if_true, if_false, show ((117 : UInt8) = 117) = True by decide, show ((117 : UInt8) = 111) = False by decide, show ((117 : UInt8) = 120) = False by decide])
  have HAL := hide (digA_len 117 n h0 h1)
  obtain ⟨S, hS⟩ : ∃ S, digA 117 n = S := ⟨_, rfl⟩
  rw [hS] at HA HAL
  obtain ⟨q, hq⟩ : ∃ q, mkB S = q := ⟨_, rfl⟩
  have hqz : q.size ≤ 24 := by rw [← hq, mkB_size]; exact HAL.out
  have HQZ : Hid (q.size = S.length) := hide (by rw [← hq, mkB_size])
  have HQ : Hid (mkB (basP 10 (u64N n)) = q) := hide (by rw [← HA.out, hq])
  have HF := hide (fun W hb => pubFmt_any 10 ((u64N n : Nat) : Int) _ W (fmtUint_10 (u64N n) (u64N_lt n) W (hT.below (w' := W) hb)))
  have HU : Hid (IntKind.u64.wrap n = ((u64N n : Nat) : Int)) := hide (by rw [IntKind.wrap_u64]; unfold u64N; omega)
  rw [HQ.out] at HF
  obtain ⟨c, hc⟩ : ∃ c : Nat, max ((pr : Int) - (q.size : Int)) 0 = (c : Int) := ⟨(max ((pr : Int) - (q.size : Int)) 0).toNat, by omega⟩
  have hpr : pr ≤ 999 := hd.2.2
  have HRP := hide (fun W => repeatOne_any 48 c W (by omega))
  have HR00 : Hid (∀ W, Calls Tryz.prog 86 #[.string ⟨#[48]⟩, .int .i64 0] W fun e w' => e = .returned (.string (mkB [])) ∧ Below W.heap.size W w') := hide (fun W => repeatOne_any 48 0 W (by omega))
  have hcz : (mkB (List.replicate c 48)).size ≤ 1000 := by rw [mkB_size, List.length_replicate]; omega
  have hCN : Hid (c = pr - S.length) := hide (by have := HQZ.out; omega)
  have HC := hide hc
  obtain ⟨p, hp⟩ : ∃ p, mkB (List.replicate c 48) = p := ⟨_, rfl⟩
  rw [hp] at hcz
  simp only [hp] at HRP
  have HPQ : Hid (p ++ q = mkB (List.replicate c 48 ++ S)) := hide (by rw [← hp, ← hq, mkB_app'])
  have hc999 : c ≤ 999 := by omega
  clear hp hc
  have HDP : Hid (digP (⟨tx, fl, wd, true, pr, 117⟩ : Dv) n = digP2 (⟨tx, fl, wd, true, pr, 117⟩ : Dv) (digP1 (⟨tx, fl, wd, true, pr, 117⟩ : Dv) n S)) := hide (by unfold digP; rw [hS])
  have HQ2 := hide hq
  clear hS hq hT hZ hd h0 h1
  ·
    show Calls Tryz.prog _ #[.agg #[.string (mkB tx), .string (mkB fl), .int .i64 (wd : Int), .bool true, .int .i64 (pr : Int), .int .u8 117], .int .i64 n] w _
    go_enter Tryz.func84, Tryz.ntmps84
    go_wp2_with fail
    rw [HU.out]
    refine (HF.out _ HB0.out).mono ?_
    rintro e w2 ⟨rfl, hb⟩
    have R := hide (HR0.out.keep hb)
    have HB2 := hide (HB0.out.trans (hb.mono HB0.out.size))
    clear hb
    obtain ⟨⟨y0, y1, y2⟩, y3, y4, y5⟩ := R.out.cells
    by_cases hn : n = 0
    · by_cases hp0 : pr = 0
      · have H1 : Hid (digP1 (⟨tx, fl, wd, true, pr, 117⟩ : Dv) n S = []) := hide (by unfold digP1; rw [if_pos rfl, if_pos ⟨hn, hp0⟩]; simp [hp0])
        have HQ3 : Hid ((mkB [] : ByteArray) ++ (⟨#[]⟩ : ByteArray) = mkB []) := hide rfl
        have n0 : (n == 0) = true := by simpa using hn
        have p0 : ((pr : Int) == 0) = true := by simpa using hp0
        have p1 : (pr : Int) = 0 := by omega
        first
          | rw [hp0] at H35
          | skip
        clear hn hp0
        go_wp2_with fail
        refine (HR00.out _).mono ?_
        rintro e w5 ⟨rfl, hb⟩
        have R5 := hide (R.out.keep hb)
        have HB5 := hide (HB2.out.trans (hb.mono HB2.out.size))
        clear hb y0 y1 y2 y3 y4 y5
        obtain ⟨⟨y0, y1, y2⟩, y3, y4, y5⟩ := R5.out.cells
        have HFIN : Hid (mkB (digP (⟨tx, fl, wd, true, pr, 117⟩ : Dv) n) = mkB ([])) := hide (by
          rw [HDP.out, H1.out]; unfold digP2; rw [if_neg (fun x => (by decide : ¬ (117 : UInt8) = 111) x.1)])
        go_wp2_with fail
        go_ret
        refine ⟨?_, HB5.out⟩
        rw [HFIN.out, ← HQ3.out]
        rfl
      · have H1 : Hid (digP1 (⟨tx, fl, wd, true, pr, 117⟩ : Dv) n S = List.replicate c 48 ++ S) := hide (by unfold digP1; rw [if_pos rfl, if_neg (fun x => hp0 x.2), hCN.out])
        have p0 : ((pr : Int) == 0) = false := by simpa using hp0
        have n0 : (n == 0) = true := by simpa using hn
        clear hn hp0
        go_wp2_with fail
        rw [HC.out]
        refine (HRP.out _).mono ?_
        rintro e w5 ⟨rfl, hb⟩
        have R5 := hide (R.out.keep hb)
        have HB5 := hide (HB2.out.trans (hb.mono HB2.out.size))
        clear hb y0 y1 y2 y3 y4 y5
        obtain ⟨⟨y0, y1, y2⟩, y3, y4, y5⟩ := R5.out.cells
        have HFIN : Hid (mkB (digP (⟨tx, fl, wd, true, pr, 117⟩ : Dv) n) = mkB (List.replicate c 48 ++ S)) := hide (by
          rw [HDP.out, H1.out]; unfold digP2; rw [if_neg (fun x => (by decide : ¬ (117 : UInt8) = 111) x.1)])
        go_wp2_with fail
        go_ret
        refine ⟨?_, HB5.out⟩
        rw [HFIN.out, ← HPQ.out]
        rfl
    · have H1 : Hid (digP1 (⟨tx, fl, wd, true, pr, 117⟩ : Dv) n S = List.replicate c 48 ++ S) := hide (by unfold digP1; rw [if_pos rfl, if_neg (fun x => hn x.1), hCN.out])
      have n0 : (n == 0) = false := by simpa using hn
      clear hn
      go_wp2_with fail
      rw [HC.out]
      refine (HRP.out _).mono ?_
      rintro e w5 ⟨rfl, hb⟩
      have R5 := hide (R.out.keep hb)
      have HB5 := hide (HB2.out.trans (hb.mono HB2.out.size))
      clear hb y0 y1 y2 y3 y4 y5
      obtain ⟨⟨y0, y1, y2⟩, y3, y4, y5⟩ := R5.out.cells
      have HFIN : Hid (mkB (digP (⟨tx, fl, wd, true, pr, 117⟩ : Dv) n) = mkB (List.replicate c 48 ++ S)) := hide (by
        rw [HDP.out, H1.out]; unfold digP2; rw [if_neg (fun x => (by decide : ¬ (117 : UInt8) = 111) x.1)])
      go_wp2_with fail
      go_ret
      refine ⟨?_, HB5.out⟩
      rw [HFIN.out, ← HPQ.out]
      rfl
end Go.Proofs.YtifpmigghplmoaaGreatDoor

/- PfTo -/
set_option linter.unusedVariables false
set_option linter.unusedSimpArgs false
namespace Go.Proofs.YtifpmigghplmoaaGreatDoor
open Go.RowKit Go.Pw Go.Shelf
set_option maxHeartbeats 16000000 in
set_option maxRecDepth 100000 in
theorem digits_o_f (tx fl : List UInt8) (wd pr : Nat) (hd : DvOk (⟨tx, fl, wd, false, pr, 111⟩ : Dv)) (n : Int) (h0 : -9223372036854775808 ≤ n) (h1 : n ≤ 9223372036854775807) (w : World) (hT : PowTab w) (hZ : TzT w) :
    Calls Tryz.prog 84 #[dvV (⟨tx, fl, wd, false, pr, 111⟩ : Dv), .int .i64 n] w fun e w' => e = .returned (.string (mkB (digP (⟨tx, fl, wd, false, pr, 111⟩ : Dv) n))) ∧ Below w.heap.size w w' := by
  have HR0 : Hid (DvRow 89 w.heap.size (⟨tx, fl, wd, false, pr, 111⟩ : Dv) (w.alloc (.cells #[.string (mkB tx), .string (mkB fl), .int .i64 (wd : Int), .bool false, .int .i64 (pr : Int), .int .u8 111] 89))) := hide (heap_alloc_new w _)
  have HB0 := hide ((Below.refl w.heap.size w).alloc (Nat.le_refl _) (.cells #[.string (mkB tx), .string (mkB fl), .int .i64 (wd : Int), .bool false, .int .i64 (pr : Int), .int .u8 111] 89))
  have HA : Hid (digA 111 n = basP 8 (u64N n)) := hide (by unfold digA; simp only [show ((111 : UInt8) = 100 ∨ (111 : UInt8) = 105) = False by decide, if_true, if_false, show ((111 : UInt8) = 117) = False by decide, show ((111 : UInt8) = 111) = True by decide, show ((111 : UInt8) = 120) = False by decide])
  have HAL := hide (digA_len 111 n h0 h1)
  obtain ⟨S, hS⟩ : ∃ S, digA 111 n = S := ⟨_, rfl⟩
  rw [hS] at HA HAL
  obtain ⟨q, hq⟩ : ∃ q, mkB S = q := ⟨_, rfl⟩
  have hqz : q.size ≤ 24 := by rw [← hq, mkB_size]; exact HAL.out
  have HQZ : Hid (q.size = S.length) := hide (by rw [← hq, mkB_size])
  have HQ : Hid (mkB (basP 8 (u64N n)) = q) := hide (by rw [← HA.out, hq])
  have HF := hide (fun W hb => pubFmt_any 8 ((u64N n : Nat) : Int) _ W (fmtUint_8 (u64N n) (u64N_lt n) W (hZ.below (w' := W) hb)))
  have HU : Hid (IntKind.u64.wrap n = ((u64N n : Nat) : Int)) := hide (by rw [IntKind.wrap_u64]; unfold u64N; omega)
  rw [HQ.out] at HF
  have HDP : Hid (digP (⟨tx, fl, wd, false, pr, 111⟩ : Dv) n = digP2 (⟨tx, fl, wd, false, pr, 111⟩ : Dv) (digP1 (⟨tx, fl, wd, false, pr, 111⟩ : Dv) n S)) := hide (by unfold digP; rw [hS])
  have HQ2 := hide hq
  have H35 := hide (fun W => has_any (⟨tx, fl, wd, false, pr, 111⟩ : Dv) 35 W)
  have HHP := hide (fun s W => Tryz.strings_HasPrefix (mkB s) ⟨#[48]⟩ W)
  have e48 : (⟨#[48]⟩ : ByteArray).data.toList = [48] := rfl
  simp only [mkB_data2, e48] at HHP
  have HAP : Hid (∀ s : List UInt8, (⟨#[48]⟩ : ByteArray) ++ mkB s = mkB (48 :: s)) := hide (fun s => by rw [← mkB_list ((⟨#[48]⟩ : ByteArray) ++ mkB s)]; simp [mkB_data2])
  clear e48
  clear hS hq hT hZ hd h0 h1
  have H1 : Hid (digP1 (⟨tx, fl, wd, false, pr, 111⟩ : Dv) n S = S) := hide (by unfold digP1; rfl)
  have HQ3 : Hid (q = mkB S) := hide HQ2.out.symm
  ·
    show Calls Tryz.prog _ #[.agg #[.string (mkB tx), .string (mkB fl), .int .i64 (wd : Int), .bool false, .int .i64 (pr : Int), .int .u8 111], .int .i64 n] w _
    go_enter Tryz.func84, Tryz.ntmps84
    go_wp2_with fail
    rw [HU.out]
    refine (HF.out _ HB0.out).mono ?_
    rintro e w2 ⟨rfl, hb⟩
    have R := hide (HR0.out.keep hb)
    have HB2 := hide (HB0.out.trans (hb.mono HB0.out.size))
    clear hb
    obtain ⟨⟨y0, y1, y2⟩, y3, y4, y5⟩ := R.out.cells
    go_wp2_with fail
    refine (H35.out _).mono ?_
    rintro e w8 ⟨rfl, hb⟩
    have HB8 := hide (HB2.out.trans (hb.mono HB2.out.size))
    clear hb
    obtain ⟨t, ht⟩ : ∃ t, mkB (S) = t := ⟨_, rfl⟩
    have htz : t.size ≤ 2000 := by rw [← ht, mkB_size]; have := HAL.out; simp; omega
    have HHT := hide (fun W => HHP.out (S) W)
    rw [ht] at HHT
    have HT := hide ht
    clear ht
    by_cases h35 : 35 ∈ fl
    · have HM := hide h35
      rw [decide_eq_true h35]
      clear h35
      by_cases hpf : Lib.hasPrefix (S) [48] = true
      · have HFIN : Hid (mkB (digP (⟨tx, fl, wd, false, pr, 111⟩ : Dv) n) = t) := hide (by rw [HDP.out, H1.out]; unfold digP2; rw [if_neg (fun x => x.2.2 hpf), HT.out])
        rw [hpf] at HHT
        clear hpf
        go_wp2_with fail
        rw [HQ3.out, HT.out]
        refine (HHT.out _).mono ?_
        rintro e w9 ⟨rfl, rfl⟩
        go_wp2_with fail
        go_ret
        refine ⟨?_, HB8.out⟩
        rw [HFIN.out]
        rfl
      · have HFIN : Hid (mkB (digP (⟨tx, fl, wd, false, pr, 111⟩ : Dv) n) = (⟨#[48]⟩ : ByteArray) ++ t) := hide (by rw [HDP.out, H1.out]; unfold digP2; rw [if_pos ⟨rfl, HM.out, hpf⟩, ← HT.out, HAP.out])
        rw [Bool.eq_false_iff.2 hpf] at HHT
        clear hpf
        go_wp2_with fail
        rw [HQ3.out, HT.out]
        refine (HHT.out _).mono ?_
        rintro e w9 ⟨rfl, rfl⟩
        go_wp2_with fail
        go_ret
        refine ⟨?_, HB8.out⟩
        rw [HFIN.out]
        rfl
    · have HFIN : Hid (mkB (digP (⟨tx, fl, wd, false, pr, 111⟩ : Dv) n) = mkB (S)) := hide (by rw [HDP.out, H1.out]; unfold digP2; rw [if_neg (fun x => h35 x.2.1)])
      rw [decide_eq_false h35]
      clear h35
      go_wp2_with fail
      go_ret
      refine ⟨?_, HB8.out⟩
      rw [HFIN.out, ← HQ3.out]
      rfl
set_option maxHeartbeats 16000000 in
set_option maxRecDepth 100000 in
theorem digits_o_t (tx fl : List UInt8) (wd pr : Nat) (hd : DvOk (⟨tx, fl, wd, true, pr, 111⟩ : Dv)) (n : Int) (h0 : -9223372036854775808 ≤ n) (h1 : n ≤ 9223372036854775807) (w : World) (hT : PowTab w) (hZ : TzT w) :
    Calls Tryz.prog 84 #[dvV (⟨tx, fl, wd, true, pr, 111⟩ : Dv), .int .i64 n] w fun e w' => e = .returned (.string (mkB (digP (⟨tx, fl, wd, true, pr, 111⟩ : Dv) n))) ∧ Below w.heap.size w w' := by
  have HR0 : Hid (DvRow 89 w.heap.size (⟨tx, fl, wd, true, pr, 111⟩ : Dv) (w.alloc (.cells #[.string (mkB tx), .string (mkB fl), .int .i64 (wd : Int), .bool true, .int .i64 (pr : Int), .int .u8 111] 89))) := hide (heap_alloc_new w _)
  have HB0 := hide ((Below.refl w.heap.size w).alloc (Nat.le_refl _) (.cells #[.string (mkB tx), .string (mkB fl), .int .i64 (wd : Int), .bool true, .int .i64 (pr : Int), .int .u8 111] 89))
  have HA : Hid (digA 111 n = basP 8 (u64N n)) := hide (by unfold digA; simp only [show ((111 : UInt8) = 100 ∨ (111 : UInt8) = 105) = False by decide, if_true, if_false, show ((111 : UInt8) = 117) = False by decide, show ((111 : UInt8) = 111) = True by decide, show ((111 : UInt8) = 120) = False by decide])
  have HAL := hide (digA_len 111 n h0 h1)
  obtain ⟨S, hS⟩ : ∃ S, digA 111 n = S := ⟨_, rfl⟩
  rw [hS] at HA HAL
  obtain ⟨q, hq⟩ : ∃ q, mkB S = q := ⟨_, rfl⟩
  have hqz : q.size ≤ 24 := by rw [← hq, mkB_size]; exact HAL.out
  have HQZ : Hid (q.size = S.length) := hide (by rw [← hq, mkB_size])
  have HQ : Hid (mkB (basP 8 (u64N n)) = q) := hide (by rw [← HA.out, hq])
  have HF := hide (fun W hb => pubFmt_any 8 ((u64N n : Nat) : Int) _ W (fmtUint_8 (u64N n) (u64N_lt n) W (hZ.below (w' := W) hb)))
  have HU : Hid (IntKind.u64.wrap n = ((u64N n : Nat) : Int)) := hide (by rw [IntKind.wrap_u64]; unfold u64N; omega)
  rw [HQ.out] at HF
  obtain ⟨c, hc⟩ : ∃ c : Nat, max ((pr : Int) - (q.size : Int)) 0 = (c : Int) := ⟨(max ((pr : Int) - (q.size : Int)) 0).toNat, by omega⟩
  have hpr : pr ≤ 999 := hd.2.2
  have HRP := hide (fun W => repeatOne_any 48 c W (by omega))
  have HR00 : Hid (∀ W, Calls Tryz.prog 86 #[.string ⟨#[48]⟩, .int .i64 0] W fun e w' => e = .returned (.string (mkB [])) ∧ Below W.heap.size W w') := hide (fun W => repeatOne_any 48 0 W (by omega))
  have hcz : (mkB (List.replicate c 48)).size ≤ 1000 := by rw [mkB_size, List.length_replicate]; omega
  have hCN : Hid (c = pr - S.length) := hide (by have := HQZ.out; omega)
  have HC := hide hc
  obtain ⟨p, hp⟩ : ∃ p, mkB (List.replicate c 48) = p := ⟨_, rfl⟩
  rw [hp] at hcz
  simp only [hp] at HRP
  have HPQ : Hid (p ++ q = mkB (List.replicate c 48 ++ S)) := hide (by rw [← hp, ← hq, mkB_app'])
  have hc999 : c ≤ 999 := by omega
  clear hp hc
  have HDP : Hid (digP (⟨tx, fl, wd, true, pr, 111⟩ : Dv) n = digP2 (⟨tx, fl, wd, true, pr, 111⟩ : Dv) (digP1 (⟨tx, fl, wd, true, pr, 111⟩ : Dv) n S)) := hide (by unfold digP; rw [hS])
  have HQ2 := hide hq
  have H35 := hide (fun W => has_any (⟨tx, fl, wd, true, pr, 111⟩ : Dv) 35 W)
  have HHP := hide (fun s W => Tryz.strings_HasPrefix (mkB s) ⟨#[48]⟩ W)
  have e48 : (⟨#[48]⟩ : ByteArray).data.toList = [48] := rfl
  simp only [mkB_data2, e48] at HHP
  have HAP : Hid (∀ s : List UInt8, (⟨#[48]⟩ : ByteArray) ++ mkB s = mkB (48 :: s)) := hide (fun s => by rw [← mkB_list ((⟨#[48]⟩ : ByteArray) ++ mkB s)]; simp [mkB_data2])
  clear e48
  clear hS hq hT hZ hd h0 h1
  ·
    show Calls Tryz.prog _ #[.agg #[.string (mkB tx), .string (mkB fl), .int .i64 (wd : Int), .bool true, .int .i64 (pr : Int), .int .u8 111], .int .i64 n] w _
    go_enter Tryz.func84, Tryz.ntmps84
    go_wp2_with fail
    rw [HU.out]
    refine (HF.out _ HB0.out).mono ?_
    rintro e w2 ⟨rfl, hb⟩
    have R := hide (HR0.out.keep hb)
    have HB2 := hide (HB0.out.trans (hb.mono HB0.out.size))
    clear hb
    obtain ⟨⟨y0, y1, y2⟩, y3, y4, y5⟩ := R.out.cells
    by_cases hn : n = 0
    · by_cases hp0 : pr = 0
      · have H1 : Hid (digP1 (⟨tx, fl, wd, true, pr, 111⟩ : Dv) n S = []) := hide (by unfold digP1; rw [if_pos rfl, if_pos ⟨hn, hp0⟩]; simp [hp0])
        have HQ3 : Hid ((mkB [] : ByteArray) ++ (⟨#[]⟩ : ByteArray) = mkB []) := hide rfl
        have n0 : (n == 0) = true := by simpa using hn
        have p0 : ((pr : Int) == 0) = true := by simpa using hp0
        have p1 : (pr : Int) = 0 := by omega
        first
          | rw [hp0] at H35
          | skip
        clear hn hp0
        go_wp2_with fail
        refine (HR00.out _).mono ?_
        rintro e w5 ⟨rfl, hb⟩
        have R5 := hide (R.out.keep hb)
        have HB5 := hide (HB2.out.trans (hb.mono HB2.out.size))
        clear hb y0 y1 y2 y3 y4 y5
        obtain ⟨⟨y0, y1, y2⟩, y3, y4, y5⟩ := R5.out.cells
        go_wp2_with fail
        refine (H35.out _).mono ?_
        rintro e w8 ⟨rfl, hb⟩
        have HB8 := hide (HB5.out.trans (hb.mono HB5.out.size))
        clear hb
        obtain ⟨t, ht⟩ : ∃ t, mkB ([]) = t := ⟨_, rfl⟩
        have htz : t.size ≤ 2000 := by rw [← ht, mkB_size]; have := HAL.out; simp
        have HHT := hide (fun W => HHP.out ([]) W)
        rw [ht] at HHT
        have HT := hide ht
        clear ht
        by_cases h35 : 35 ∈ fl
        · have HM := hide h35
          rw [decide_eq_true h35]
          clear h35
          by_cases hpf : Lib.hasPrefix ([]) [48] = true
          · have HFIN : Hid (mkB (digP (⟨tx, fl, wd, true, pr, 111⟩ : Dv) n) = t) := hide (by rw [HDP.out, H1.out]; unfold digP2; rw [if_neg (fun x => x.2.2 hpf), HT.out])
            rw [hpf] at HHT
            clear hpf
            go_wp2_with fail
            rw [HQ3.out, HT.out]
            refine (HHT.out _).mono ?_
            rintro e w9 ⟨rfl, rfl⟩
            go_wp2_with fail
            go_ret
            refine ⟨?_, HB8.out⟩
            rw [HFIN.out]
            rfl
          · have HFIN : Hid (mkB (digP (⟨tx, fl, wd, true, pr, 111⟩ : Dv) n) = (⟨#[48]⟩ : ByteArray) ++ t) := hide (by rw [HDP.out, H1.out]; unfold digP2; rw [if_pos ⟨rfl, HM.out, hpf⟩, ← HT.out, HAP.out])
            rw [Bool.eq_false_iff.2 hpf] at HHT
            clear hpf
            go_wp2_with fail
            rw [HQ3.out, HT.out]
            refine (HHT.out _).mono ?_
            rintro e w9 ⟨rfl, rfl⟩
            go_wp2_with fail
            go_ret
            refine ⟨?_, HB8.out⟩
            rw [HFIN.out]
            rfl
        · have HFIN : Hid (mkB (digP (⟨tx, fl, wd, true, pr, 111⟩ : Dv) n) = mkB ([])) := hide (by rw [HDP.out, H1.out]; unfold digP2; rw [if_neg (fun x => h35 x.2.1)])
          rw [decide_eq_false h35]
          clear h35
          go_wp2_with fail
          go_ret
          refine ⟨?_, HB8.out⟩
          rw [HFIN.out, ← HQ3.out]
          rfl
      · have H1 : Hid (digP1 (⟨tx, fl, wd, true, pr, 111⟩ : Dv) n S = List.replicate c 48 ++ S) := hide (by unfold digP1; rw [if_pos rfl, if_neg (fun x => hp0 x.2), hCN.out])
        have p0 : ((pr : Int) == 0) = false := by simpa using hp0
        have n0 : (n == 0) = true := by simpa using hn
        clear hn hp0
        go_wp2_with fail
        rw [HC.out]
        refine (HRP.out _).mono ?_
        rintro e w5 ⟨rfl, hb⟩
        have R5 := hide (R.out.keep hb)
        have HB5 := hide (HB2.out.trans (hb.mono HB2.out.size))
        clear hb y0 y1 y2 y3 y4 y5
        obtain ⟨⟨y0, y1, y2⟩, y3, y4, y5⟩ := R5.out.cells
        go_wp2_with fail
        refine (H35.out _).mono ?_
        rintro e w8 ⟨rfl, hb⟩
        have HB8 := hide (HB5.out.trans (hb.mono HB5.out.size))
        clear hb
        obtain ⟨t, ht⟩ : ∃ t, mkB (List.replicate c 48 ++ S) = t := ⟨_, rfl⟩
        have htz : t.size ≤ 2000 := by rw [← ht, mkB_size]; have := HAL.out; simp; omega
        have HHT := hide (fun W => HHP.out (List.replicate c 48 ++ S) W)
        rw [ht] at HHT
        have HT := hide ht
        clear ht
        by_cases h35 : 35 ∈ fl
        · have HM := hide h35
          rw [decide_eq_true h35]
          clear h35
          by_cases hpf : Lib.hasPrefix (List.replicate c 48 ++ S) [48] = true
          · have HFIN : Hid (mkB (digP (⟨tx, fl, wd, true, pr, 111⟩ : Dv) n) = t) := hide (by rw [HDP.out, H1.out]; unfold digP2; rw [if_neg (fun x => x.2.2 hpf), HT.out])
            rw [hpf] at HHT
            clear hpf
            go_wp2_with fail
            rw [HPQ.out, HT.out]
            refine (HHT.out _).mono ?_
            rintro e w9 ⟨rfl, rfl⟩
            go_wp2_with fail
            go_ret
            refine ⟨?_, HB8.out⟩
            rw [HFIN.out]
            rfl
          · have HFIN : Hid (mkB (digP (⟨tx, fl, wd, true, pr, 111⟩ : Dv) n) = (⟨#[48]⟩ : ByteArray) ++ t) := hide (by rw [HDP.out, H1.out]; unfold digP2; rw [if_pos ⟨rfl, HM.out, hpf⟩, ← HT.out, HAP.out])
            rw [Bool.eq_false_iff.2 hpf] at HHT
            clear hpf
            go_wp2_with fail
            rw [HPQ.out, HT.out]
            refine (HHT.out _).mono ?_
            rintro e w9 ⟨rfl, rfl⟩
            go_wp2_with fail
            go_ret
            refine ⟨?_, HB8.out⟩
            rw [HFIN.out]
            rfl
        · have HFIN : Hid (mkB (digP (⟨tx, fl, wd, true, pr, 111⟩ : Dv) n) = mkB (List.replicate c 48 ++ S)) := hide (by rw [HDP.out, H1.out]; unfold digP2; rw [if_neg (fun x => h35 x.2.1)])
          rw [decide_eq_false h35]
          clear h35
          go_wp2_with fail
          go_ret
          refine ⟨?_, HB8.out⟩
          rw [HFIN.out, ← HPQ.out]
          rfl
    · have H1 : Hid (digP1 (⟨tx, fl, wd, true, pr, 111⟩ : Dv) n S = List.replicate c 48 ++ S) := hide (by unfold digP1; rw [if_pos rfl, if_neg (fun x => hn x.1), hCN.out])
      have n0 : (n == 0) = false := by simpa using hn
      clear hn
      go_wp2_with fail
      rw [HC.out]
      refine (HRP.out _).mono ?_
      rintro e w5 ⟨rfl, hb⟩
      have R5 := hide (R.out.keep hb)
      have HB5 := hide (HB2.out.trans (hb.mono HB2.out.size))
      clear hb y0 y1 y2 y3 y4 y5
      obtain ⟨⟨y0, y1, y2⟩, y3, y4, y5⟩ := R5.out.cells
      go_wp2_with fail
      refine (H35.out _).mono ?_
      rintro e w8 ⟨rfl, hb⟩
      have HB8 := hide (HB5.out.trans (hb.mono HB5.out.size))
      clear hb
      obtain ⟨t, ht⟩ : ∃ t, mkB (List.replicate c 48 ++ S) = t := ⟨_, rfl⟩
      have htz : t.size ≤ 2000 := by rw [← ht, mkB_size]; have := HAL.out; simp; omega
      have HHT := hide (fun W => HHP.out (List.replicate c 48 ++ S) W)
      rw [ht] at HHT
      have HT := hide ht
      clear ht
      by_cases h35 : 35 ∈ fl
      · have HM := hide h35
        rw [decide_eq_true h35]
        clear h35
        by_cases hpf : Lib.hasPrefix (List.replicate c 48 ++ S) [48] = true
        · have HFIN : Hid (mkB (digP (⟨tx, fl, wd, true, pr, 111⟩ : Dv) n) = t) := hide (by rw [HDP.out, H1.out]; unfold digP2; rw [if_neg (fun x => x.2.2 hpf), HT.out])
          rw [hpf] at HHT
          clear hpf
          go_wp2_with fail
          rw [HPQ.out, HT.out]
          refine (HHT.out _).mono ?_
          rintro e w9 ⟨rfl, rfl⟩
          go_wp2_with fail
          go_ret
          refine ⟨?_, HB8.out⟩
          rw [HFIN.out]
          rfl
        · have HFIN : Hid (mkB (digP (⟨tx, fl, wd, true, pr, 111⟩ : Dv) n) = (⟨#[48]⟩ : ByteArray) ++ t) := hide (by rw [HDP.out, H1.out]; unfold digP2; rw [if_pos ⟨rfl, HM.out, hpf⟩, ← HT.out, HAP.out])
          rw [Bool.eq_false_iff.2 hpf] at HHT
          clear hpf
          go_wp2_with fail
          rw [HPQ.out, HT.out]
          refine (HHT.out _).mono ?_
          rintro e w9 ⟨rfl, rfl⟩
          go_wp2_with fail
          go_ret
          refine ⟨?_, HB8.out⟩
          rw [HFIN.out]
          rfl
      · have HFIN : Hid (mkB (digP (⟨tx, fl, wd, true, pr, 111⟩ : Dv) n) = mkB (List.replicate c 48 ++ S)) := hide (by rw [HDP.out, H1.out]; unfold digP2; rw [if_neg (fun x => h35 x.2.1)])
        rw [decide_eq_false h35]
        clear h35
        go_wp2_with fail
        go_ret
        refine ⟨?_, HB8.out⟩
        rw [HFIN.out, ← HPQ.out]
        rfl
end Go.Proofs.YtifpmigghplmoaaGreatDoor

/- PfTx -/
set_option linter.unusedVariables false
set_option linter.unusedSimpArgs false
namespace Go.Proofs.YtifpmigghplmoaaGreatDoor
open Go.RowKit Go.Pw Go.Shelf
set_option maxHeartbeats 16000000 in
set_option maxRecDepth 100000 in
theorem digits_x_f (tx fl : List UInt8) (wd pr : Nat) (hd : DvOk (⟨tx, fl, wd, false, pr, 120⟩ : Dv)) (n : Int) (h0 : -9223372036854775808 ≤ n) (h1 : n ≤ 9223372036854775807) (w : World) (hT : PowTab w) (hZ : TzT w) :
    Calls Tryz.prog 84 #[dvV (⟨tx, fl, wd, false, pr, 120⟩ : Dv), .int .i64 n] w fun e w' => e = .returned (.string (mkB (digP (⟨tx, fl, wd, false, pr, 120⟩ : Dv) n))) ∧ Below w.heap.size w w' := by
  have HR0 : Hid (DvRow 89 w.heap.size (⟨tx, fl, wd, false, pr, 120⟩ : Dv) (w.alloc (.cells #[.string (mkB tx), .string (mkB fl), .int .i64 (wd : Int), .bool false, .int .i64 (pr : Int), .int .u8 120] 89))) := hide (heap_alloc_new w _)
  have HB0 := hide ((Below.refl w.heap.size w).alloc (Nat.le_refl _) (.cells #[.string (mkB tx), .string (mkB fl), .int .i64 (wd : Int), .bool false, .int .i64 (pr : Int), .int .u8 120] 89))
  have HA : Hid (digA 120 n = basP 16 (u64N n)) := hide (by unfold digA; simp only [show ((120 : UInt8) = 100 ∨ (120 : UInt8) = 105) = False by decide, if_true, if_false, show ((120 : UInt8) = 117) = False by decide, show ((120 : UInt8) = 111) = False by decide, show ((120 : UInt8) = 120) = True by decide])
  have HAL := hide (digA_len 120 n h0 h1)
  obtain ⟨S, hS⟩ : ∃ S, digA 120 n = S := ⟨_, rfl⟩
  rw [hS] at HA HAL
  obtain ⟨q, hq⟩ : ∃ q, mkB S = q := ⟨_, rfl⟩
  have hqz : q.size ≤ 24 := by rw [← hq, mkB_size]; exact HAL.out
  have HQZ : Hid (q.size = S.length) := hide (by rw [← hq, mkB_size])
  have HQ : Hid (mkB (basP 16 (u64N n)) = q) := hide (by rw [← HA.out, hq])
  have HF := hide (fun W hb => pubFmt_any 16 ((u64N n : Nat) : Int) _ W (fmtUint_16 (u64N n) (u64N_lt n) W (hZ.below (w' := W) hb)))
  have HU : Hid (IntKind.u64.wrap n = ((u64N n : Nat) : Int)) := hide (by rw [IntKind.wrap_u64]; unfold u64N; omega)
  rw [HQ.out] at HF
  have HDP : Hid (digP (⟨tx, fl, wd, false, pr, 120⟩ : Dv) n = digP2 (⟨tx, fl, wd, false, pr, 120⟩ : Dv) (digP1 (⟨tx, fl, wd, false, pr, 120⟩ : Dv) n S)) := hide (by unfold digP; rw [hS])
  have HQ2 := hide hq
  clear hS hq hT hZ hd h0 h1
  have H1 : Hid (digP1 (⟨tx, fl, wd, false, pr, 120⟩ : Dv) n S = S) := hide (by unfold digP1; rfl)
  have HQ3 : Hid (q = mkB S) := hide HQ2.out.symm
  ·
    show Calls Tryz.prog _ #[.agg #[.string (mkB tx), .string (mkB fl), .int .i64 (wd : Int), .bool false, .int .i64 (pr : Int), .int .u8 120], .int .i64 n] w _
    go_enter Tryz.func84, Tryz.ntmps84
    go_wp2_with fail
    rw [HU.out]
    refine (HF.out _ HB0.out).mono ?_
    rintro e w2 ⟨rfl, hb⟩
    have R := hide (HR0.out.keep hb)
    have HB2 := hide (HB0.out.trans (hb.mono HB0.out.size))
    clear hb
    obtain ⟨⟨y0, y1, y2⟩, y3, y4, y5⟩ := R.out.cells
    have HFIN : Hid (mkB (digP (⟨tx, fl, wd, false, pr, 120⟩ : Dv) n) = mkB (S)) := hide (by
      rw [HDP.out, H1.out]; unfold digP2; rw [if_neg (fun x => (by decide : ¬ (120 : UInt8) = 111) x.1)])
    go_wp2_with fail
    go_ret
    refine ⟨?_, HB2.out⟩
    rw [HFIN.out, ← HQ3.out]
    rfl
set_option maxHeartbeats 16000000 in
set_option maxRecDepth 100000 in
theorem digits_x_t (tx fl : List UInt8) (wd pr : Nat) (hd : DvOk (⟨tx, fl, wd, true, pr, 120⟩ : Dv)) (n : Int) (h0 : -9223372036854775808 ≤ n) (h1 : n ≤ 9223372036854775807) (w : World) (hT : PowTab w) (hZ : TzT w) :
    Calls Tryz.prog 84 #[dvV (⟨tx, fl, wd, true, pr, 120⟩ : Dv), .int .i64 n] w fun e w' => e = .returned (.string (mkB (digP (⟨tx, fl, wd, true, pr, 120⟩ : Dv) n))) ∧ Below w.heap.size w w' := by
  have HR0 : Hid (DvRow 89 w.heap.size (⟨tx, fl, wd, true, pr, 120⟩ : Dv) (w.alloc (.cells #[.string (mkB tx), .string (mkB fl), .int .i64 (wd : Int), .bool true, .int .i64 (pr : Int), .int .u8 120] 89))) := hide (heap_alloc_new w _)
  have HB0 := hide ((Below.refl w.heap.size w).alloc (Nat.le_refl _) (.cells #[.string (mkB tx), .string (mkB fl), .int .i64 (wd : Int), .bool true, .int .i64 (pr : Int), .int .u8 120] 89))
  have HA : Hid (digA 120 n = basP 16 (u64N n)) := hide (by unfold digA; simp only [show ((120 : UInt8) = 100 ∨ (120 : UInt8) = 105) = False by decide, if_true, if_false, show ((120 : UInt8) = 117) = False by decide, show ((120 : UInt8) = 111) = False by decide, show ((120 : UInt8) = 120) = True by decide])
  have HAL := hide (digA_len 120 n h0 h1)
  obtain ⟨S, hS⟩ : ∃ S, digA 120 n = S := ⟨_, rfl⟩
  rw [hS] at HA HAL
  obtain ⟨q, hq⟩ : ∃ q, mkB S = q := ⟨_, rfl⟩
  have hqz : q.size ≤ 24 := by rw [← hq, mkB_size]; exact HAL.out
  have HQZ : Hid (q.size = S.length) := hide (by rw [← hq, mkB_size])
  have HQ : Hid (mkB (basP 16 (u64N n)) = q) := hide (by rw [← HA.out, hq])
  have HF := hide (fun W hb => pubFmt_any 16 ((u64N n : Nat) : Int) _ W (fmtUint_16 (u64N n) (u64N_lt n) W (hZ.below (w' := W) hb)))
  have HU : Hid (IntKind.u64.wrap n = ((u64N n : Nat) : Int)) := hide (by rw [IntKind.wrap_u64]; unfold u64N; omega)
  rw [HQ.out] at HF
  obtain ⟨c, hc⟩ : ∃ c : Nat, max ((pr : Int) - (q.size : Int)) 0 = (c : Int) := ⟨(max ((pr : Int) - (q.size : Int)) 0).toNat, by omega⟩
  have hpr : pr ≤ 999 := hd.2.2
  have HRP := hide (fun W => repeatOne_any 48 c W (by omega))
  have HR00 : Hid (∀ W, Calls Tryz.prog 86 #[.string ⟨#[48]⟩, .int .i64 0] W fun e w' => e = .returned (.string (mkB [])) ∧ Below W.heap.size W w') := hide (fun W => repeatOne_any 48 0 W (by omega))
  have hcz : (mkB (List.replicate c 48)).size ≤ 1000 := by rw [mkB_size, List.length_replicate]; omega
  have hCN : Hid (c = pr - S.length) := hide (by have := HQZ.out; omega)
  have HC := hide hc
  obtain ⟨p, hp⟩ : ∃ p, mkB (List.replicate c 48) = p := ⟨_, rfl⟩
  rw [hp] at hcz
  simp only [hp] at HRP
  have HPQ : Hid (p ++ q = mkB (List.replicate c 48 ++ S)) := hide (by rw [← hp, ← hq, mkB_app'])
  have hc999 : c ≤ 999 := by omega
  clear hp hc
  have HDP : Hid (digP (⟨tx, fl, wd, true, pr, 120⟩ : Dv) n = digP2 (⟨tx, fl, wd, true, pr, 120⟩ : Dv) (digP1 (⟨tx, fl, wd, true, pr, 120⟩ : Dv) n S)) := hide (by unfold digP; rw [hS])
  have HQ2 := hide hq
  clear hS hq hT hZ hd h0 h1
  ·
    show Calls Tryz.prog _ #[.agg #[.string (mkB tx), .string (mkB fl), .int .i64 (wd : Int), .bool true, .int .i64 (pr : Int), .int .u8 120], .int .i64 n] w _
    go_enter Tryz.func84, Tryz.ntmps84
    go_wp2_with fail
    rw [HU.out]
    refine (HF.out _ HB0.out).mono ?_
    rintro e w2 ⟨rfl, hb⟩
    have R := hide (HR0.out.keep hb)
    have HB2 := hide (HB0.out.trans (hb.mono HB0.out.size))
    clear hb
    obtain ⟨⟨y0, y1, y2⟩, y3, y4, y5⟩ := R.out.cells
    by_cases hn : n = 0
    · by_cases hp0 : pr = 0
      · have H1 : Hid (digP1 (⟨tx, fl, wd, true, pr, 120⟩ : Dv) n S = []) := hide (by unfold digP1; rw [if_pos rfl, if_pos ⟨hn, hp0⟩]; simp [hp0])
        have HQ3 : Hid ((mkB [] : ByteArray) ++ (⟨#[]⟩ : ByteArray) = mkB []) := hide rfl
        have n0 : (n == 0) = true := by simpa using hn
        have p0 : ((pr : Int) == 0) = true := by simpa using hp0
        have p1 : (pr : Int) = 0 := by omega
        first
          | rw [hp0] at H35
          | skip
        clear hn hp0
        go_wp2_with fail
        refine (HR00.out _).mono ?_
        rintro e w5 ⟨rfl, hb⟩
        have R5 := hide (R.out.keep hb)
        have HB5 := hide (HB2.out.trans (hb.mono HB2.out.size))
        clear hb y0 y1 y2 y3 y4 y5
        obtain ⟨⟨y0, y1, y2⟩, y3, y4, y5⟩ := R5.out.cells
        have HFIN : Hid (mkB (digP (⟨tx, fl, wd, true, pr, 120⟩ : Dv) n) = mkB ([])) := hide (by
          rw [HDP.out, H1.out]; unfold digP2; rw [if_neg (fun x => (by decide : ¬ (120 : UInt8) = 111) x.1)])
        go_wp2_with fail
        go_ret
        refine ⟨?_, HB5.out⟩
        rw [HFIN.out, ← HQ3.out]
        rfl
      · have H1 : Hid (digP1 (⟨tx, fl, wd, true, pr, 120⟩ : Dv) n S = List.replicate c 48 ++ S) := hide (by unfold digP1; rw [if_pos rfl, if_neg (fun x => hp0 x.2), hCN.out])
        have p0 : ((pr : Int) == 0) = false := by simpa using hp0
        have n0 : (n == 0) = true := by simpa using hn
        clear hn hp0
        go_wp2_with fail
        rw [HC.out]
        refine (HRP.out _).mono ?_
        rintro e w5 ⟨rfl, hb⟩
        have R5 := hide (R.out.keep hb)
        have HB5 := hide (HB2.out.trans (hb.mono HB2.out.size))
        clear hb y0 y1 y2 y3 y4 y5
        obtain ⟨⟨y0, y1, y2⟩, y3, y4, y5⟩ := R5.out.cells
        have HFIN : Hid (mkB (digP (⟨tx, fl, wd, true, pr, 120⟩ : Dv) n) = mkB (List.replicate c 48 ++ S)) := hide (by
          rw [HDP.out, H1.out]; unfold digP2; rw [if_neg (fun x => (by decide : ¬ (120 : UInt8) = 111) x.1)])
        go_wp2_with fail
        go_ret
        refine ⟨?_, HB5.out⟩
        rw [HFIN.out, ← HPQ.out]
        rfl
    · have H1 : Hid (digP1 (⟨tx, fl, wd, true, pr, 120⟩ : Dv) n S = List.replicate c 48 ++ S) := hide (by unfold digP1; rw [if_pos rfl, if_neg (fun x => hn x.1), hCN.out])
      have n0 : (n == 0) = false := by simpa using hn
      clear hn
      go_wp2_with fail
      rw [HC.out]
      refine (HRP.out _).mono ?_
      rintro e w5 ⟨rfl, hb⟩
      have R5 := hide (R.out.keep hb)
      have HB5 := hide (HB2.out.trans (hb.mono HB2.out.size))
      clear hb y0 y1 y2 y3 y4 y5
      obtain ⟨⟨y0, y1, y2⟩, y3, y4, y5⟩ := R5.out.cells
      have HFIN : Hid (mkB (digP (⟨tx, fl, wd, true, pr, 120⟩ : Dv) n) = mkB (List.replicate c 48 ++ S)) := hide (by
        rw [HDP.out, H1.out]; unfold digP2; rw [if_neg (fun x => (by decide : ¬ (120 : UInt8) = 111) x.1)])
      go_wp2_with fail
      go_ret
      refine ⟨?_, HB5.out⟩
      rw [HFIN.out, ← HPQ.out]
      rfl
end Go.Proofs.YtifpmigghplmoaaGreatDoor

/- PfTX -/
set_option linter.unusedVariables false
set_option linter.unusedSimpArgs false
namespace Go.Proofs.YtifpmigghplmoaaGreatDoor
open Go.RowKit Go.Pw Go.Shelf
set_option maxHeartbeats 16000000 in
set_option maxRecDepth 100000 in
theorem digits_X_f (tx fl : List UInt8) (wd pr : Nat) (lt : UInt8) (hlt : ¬ (lt = 100 ∨ lt = 105 ∨ lt = 117 ∨ lt = 111 ∨ lt = 120)) (hd : DvOk (⟨tx, fl, wd, false, pr, lt⟩ : Dv)) (n : Int) (h0 : -9223372036854775808 ≤ n) (h1 : n ≤ 9223372036854775807) (w : World) (hT : PowTab w) (hZ : TzT w) :
    Calls Tryz.prog 84 #[dvV (⟨tx, fl, wd, false, pr, lt⟩ : Dv), .int .i64 n] w fun e w' => e = .returned (.string (mkB (digP (⟨tx, fl, wd, false, pr, lt⟩ : Dv) n))) ∧ Below w.heap.size w w' := by
  have HR0 : Hid (DvRow 89 w.heap.size (⟨tx, fl, wd, false, pr, lt⟩ : Dv) (w.alloc (.cells #[.string (mkB tx), .string (mkB fl), .int .i64 (wd : Int), .bool false, .int .i64 (pr : Int), .int .u8 (lt.toNat : Int)] 89))) := hide (heap_alloc_new w _)
  have HB0 := hide ((Below.refl w.heap.size w).alloc (Nat.le_refl _) (.cells #[.string (mkB tx), .string (mkB fl), .int .i64 (wd : Int), .bool false, .int .i64 (pr : Int), .int .u8 (lt.toNat : Int)] 89))
  have f100 : ((lt.toNat : Int) == 100) = false := (u8_eqN lt 100).trans (decide_eq_false (fun e => hlt (by simp [e])))
  have f105 : ((lt.toNat : Int) == 105) = false := (u8_eqN lt 105).trans (decide_eq_false (fun e => hlt (by simp [e])))
  have f117 : ((lt.toNat : Int) == 117) = false := (u8_eqN lt 117).trans (decide_eq_false (fun e => hlt (by simp [e])))
  have f111 : ((lt.toNat : Int) == 111) = false := (u8_eqN lt 111).trans (decide_eq_false (fun e => hlt (by simp [e])))
  have f120 : ((lt.toNat : Int) == 120) = false := (u8_eqN lt 120).trans (decide_eq_false (fun e => hlt (by simp [e])))
  have HNE : Hid (¬ lt = 111) := hide (fun e => hlt (by simp [e]))
  have HA : Hid (digA lt n = Lib.toUpperA (basP 16 (u64N n))) := hide (by unfold digA; simp only [not_or] at hlt; obtain ⟨a1, a2, a3, a4, a5⟩ := hlt; simp [a1, a2, a3, a4, a5])
  have HAL := hide (digA_len lt n h0 h1)
  obtain ⟨S, hS⟩ : ∃ S, digA lt n = S := ⟨_, rfl⟩
  rw [hS] at HA HAL
  obtain ⟨q, hq⟩ : ∃ q, mkB S = q := ⟨_, rfl⟩
  have hqz : q.size ≤ 24 := by rw [← hq, mkB_size]; exact HAL.out
  have HQZ : Hid (q.size = S.length) := hide (by rw [← hq, mkB_size])
  have HQ : Hid (mkB (Lib.toUpperA (basP 16 (u64N n))) = q) := hide (by rw [← HA.out, hq])
  have HF := hide (fun W hb => pubFmt_any 16 ((u64N n : Nat) : Int) _ W (fmtUint_16 (u64N n) (u64N_lt n) W (hZ.below (w' := W) hb)))
  have HU : Hid (IntKind.u64.wrap n = ((u64N n : Nat) : Int)) := hide (by rw [IntKind.wrap_u64]; unfold u64N; omega)
  have HUP : Hid (∀ W, Calls Tryz.prog 125 #[.string (mkB (basP 16 (u64N n)))] W fun e w' => e = .returned (.string q) ∧ Below W.heap.size W w') := hide (fun W => by
    have hl := basP_len (b := 16) (by omega) 15 (u64N n) (by have := u64N_lt n; omega)
    have h := Tryz.strings_ToUpper_ascii (mkB (basP 16 (u64N n))) W (by rw [mkB_size]; omega) (fun j x hx => by
      rw [mkB_data2] at hx
      exact basP_ascii (by omega) (by omega) _ _ (Nat.le_refl _) x (List.mem_of_getElem? hx))
    rw [mkB_data2] at h
    rw [← HQ.out]
    exact h)
  have HDP : Hid (digP (⟨tx, fl, wd, false, pr, lt⟩ : Dv) n = digP2 (⟨tx, fl, wd, false, pr, lt⟩ : Dv) (digP1 (⟨tx, fl, wd, false, pr, lt⟩ : Dv) n S)) := hide (by unfold digP; rw [hS])
  have HQ2 := hide hq
  clear hS hq hT hZ hd h0 h1 hlt
  have H1 : Hid (digP1 (⟨tx, fl, wd, false, pr, lt⟩ : Dv) n S = S) := hide (by unfold digP1; rfl)
  have HQ3 : Hid (q = mkB S) := hide HQ2.out.symm
  ·
    show Calls Tryz.prog _ #[.agg #[.string (mkB tx), .string (mkB fl), .int .i64 (wd : Int), .bool false, .int .i64 (pr : Int), .int .u8 (lt.toNat : Int)], .int .i64 n] w _
    go_enter Tryz.func84, Tryz.ntmps84
    go_wp2_with fail
    rw [HU.out]
    refine (HF.out _ HB0.out).mono ?_
    rintro e w1 ⟨rfl, hb⟩
    have R1 := hide (HR0.out.keep hb)
    have HB1 := hide (HB0.out.trans (hb.mono HB0.out.size))
    clear hb
    go_wp2_with fail
    refine (HUP.out _).mono ?_
    rintro e w2 ⟨rfl, hb⟩
    have R := hide (R1.out.keep hb)
    have HB2 := hide (HB1.out.trans (hb.mono HB1.out.size))
    clear hb
    obtain ⟨⟨y0, y1, y2⟩, y3, y4, y5⟩ := R.out.cells
    have HFIN : Hid (mkB (digP (⟨tx, fl, wd, false, pr, lt⟩ : Dv) n) = mkB (S)) := hide (by
      rw [HDP.out, H1.out]; unfold digP2; rw [if_neg (fun x => HNE.out x.1)])
    go_wp2_with fail
    go_ret
    refine ⟨?_, HB2.out⟩
    rw [HFIN.out, ← HQ3.out]
    rfl
set_option maxHeartbeats 16000000 in
set_option maxRecDepth 100000 in
theorem digits_X_t (tx fl : List UInt8) (wd pr : Nat) (lt : UInt8) (hlt : ¬ (lt = 100 ∨ lt = 105 ∨ lt = 117 ∨ lt = 111 ∨ lt = 120)) (hd : DvOk (⟨tx, fl, wd, true, pr, lt⟩ : Dv)) (n : Int) (h0 : -9223372036854775808 ≤ n) (h1 : n ≤ 9223372036854775807) (w : World) (hT : PowTab w) (hZ : TzT w) :
    Calls Tryz.prog 84 #[dvV (⟨tx, fl, wd, true, pr, lt⟩ : Dv), .int .i64 n] w fun e w' => e = .returned (.string (mkB (digP (⟨tx, fl, wd, true, pr, lt⟩ : Dv) n))) ∧ Below w.heap.size w w' := by
  have HR0 : Hid (DvRow 89 w.heap.size (⟨tx, fl, wd, true, pr, lt⟩ : Dv) (w.alloc (.cells #[.string (mkB tx), .string (mkB fl), .int .i64 (wd : Int), .bool true, .int .i64 (pr : Int), .int .u8 (lt.toNat : Int)] 89))) := hide (heap_alloc_new w _)
  have HB0 := hide ((Below.refl w.heap.size w).alloc (Nat.le_refl _) (.cells #[.string (mkB tx), .string (mkB fl), .int .i64 (wd : Int), .bool true, .int .i64 (pr : Int), .int .u8 (lt.toNat : Int)] 89))
  have f100 : ((lt.toNat : Int) == 100) = false := (u8_eqN lt 100).trans (decide_eq_false (fun e => hlt (by simp [e])))
  have f105 : ((lt.toNat : Int) == 105) = false := (u8_eqN lt 105).trans (decide_eq_false (fun e => hlt (by simp [e])))
  have f117 : ((lt.toNat : Int) == 117) = false := (u8_eqN lt 117).trans (decide_eq_false (fun e => hlt (by simp [e])))
  have f111 : ((lt.toNat : Int) == 111) = false := (u8_eqN lt 111).trans (decide_eq_false (fun e => hlt (by simp [e])))
  have f120 : ((lt.toNat : Int) == 120) = false := (u8_eqN lt 120).trans (decide_eq_false (fun e => hlt (by simp [e])))
  have HNE : Hid (¬ lt = 111) := hide (fun e => hlt (by simp [e]))
  have HA : Hid (digA lt n = Lib.toUpperA (basP 16 (u64N n))) := hide (by unfold digA; simp only [not_or] at hlt; obtain ⟨a1, a2, a3, a4, a5⟩ := hlt; simp [a1, a2, a3, a4, a5])
  have HAL := hide (digA_len lt n h0 h1)
  obtain ⟨S, hS⟩ : ∃ S, digA lt n = S := ⟨_, rfl⟩
  rw [hS] at HA HAL
  obtain ⟨q, hq⟩ : ∃ q, mkB S = q := ⟨_, rfl⟩
  have hqz : q.size ≤ 24 := by rw [← hq, mkB_size]; exact HAL.out
  have HQZ : Hid (q.size = S.length) := hide (by rw [← hq, mkB_size])
  have HQ : Hid (mkB (Lib.toUpperA (basP 16 (u64N n))) = q) := hide (by rw [← HA.out, hq])
  have HF := hide (fun W hb => pubFmt_any 16 ((u64N n : Nat) : Int) _ W (fmtUint_16 (u64N n) (u64N_lt n) W (hZ.below (w' := W) hb)))
  have HU : Hid (IntKind.u64.wrap n = ((u64N n : Nat) : Int)) := hide (by rw [IntKind.wrap_u64]; unfold u64N; omega)
  have HUP : Hid (∀ W, Calls Tryz.prog 125 #[.string (mkB (basP 16 (u64N n)))] W fun e w' => e = .returned (.string q) ∧ Below W.heap.size W w') := hide (fun W => by
    have hl := basP_len (b := 16) (by omega) 15 (u64N n) (by have := u64N_lt n; omega)
    have h := Tryz.strings_ToUpper_ascii (mkB (basP 16 (u64N n))) W (by rw [mkB_size]; omega) (fun j x hx => by
      rw [mkB_data2] at hx
      exact basP_ascii (by omega) (by omega) _ _ (Nat.le_refl _) x (List.mem_of_getElem? hx))
    rw [mkB_data2] at h
    rw [← HQ.out]
    exact h)
  obtain ⟨c, hc⟩ : ∃ c : Nat, max ((pr : Int) - (q.size : Int)) 0 = (c : Int) := ⟨(max ((pr : Int) - (q.size : Int)) 0).toNat, by omega⟩
  have hpr : pr ≤ 999 := hd.2.2
  have HRP := hide (fun W => repeatOne_any 48 c W (by omega))
  have HR00 : Hid (∀ W, Calls Tryz.prog 86 #[.string ⟨#[48]⟩, .int .i64 0] W fun e w' => e = .returned (.string (mkB [])) ∧ Below W.heap.size W w') := hide (fun W => repeatOne_any 48 0 W (by omega))
  have hcz : (mkB (List.replicate c 48)).size ≤ 1000 := by rw [mkB_size, List.length_replicate]; omega
  have hCN : Hid (c = pr - S.length) := hide (by have := HQZ.out; omega)
  have HC := hide hc
  obtain ⟨p, hp⟩ : ∃ p, mkB (List.replicate c 48) = p := ⟨_, rfl⟩
  rw [hp] at hcz
  simp only [hp] at HRP
  have HPQ : Hid (p ++ q = mkB (List.replicate c 48 ++ S)) := hide (by rw [← hp, ← hq, mkB_app'])
  have hc999 : c ≤ 999 := by omega
  clear hp hc
  have HDP : Hid (digP (⟨tx, fl, wd, true, pr, lt⟩ : Dv) n = digP2 (⟨tx, fl, wd, true, pr, lt⟩ : Dv) (digP1 (⟨tx, fl, wd, true, pr, lt⟩ : Dv) n S)) := hide (by unfold digP; rw [hS])
  have HQ2 := hide hq
  clear hS hq hT hZ hd h0 h1 hlt
  ·
    show Calls Tryz.prog _ #[.agg #[.string (mkB tx), .string (mkB fl), .int .i64 (wd : Int), .bool true, .int .i64 (pr : Int), .int .u8 (lt.toNat : Int)], .int .i64 n] w _
    go_enter Tryz.func84, Tryz.ntmps84
    go_wp2_with fail
    rw [HU.out]
    refine (HF.out _ HB0.out).mono ?_
    rintro e w1 ⟨rfl, hb⟩
    have R1 := hide (HR0.out.keep hb)
    have HB1 := hide (HB0.out.trans (hb.mono HB0.out.size))
    clear hb
    go_wp2_with fail
    refine (HUP.out _).mono ?_
    rintro e w2 ⟨rfl, hb⟩
    have R := hide (R1.out.keep hb)
    have HB2 := hide (HB1.out.trans (hb.mono HB1.out.size))
    clear hb
    obtain ⟨⟨y0, y1, y2⟩, y3, y4, y5⟩ := R.out.cells
    by_cases hn : n = 0
    · by_cases hp0 : pr = 0
      · have H1 : Hid (digP1 (⟨tx, fl, wd, true, pr, lt⟩ : Dv) n S = []) := hide (by unfold digP1; rw [if_pos rfl, if_pos ⟨hn, hp0⟩]; simp [hp0])
        have HQ3 : Hid ((mkB [] : ByteArray) ++ (⟨#[]⟩ : ByteArray) = mkB []) := hide rfl
        have n0 : (n == 0) = true := by simpa using hn
        have p0 : ((pr : Int) == 0) = true := by simpa using hp0
        have p1 : (pr : Int) = 0 := by omega
        first
          | rw [hp0] at H35
          | skip
        clear hn hp0
        go_wp2_with fail
        refine (HR00.out _).mono ?_
        rintro e w5 ⟨rfl, hb⟩
        have R5 := hide (R.out.keep hb)
        have HB5 := hide (HB2.out.trans (hb.mono HB2.out.size))
        clear hb y0 y1 y2 y3 y4 y5
        obtain ⟨⟨y0, y1, y2⟩, y3, y4, y5⟩ := R5.out.cells
        have HFIN : Hid (mkB (digP (⟨tx, fl, wd, true, pr, lt⟩ : Dv) n) = mkB ([])) := hide (by
          rw [HDP.out, H1.out]; unfold digP2; rw [if_neg (fun x => HNE.out x.1)])
        go_wp2_with fail
        go_ret
        refine ⟨?_, HB5.out⟩
        rw [HFIN.out, ← HQ3.out]
        rfl
      · have H1 : Hid (digP1 (⟨tx, fl, wd, true, pr, lt⟩ : Dv) n S = List.replicate c 48 ++ S) := hide (by unfold digP1; rw [if_pos rfl, if_neg (fun x => hp0 x.2), hCN.out])
        have p0 : ((pr : Int) == 0) = false := by simpa using hp0
        have n0 : (n == 0) = true := by simpa using hn
        clear hn hp0
        go_wp2_with fail
        rw [HC.out]
        refine (HRP.out _).mono ?_
        rintro e w5 ⟨rfl, hb⟩
        have R5 := hide (R.out.keep hb)
        have HB5 := hide (HB2.out.trans (hb.mono HB2.out.size))
        clear hb y0 y1 y2 y3 y4 y5
        obtain ⟨⟨y0, y1, y2⟩, y3, y4, y5⟩ := R5.out.cells
        have HFIN : Hid (mkB (digP (⟨tx, fl, wd, true, pr, lt⟩ : Dv) n) = mkB (List.replicate c 48 ++ S)) := hide (by
          rw [HDP.out, H1.out]; unfold digP2; rw [if_neg (fun x => HNE.out x.1)])
        go_wp2_with fail
        go_ret
        refine ⟨?_, HB5.out⟩
        rw [HFIN.out, ← HPQ.out]
        rfl
    · have H1 : Hid (digP1 (⟨tx, fl, wd, true, pr, lt⟩ : Dv) n S = List.replicate c 48 ++ S) := hide (by unfold digP1; rw [if_pos rfl, if_neg (fun x => hn x.1), hCN.out])
      have n0 : (n == 0) = false := by simpa using hn
      clear hn
      go_wp2_with fail
      rw [HC.out]
      refine (HRP.out _).mono ?_
      rintro e w5 ⟨rfl, hb⟩
      have R5 := hide (R.out.keep hb)
      have HB5 := hide (HB2.out.trans (hb.mono HB2.out.size))
      clear hb y0 y1 y2 y3 y4 y5
      obtain ⟨⟨y0, y1, y2⟩, y3, y4, y5⟩ := R5.out.cells
      have HFIN : Hid (mkB (digP (⟨tx, fl, wd, true, pr, lt⟩ : Dv) n) = mkB (List.replicate c 48 ++ S)) := hide (by
        rw [HDP.out, H1.out]; unfold digP2; rw [if_neg (fun x => HNE.out x.1)])
      go_wp2_with fail
      go_ret
      refine ⟨?_, HB5.out⟩
      rw [HFIN.out, ← HPQ.out]
      rfl
end Go.Proofs.YtifpmigghplmoaaGreatDoor
