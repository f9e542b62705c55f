/- strconv.Itoa, over the table of the powers of ten as the start-up lays it. -/
import Derived.Test.YtifpmigghplmoaaGreatDoorShelf
import Derived.Test.YtifpmigghplmoaaGreatDoorZPrA
import Derived.Lib.AppendIntMem
import Derived.Lib.ItoaLen
import Derived.Lib.LaidTab
import Derived.Test.YtifpmigghplmoaaGreatDoorZPfQ
import Derived.Test.YtifpmigghplmoaaGreatDoorShelf5
import Derived.Test.YtifpmigghplmoaaGreatDoorZFill
import Derived.Lib.ItoaMem
import Derived.Laws.BitsAll
/- Itoa -/
set_option linter.unusedVariables false
namespace Go.Proofs.YtifpmigghplmoaaGreatDoor
open Go.RowKit Go.Pw
/-- the table of the powers of ten is as the start-up lays it -/
def PowTab (w : World) : Prop := Lib.TabIs Tryz.prog w "internal/strconv.uint64pow10" .u64 Lib.pow10Tab
theorem PowTab.below {w w' : World} (h : PowTab w) (hb : Below w.heap.size w w') : PowTab w' := by
  have hg : Tryz.prog.globalNamed "internal/strconv.uint64pow10" = some 5 := by kernel_rfl
  unfold PowTab Lib.TabIs World.var? at h ⊢
  rw [hg] at h ⊢
  simp only [Option.bind_some] at h ⊢
  have hlt : 5 < w.heap.size := by
    rcases Nat.lt_or_ge 5 w.heap.size with h' | h'
    · exact h'
    · rw [Array.getElem?_eq_none h'] at h; cases h
  rw [hb.block _ hlt]
  exact h
theorem itoa_any (n : Int) (w : World) (h0 : -9223372036854775808 ≤ n) (h1 : n ≤ 9223372036854775807) (hT : PowTab w) :
    Calls Tryz.prog 62 #[.int .i64 n] w fun e w' => e = .returned (.string ⟨(Lib.itoa n).toArray⟩) ∧ Below w.heap.size w w' :=
  (Tryz.strconv_Itoa n h0 h1 w hT).mono fun e w' ⟨h1, k, os, h2⟩ => ⟨h1, by rw [h2]; exact Lib.below_grow _ w (Nat.le_refl _) k os⟩
end Go.Proofs.YtifpmigghplmoaaGreatDoor

/- PfR -/
set_option linter.unusedVariables false
set_option linter.unusedSimpArgs false
namespace Go.Proofs.YtifpmigghplmoaaGreatDoor
open Go.RowKit Go.Pw Go.Shelf Go.Sort
set_option maxHeartbeats 12800000 in
set_option maxRecDepth 100000 in
theorem fmtUint_10 (u : Nat) (hu64 : u < 18446744073709551616) (w : World) (hT : PowTab w) :
    Calls Tryz.prog 152 #[.int .u64 (u : Int), .int .i64 10] w fun e w' => e = .returned (.string (mkB (basP 10 u))) ∧ Below w.heap.size w w' := by
  rw [basP_ten]
  by_cases hs : u < 100
  · have HSM := hide (fun W => Tryz.internal_strconv_small u hs W)
    have hs2 : (u : Int) < 100 := by omega
    clear hT
    go_enter Tryz.func152, Tryz.ntmps152
    go_wp2_with fail
    refine (HSM.out _).mono ?_
    rintro e w' ⟨rfl, rfl⟩
    go_wp2_with fail
    go_ret
    exact ⟨rfl, Below.refl _ _⟩
  · have hu1 : 1 ≤ u := by omega
    have hs2 : ¬ (u : Int) < 100 := by omega
    have hnd20 : Lib.nDigits u ≤ 20 := by have := Lib.numDigits_eq u hu1 hu64; split at this <;> omega
    have hal : Tryz.prog.arrayLen 202 = 24 := by simp [Program.arrayLen, Tryz.underlying202]
    have hsl : ∀ W, (Instr.sliceAt 202 (.pointer (some ⟨w.heap.size, 0, none⟩)) none (some (.int .i64 (Lib.nDigits u : Int))) none).run Tryz.prog W = .ok (.slice (some ⟨w.heap.size, 0, none⟩) (Lib.nDigits u) 24) W := fun W => by
      rw [run_sliceAt_array_h W 202 ⟨w.heap.size, 0, none⟩ (by simp [Program.arrayLen, Program.elem, Tryz.underlying202]) .i64 (Lib.nDigits u : Int) (by omega) (by rw [hal]; omega)]
      go_simp
    have hH0 := Lib.holds_zero0 w 202 (Lib.nDigits u) (by omega)
    have hfmt := Tryz.internal_strconv_formatBase10 w.heap.size 0 24 u (Array.replicate (Lib.nDigits u) 0) (w.alloc (.cells Lib.zeros24 202)) hH0 (by rw [Array.size_replicate]; exact Lib.lt_pow_nDigits u) hu64 (by rw [Array.size_replicate]; omega)
    rw [Array.size_replicate] at hfmt
    have HH0 := hide hH0
    have HF := hide hfmt
    have HND := hide (Tryz.internal_strconv_numDigits u hu1 hu64 _ (Lib.tabIs_alloc hT (.cells Lib.zeros24 202)))
    clear hH0 hal hfmt hT
    go_enter Tryz.func152, Tryz.ntmps152
    go_wp2_with fail
    refine HND.out.mono ?_
    rintro e w' ⟨rfl, rfl⟩
    go_wp2_with fail
    refine HF.out.mono ?_
    rintro e w' ⟨rfl, k, v', dk, rfl, hF⟩
    have hcv : (convert 41 9 (.slice (some ⟨w.heap.size, 0, none⟩) (Lib.nDigits u) 24)).run Tryz.prog ((putRow (fun (b : UInt8) => Value.int .u8 (b.toNat : Int)) (w.alloc (.cells Lib.zeros24 202)) w.heap.size 0 dk).drewN k) = .ok (.string ⟨(Lib.decDigits u).toArray⟩) ((putRow (fun (b : UInt8) => Value.int .u8 (b.toNat : Int)) (w.alloc (.cells Lib.zeros24 202)) w.heap.size 0 dk).drewN k) := by
      have h := run_convert_bytes_back (P := Tryz.prog) ((putRow (fun (b : UInt8) => Value.int .u8 (b.toNat : Int)) (w.alloc (.cells Lib.zeros24 202)) w.heap.size 0 dk).drewN k) 41 9 5 ⟨w.heap.size, 0, none⟩ 24 (Lib.decDigits u) Tryz.underlying41 Tryz.underlying5 Tryz.underlying9 (fun j hj => by
        rw [Lib.row_is_numeral hF j hj, Lib.add_plain, World.cell?_drewN]
        exact cell?_putRow (fun (b : UInt8) => Value.int .u8 (b.toNat : Int)) _ w.heap.size 0 _ dk HH0.out (by rw [hF.size, Array.size_replicate]) j (by rw [hF.size]; rw [Lib.decDigits_length] at hj; exact hj))
      rw [Lib.decDigits_length] at h
      exact h
    go_wp2_with fail
    go_ret
    obtain ⟨os, eo⟩ := Lib.fin_at w (.cells Lib.zeros24 202) dk k 0
    refine ⟨rfl, ?_⟩
    rw [eo]
    exact Lib.below_grow w.heap.size w (Nat.le_refl _) k os
end Go.Proofs.YtifpmigghplmoaaGreatDoor

/- PfV -/
set_option linter.unusedVariables false
set_option linter.unusedSimpArgs false
namespace Go.Pw
open Go.RowKit
theorem and_m7 (v : Nat) (hv : v < 18446744073709551616) : bits BinOp.and .u64 (v : Int) 7 = ((v % 8 : Nat) : Int) := by
  go_bits2
theorem and_m15 (v : Nat) (hv : v < 18446744073709551616) : bits BinOp.and .u64 (v : Int) 15 = ((v % 16 : Nat) : Int) := by
  go_bits2
theorem digs_fin : ∀ r : Fin 16, (⟨#[48, 49, 50, 51, 52, 53, 54, 55, 56, 57, 97, 98, 99, 100, 101, 102, 103, 104, 105, 106, 107, 108, 109, 110, 111, 112, 113, 114, 115, 116, 117, 118, 119, 120, 121, 122]⟩ : ByteArray)[r.val]'(Nat.lt_of_lt_of_le r.isLt (by decide)) = dgc r.val := by decide +kernel
theorem digs_at (r : Nat) (h : r < 16) {h2 : r < 36} : (⟨#[48, 49, 50, 51, 52, 53, 54, 55, 56, 57, 97, 98, 99, 100, 101, 102, 103, 104, 105, 106, 107, 108, 109, 110, 111, 112, 113, 114, 115, 116, 117, 118, 119, 120, 121, 122]⟩ : ByteArray)[r]'h2 = dgc r := digs_fin ⟨r, h⟩
def zeros65 : Array Value := #[Value.int .u8 0, Value.int .u8 0, Value.int .u8 0, Value.int .u8 0, Value.int .u8 0, Value.int .u8 0, Value.int .u8 0, Value.int .u8 0, Value.int .u8 0, Value.int .u8 0, Value.int .u8 0, Value.int .u8 0, Value.int .u8 0, Value.int .u8 0, Value.int .u8 0, Value.int .u8 0, Value.int .u8 0, Value.int .u8 0, Value.int .u8 0, Value.int .u8 0, Value.int .u8 0, Value.int .u8 0, Value.int .u8 0, Value.int .u8 0, Value.int .u8 0, Value.int .u8 0, Value.int .u8 0, Value.int .u8 0, Value.int .u8 0, Value.int .u8 0, Value.int .u8 0, Value.int .u8 0, Value.int .u8 0, Value.int .u8 0, Value.int .u8 0, Value.int .u8 0, Value.int .u8 0, Value.int .u8 0, Value.int .u8 0, Value.int .u8 0, Value.int .u8 0, Value.int .u8 0, Value.int .u8 0, Value.int .u8 0, Value.int .u8 0, Value.int .u8 0, Value.int .u8 0, Value.int .u8 0, Value.int .u8 0, Value.int .u8 0, Value.int .u8 0, Value.int .u8 0, Value.int .u8 0, Value.int .u8 0, Value.int .u8 0, Value.int .u8 0, Value.int .u8 0, Value.int .u8 0, Value.int .u8 0, Value.int .u8 0, Value.int .u8 0, Value.int .u8 0, Value.int .u8 0, Value.int .u8 0, Value.int .u8 0]
/-- the array of 65 bytes in its block: the cells from k on hold s -/
structure FbW (w0 : World) (s : List UInt8) (k : Nat) (w : World) : Prop where
  bel : Below w0.heap.size w0 w
  cell : ∀ j, j < 65 → ∃ x, w.cell? ⟨w0.heap.size, j, none⟩ = some x
  frozen : ∀ j, w.frozen? ⟨w0.heap.size, j, none⟩ = false
  reads : ∀ j (h : j < s.length), w.cell? ⟨w0.heap.size, k + j, none⟩ = some (.int .u8 (s[j].toNat : Int))
theorem FbW.start (w : World) (t : TypeId) : FbW w [] 65 (w.alloc (.cells zeros65 t)) := by
  refine ⟨(Below.refl _ w).alloc (Nat.le_refl _) _, fun j hj => ?_, fun j => World.frozen?_alloc_new _ _ _ _, fun j h => by simp at h⟩
  rw [World.cell?_alloc_new]
  have e : zeros65 = Array.replicate 65 (.int .u8 0) := rfl
  exact ⟨.int .u8 0, by rw [e]; simp [hj]⟩
theorem FbW.step {w0 w : World} {s : List UInt8} {m : Nat} (h : FbW w0 s (m + 1) w) (c : UInt8) (hm : m < 65) : FbW w0 (c :: s) m (w.setCell ⟨w0.heap.size, m, none⟩ (.int .u8 (c.toNat : Int))) := by
  obtain ⟨h1, h2, h3, h4⟩ := h
  obtain ⟨old, ho⟩ := h2 m hm
  refine ⟨h1.setCell (Nat.le_refl _) _, fun j hj => ?_, fun j => by rw [World.frozen?_setCell]; exact h3 j, fun j hj => ?_⟩
  · by_cases e : j = m
    · subst e; exact ⟨_, World.cell?_setCell_same _ _ _ ho⟩
    · obtain ⟨x, hx⟩ := h2 j hj
      exact ⟨x, by rw [World.cell?_setCell_other _ _ _ _ (by simp; try omega)]; exact hx⟩
  · cases j with
    | zero => exact World.cell?_setCell_same _ _ _ ho
    | succ i =>
      rw [World.cell?_setCell_other _ _ _ _ (by simp; try omega), List.getElem_cons_succ, show m + (i + 1) = m + 1 + i by omega]
      exact h4 i (by simpa using hj)
end Go.Pw
namespace Go.Proofs.YtifpmigghplmoaaGreatDoor
open Go.RowKit Go.Pw Go.Shelf
/-- the cells of the table that TrailingZeros reads -/
structure TzT (w : World) : Prop where
  c8 : w.cell? ⟨10, 7, none⟩ = some (.int .u8 3)
  c16 : w.cell? ⟨10, 15, none⟩ = some (.int .u8 4)
theorem TzT.below {w w' : World} (h : TzT w) (hb : Below w.heap.size w w') : TzT w' :=
  ⟨(hb.cell (p := ⟨_, 7, none⟩) (World.block_lt_of_cell? w _ h.c8)).trans h.c8, (hb.cell (p := ⟨_, 15, none⟩) (World.block_lt_of_cell? w _ h.c16)).trans h.c16⟩
end Go.Proofs.YtifpmigghplmoaaGreatDoor

/- PfV8 -/
set_option linter.unusedVariables false
set_option linter.unusedSimpArgs false
namespace Go.Proofs.YtifpmigghplmoaaGreatDoor
open Go.RowKit Go.Pw Go.Shelf
set_option maxHeartbeats 8000000 in
set_option maxRecDepth 100000 in
theorem pow2_8 (W : World) : Calls Tryz.prog 189 #[.int .i64 8] W fun e w' => e = .returned (.bool true) ∧ w' = W := by
  go_enter Tryz.func189, Tryz.ntmps189
  go_wp2_with fail
  go_ret
  exact ⟨rfl, rfl⟩
set_option maxHeartbeats 8000000 in
set_option maxRecDepth 100000 in
theorem tz64_8 (W : World) (hT : TzT W) : Calls Tryz.prog 209 #[.int .u64 8] W fun e w' => e = .returned (.int .i64 3) ∧ w' = W := by
  have hx : (IntKind.u64.wrap (bits BinOp.and IntKind.u64 8 (IntKind.u64.wrap (-8)) * 285870213051353865) / 288230376151711744).toNat = 7 := by decide
  have hc : W.cell? ⟨10, (IntKind.u64.wrap (bits BinOp.and IntKind.u64 8 (IntKind.u64.wrap (-8)) * 285870213051353865) / 288230376151711744).toNat, none⟩ = some (.int .u8 3) := by rw [hx]; exact hT.c8
  clear hx
  go_enter Tryz.func209, Tryz.ntmps209
  go_wp2_with fail
  go_ret
  exact ⟨rfl, rfl⟩
set_option maxHeartbeats 8000000 in
set_option maxRecDepth 100000 in
theorem tz_8 (W : World) (hT : TzT W) : Calls Tryz.prog 190 #[.int .u64 8] W fun e w' => e = .returned (.int .i64 3) ∧ w' = W := by
  have H := hide (tz64_8 W hT)
  clear hT
  go_enter Tryz.func190, Tryz.ntmps190
  go_wp2_with fail
  refine H.out.mono ?_
  rintro e w' ⟨rfl, rfl⟩
  go_wp2_with fail
  go_ret
  exact ⟨rfl, rfl⟩
set_option maxHeartbeats 16000000 in
set_option maxRecDepth 100000 in
theorem fmtBits_8 (u : Nat) (hu : u < 18446744073709551616) (w : World) (hT : TzT w) :
    Calls Tryz.prog 164 #[.slice none 0 0, .int .u64 (u : Int), .int .i64 8, .bool false, .bool false] w fun e w' => e = .returned (.tuple #[.slice none 0 0, .string (mkB (basP 8 u))]) ∧ Below w.heap.size w w' := by
  have HP2 := hide (fun W => pow2_8 W)
  have HTZ := hide (tz_8 (w.alloc (.cells zeros65 236)) (hT.below ((Below.refl _ w).alloc (Nat.le_refl _) _)))
  have HBL : Hid ((basP 8 u).length ≤ 22) := hide (basP_len (b := 8) (by omega) 21 u (by omega))
  have HAND : Hid (∀ v : Nat, v < 18446744073709551616 → bits BinOp.and .u64 (v : Int) 7 = ((v % 8 : Nat) : Int)) := hide (by intro v hv; exact and_m7 v hv)
  have hal : Tryz.prog.arrayLen 236 = 65 := by simp [Program.arrayLen, Tryz.underlying236]
  have HSL : Hid (∀ (m : Nat) W, m < 65 → (Instr.sliceAt 236 (.pointer (some ⟨w.heap.size, 0, none⟩)) (some (.int .i64 (m : Int))) none none).run Tryz.prog W = .ok (.slice (some ⟨w.heap.size, m, none⟩) (65 - m) (65 - m)) W) := hide (fun m W hm => by
    rw [run_sliceAt_array_l W 236 ⟨w.heap.size, 0, none⟩ (by simp [Program.arrayLen, Program.elem, Tryz.underlying236]) .i64 (m : Int) (by omega) (by rw [hal]; omega)]
    go_simp
    try omega)
  have HW0 : Hid (FbW w [] 65 (w.alloc (.cells zeros65 236))) := hide (FbW.start w _)
  clear hal hT
  go_enter Tryz.func164, Tryz.ntmps164
  go_wp2_with fail
  refine (HP2.out _).mono ?_
  rintro e w1 ⟨rfl, rfl⟩
  go_wp2_with fail
  refine HTZ.out.mono ?_
  rintro e w1 ⟨rfl, rfl⟩
  go_wp2_with fail
  go_loopw [1, 13] (fun uv iv wr => ∃ (v m : Nat) (s : List UInt8), uv = .int .u64 (v : Int) ∧ iv = .int .i64 ((m : Int) + 1) ∧ v < 18446744073709551616 ∧ s.length + m = 64 ∧ Hid (basP 8 u = basP 8 v ++ s) ∧ Hid (FbW w s (m + 1) wr)) (fun uv _ _ => (intOf uv).toNat)
  case atStart => exact ⟨u, 64, [], rfl, rfl, hu, by simp, hide (by simp), HW0⟩
  case round =>
    obtain ⟨v, m, s, rfl, rfl, hv, hsm, HE, HW⟩ := hrel
    have hm44 : 40 ≤ m := by
      have h1 := HBL.out
      rw [HE.out, List.length_append] at h1
      omega
    have m0 : (0 : Int) ≤ (m : Int) := by omega
    have m1 : (m : Int) < 65 := by omega
    obtain ⟨old, hcell⟩ := HW.out.cell m (by omega)
    have hfro : wr.frozen? ⟨w.heap.size, m, none⟩ = false := HW.out.frozen m
    by_cases hd : (8 : Int) ≤ (v : Int)
    · have hand := HAND.out v hv
      obtain ⟨r, hr⟩ : ∃ r, v % 8 = r := ⟨_, rfl⟩
      rw [hr] at hand
      have r0 : (0 : Int) ≤ (r : Int) := by omega
      have r1 : (r : Int) < 8 := by omega
      have r2 : (r : Int) < 36 := by omega
      have HR := hide hr
      clear hr
      go_wp2_with fail
      go_roundw
      case rel =>
        refine ⟨v / 8, m - 1, dgc r :: s, ?_, ?_, by omega, by simp; omega, ?_, ?_⟩
        · simp
        · congr 1; omega
        · refine hide ?_
          rw [HE.out, basP_big (b := 8) (by omega) (by omega), HR.out]; simp
        · refine hide ?_
          rw [show m - 1 + 1 = m by omega, digs_at r (by omega)]
          exact HW.out.step (dgc r) (by omega)
      case measure => simp [intOf]; omega
    · have hsl := fun W => HSL.out m W (by omega)
      have v0 : (0 : Int) ≤ (v : Int) := by omega
      have v1 : (v : Int) < 8 := by omega
      have v2 : (v : Int) < 36 := by omega
      have v3 : v < 36 := by omega
      have HW2 := HW.out.step (dgc v) (by omega)
      have hcv : (convert 41 9 (.slice (some ⟨w.heap.size, m, none⟩) (65 - m) (65 - m))).run Tryz.prog (wr.setCell ⟨w.heap.size, m, none⟩ (.int .u8 (((⟨#[48, 49, 50, 51, 52, 53, 54, 55, 56, 57, 97, 98, 99, 100, 101, 102, 103, 104, 105, 106, 107, 108, 109, 110, 111, 112, 113, 114, 115, 116, 117, 118, 119, 120, 121, 122]⟩ : ByteArray)[v]'v3).toNat : Int))) = .ok (.string (mkB (dgc v :: s))) (wr.setCell ⟨w.heap.size, m, none⟩ (.int .u8 (((⟨#[48, 49, 50, 51, 52, 53, 54, 55, 56, 57, 97, 98, 99, 100, 101, 102, 103, 104, 105, 106, 107, 108, 109, 110, 111, 112, 113, 114, 115, 116, 117, 118, 119, 120, 121, 122]⟩ : ByteArray)[v]'v3).toNat : Int))) := by
        rw [digs_at v (by omega)]
        have h := run_convert_bytes_back (P := Tryz.prog) (wr.setCell ⟨w.heap.size, m, none⟩ (.int .u8 ((dgc v).toNat : Int))) 41 9 5 ⟨w.heap.size, m, none⟩ (65 - m) (dgc v :: s) Tryz.underlying41 Tryz.underlying5 Tryz.underlying9 (fun j hj => by
          rw [Lib.add_plain]
          exact HW2.reads j hj)
        rw [List.length_cons, show s.length + 1 = 65 - m by omega] at h
        exact h
      have HB := hide HW2.bel
      have HV : Hid (basP 8 u = dgc v :: s) := hide (by rw [HE.out, basP_small (by omega)]; rfl)
      clear HW2
      go_wp2_with fail
      go_ret2
      refine ⟨by rw [HV.out]; rfl, ?_⟩
      rw [digs_at v (by omega)]
      exact HB.out
set_option maxHeartbeats 8000000 in
set_option maxRecDepth 100000 in
theorem fmtUint_8 (u : Nat) (hu : u < 18446744073709551616) (w : World) (hT : TzT w) :
    Calls Tryz.prog 152 #[.int .u64 (u : Int), .int .i64 8] w fun e w' => e = .returned (.string (mkB (basP 8 u))) ∧ Below w.heap.size w w' := by
  have H := hide (fmtBits_8 u hu w hT)
  clear hT
  go_enter Tryz.func152, Tryz.ntmps152
  go_wp2_with fail
  refine H.out.mono ?_
  rintro e w' ⟨rfl, hb⟩
  have HB := hide hb
  clear hb
  go_wp2_with fail
  go_ret
  exact ⟨rfl, HB.out⟩
end Go.Proofs.YtifpmigghplmoaaGreatDoor

/- PfV16 -/
set_option linter.unusedVariables false
set_option linter.unusedSimpArgs false
namespace Go.Proofs.YtifpmigghplmoaaGreatDoor
open Go.RowKit Go.Pw Go.Shelf
set_option maxHeartbeats 8000000 in
set_option maxRecDepth 100000 in
theorem pow2_16 (W : World) : Calls Tryz.prog 189 #[.int .i64 16] W fun e w' => e = .returned (.bool true) ∧ w' = W := by
  go_enter Tryz.func189, Tryz.ntmps189
  go_wp2_with fail
  go_ret
  exact ⟨rfl, rfl⟩
set_option maxHeartbeats 8000000 in
set_option maxRecDepth 100000 in
theorem tz64_16 (W : World) (hT : TzT W) : Calls Tryz.prog 209 #[.int .u64 16] W fun e w' => e = .returned (.int .i64 4) ∧ w' = W := by
  have hx : (IntKind.u64.wrap (bits BinOp.and IntKind.u64 16 (IntKind.u64.wrap (-16)) * 285870213051353865) / 288230376151711744).toNat = 15 := by decide
  have hc : W.cell? ⟨10, (IntKind.u64.wrap (bits BinOp.and IntKind.u64 16 (IntKind.u64.wrap (-16)) * 285870213051353865) / 288230376151711744).toNat, none⟩ = some (.int .u8 4) := by rw [hx]; exact hT.c16
  clear hx
  go_enter Tryz.func209, Tryz.ntmps209
  go_wp2_with fail
  go_ret
  exact ⟨rfl, rfl⟩
set_option maxHeartbeats 8000000 in
set_option maxRecDepth 100000 in
theorem tz_16 (W : World) (hT : TzT W) : Calls Tryz.prog 190 #[.int .u64 16] W fun e w' => e = .returned (.int .i64 4) ∧ w' = W := by
  have H := hide (tz64_16 W hT)
  clear hT
  go_enter Tryz.func190, Tryz.ntmps190
  go_wp2_with fail
  refine H.out.mono ?_
  rintro e w' ⟨rfl, rfl⟩
  go_wp2_with fail
  go_ret
  exact ⟨rfl, rfl⟩
set_option maxHeartbeats 16000000 in
set_option maxRecDepth 100000 in
theorem fmtBits_16 (u : Nat) (hu : u < 18446744073709551616) (w : World) (hT : TzT w) :
    Calls Tryz.prog 164 #[.slice none 0 0, .int .u64 (u : Int), .int .i64 16, .bool false, .bool false] w fun e w' => e = .returned (.tuple #[.slice none 0 0, .string (mkB (basP 16 u))]) ∧ Below w.heap.size w w' := by
  have HP2 := hide (fun W => pow2_16 W)
  have HTZ := hide (tz_16 (w.alloc (.cells zeros65 236)) (hT.below ((Below.refl _ w).alloc (Nat.le_refl _) _)))
  have HBL : Hid ((basP 16 u).length ≤ 16) := hide (basP_len (b := 16) (by omega) 15 u (by omega))
  have HAND : Hid (∀ v : Nat, v < 18446744073709551616 → bits BinOp.and .u64 (v : Int) 15 = ((v % 16 : Nat) : Int)) := hide (by intro v hv; exact and_m15 v hv)
  have hal : Tryz.prog.arrayLen 236 = 65 := by simp [Program.arrayLen, Tryz.underlying236]
  have HSL : Hid (∀ (m : Nat) W, m < 65 → (Instr.sliceAt 236 (.pointer (some ⟨w.heap.size, 0, none⟩)) (some (.int .i64 (m : Int))) none none).run Tryz.prog W = .ok (.slice (some ⟨w.heap.size, m, none⟩) (65 - m) (65 - m)) W) := hide (fun m W hm => by
    rw [run_sliceAt_array_l W 236 ⟨w.heap.size, 0, none⟩ (by simp [Program.arrayLen, Program.elem, Tryz.underlying236]) .i64 (m : Int) (by omega) (by rw [hal]; omega)]
    go_simp
    try omega)
  have HW0 : Hid (FbW w [] 65 (w.alloc (.cells zeros65 236))) := hide (FbW.start w _)
  clear hal hT
  go_enter Tryz.func164, Tryz.ntmps164
  go_wp2_with fail
  refine (HP2.out _).mono ?_
  rintro e w1 ⟨rfl, rfl⟩
  go_wp2_with fail
  refine HTZ.out.mono ?_
  rintro e w1 ⟨rfl, rfl⟩
  go_wp2_with fail
  go_loopw [1, 13] (fun uv iv wr => ∃ (v m : Nat) (s : List UInt8), uv = .int .u64 (v : Int) ∧ iv = .int .i64 ((m : Int) + 1) ∧ v < 18446744073709551616 ∧ s.length + m = 64 ∧ Hid (basP 16 u = basP 16 v ++ s) ∧ Hid (FbW w s (m + 1) wr)) (fun uv _ _ => (intOf uv).toNat)
  case atStart => exact ⟨u, 64, [], rfl, rfl, hu, by simp, hide (by simp), HW0⟩
  case round =>
    obtain ⟨v, m, s, rfl, rfl, hv, hsm, HE, HW⟩ := hrel
    have hm44 : 40 ≤ m := by
      have h1 := HBL.out
      rw [HE.out, List.length_append] at h1
      omega
    have m0 : (0 : Int) ≤ (m : Int) := by omega
    have m1 : (m : Int) < 65 := by omega
    obtain ⟨old, hcell⟩ := HW.out.cell m (by omega)
    have hfro : wr.frozen? ⟨w.heap.size, m, none⟩ = false := HW.out.frozen m
    by_cases hd : (16 : Int) ≤ (v : Int)
    · have hand := HAND.out v hv
      obtain ⟨r, hr⟩ : ∃ r, v % 16 = r := ⟨_, rfl⟩
      rw [hr] at hand
      have r0 : (0 : Int) ≤ (r : Int) := by omega
      have r1 : (r : Int) < 16 := by omega
      have r2 : (r : Int) < 36 := by omega
      have HR := hide hr
      clear hr
      go_wp2_with fail
      go_roundw
      case rel =>
        refine ⟨v / 16, m - 1, dgc r :: s, ?_, ?_, by omega, by simp; omega, ?_, ?_⟩
        · simp
        · congr 1; omega
        · refine hide ?_
          rw [HE.out, basP_big (b := 16) (by omega) (by omega), HR.out]; simp
        · refine hide ?_
          rw [show m - 1 + 1 = m by omega, digs_at r (by omega)]
          exact HW.out.step (dgc r) (by omega)
      case measure => simp [intOf]; omega
    · have hsl := fun W => HSL.out m W (by omega)
      have v0 : (0 : Int) ≤ (v : Int) := by omega
      have v1 : (v : Int) < 16 := by omega
      have v2 : (v : Int) < 36 := by omega
      have v3 : v < 36 := by omega
      have HW2 := HW.out.step (dgc v) (by omega)
      have hcv : (convert 41 9 (.slice (some ⟨w.heap.size, m, none⟩) (65 - m) (65 - m))).run Tryz.prog (wr.setCell ⟨w.heap.size, m, none⟩ (.int .u8 (((⟨#[48, 49, 50, 51, 52, 53, 54, 55, 56, 57, 97, 98, 99, 100, 101, 102, 103, 104, 105, 106, 107, 108, 109, 110, 111, 112, 113, 114, 115, 116, 117, 118, 119, 120, 121, 122]⟩ : ByteArray)[v]'v3).toNat : Int))) = .ok (.string (mkB (dgc v :: s))) (wr.setCell ⟨w.heap.size, m, none⟩ (.int .u8 (((⟨#[48, 49, 50, 51, 52, 53, 54, 55, 56, 57, 97, 98, 99, 100, 101, 102, 103, 104, 105, 106, 107, 108, 109, 110, 111, 112, 113, 114, 115, 116, 117, 118, 119, 120, 121, 122]⟩ : ByteArray)[v]'v3).toNat : Int))) := by
        rw [digs_at v (by omega)]
        have h := run_convert_bytes_back (P := Tryz.prog) (wr.setCell ⟨w.heap.size, m, none⟩ (.int .u8 ((dgc v).toNat : Int))) 41 9 5 ⟨w.heap.size, m, none⟩ (65 - m) (dgc v :: s) Tryz.underlying41 Tryz.underlying5 Tryz.underlying9 (fun j hj => by
          rw [Lib.add_plain]
          exact HW2.reads j hj)
        rw [List.length_cons, show s.length + 1 = 65 - m by omega] at h
        exact h
      have HB := hide HW2.bel
      have HV : Hid (basP 16 u = dgc v :: s) := hide (by rw [HE.out, basP_small (by omega)]; rfl)
      clear HW2
      go_wp2_with fail
      go_ret2
      refine ⟨by rw [HV.out]; rfl, ?_⟩
      rw [digs_at v (by omega)]
      exact HB.out
set_option maxHeartbeats 8000000 in
set_option maxRecDepth 100000 in
theorem fmtUint_16 (u : Nat) (hu : u < 18446744073709551616) (w : World) (hT : TzT w) :
    Calls Tryz.prog 152 #[.int .u64 (u : Int), .int .i64 16] w fun e w' => e = .returned (.string (mkB (basP 16 u))) ∧ Below w.heap.size w w' := by
  have H := hide (fmtBits_16 u hu w hT)
  clear hT
  go_enter Tryz.func152, Tryz.ntmps152
  go_wp2_with fail
  refine H.out.mono ?_
  rintro e w' ⟨rfl, hb⟩
  have HB := hide hb
  clear hb
  go_wp2_with fail
  go_ret
  exact ⟨rfl, HB.out⟩
end Go.Proofs.YtifpmigghplmoaaGreatDoor
