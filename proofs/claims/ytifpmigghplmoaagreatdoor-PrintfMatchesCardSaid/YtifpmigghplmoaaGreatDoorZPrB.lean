/- Printf: plain: escapes, digits. -/
import Derived.Test.YtifpmigghplmoaaGreatDoorZPrI
import Derived.Test.YtifpmigghplmoaaGreatDoorProg
import Derived.Lib.ConvBytes
import Derived.Lib.Strings
import Derived.WalkKit
import Derived.BigCall
import Derived.BigGuard
import Derived.IntWalk
import Derived.Test.YtifpmigghplmoaaGreatDoorShelf4
import Derived.Test.YtifpmigghplmoaaGreatDoorZHunk
import Derived.Deep.RegionHeld3
import Derived.BigQuiet
import Derived.Deep.QuietTactic
import Derived.Lib.IfaceEq
import Derived.Test.YtifpmigghplmoaaGreatDoorShelf2
/- PfP -/
set_option linter.unusedVariables false
namespace Go.Pw
open Go.RowKit
/-- the value of a digit of any base up to 36 -/
def dv36 (c : UInt8) : Option Nat :=
  if 48 ≤ c.toNat ∧ c.toNat ≤ 57 then some (c.toNat - 48) else
  if 97 ≤ c.toNat ∧ c.toNat ≤ 122 then some (c.toNat - 87) else
  if 65 ≤ c.toNat ∧ c.toNat ≤ 90 then some (c.toNat - 55) else none
/-- the value of a hexadecimal digit -/
def hexV (c : UInt8) : Option Nat :=
  if 48 ≤ c.toNat ∧ c.toNat ≤ 57 then some (c.toNat - 48) else
  if 97 ≤ c.toNat ∧ c.toNat ≤ 102 then some (c.toNat - 87) else
  if 65 ≤ c.toNat ∧ c.toNat ≤ 70 then some (c.toNat - 55) else none
/-- how the reading of a number ends -/
inductive PE where
  | ok (u : Nat)
  | syn
  | rng
/-- strconv's reading in a base: M: the greatest number, cut: the least that must not be multiplied -/
def puR (b M cut : Nat) : Nat → List UInt8 → PE
  | acc, [] => .ok acc
  | acc, c :: r =>
    match dv36 c with
    | none => .syn
    | some d => if b ≤ d then .syn else if cut ≤ acc then .rng else if M < acc * b + d then .rng else puR b M cut (acc * b + d) r
def isOc (c : UInt8) : Bool := decide (48 ≤ c.toNat) && decide (c.toNat ≤ 55)
/-- the digits of an octal escape: the value and how many there are -/
def octR : Nat → Nat → List UInt8 → Nat × Nat
  | 0, v, _ => (v, 0)
  | _ + 1, v, [] => (v, 0)
  | k + 1, v, c :: r => if isOc c then ((octR k (8 * v + (c.toNat - 48)) r).1, (octR k (8 * v + (c.toNat - 48)) r).2 + 1) else (v, 0)
def hexR : Nat → Nat → List UInt8 → Nat × Nat
  | 0, v, _ => (v, 0)
  | _ + 1, v, [] => (v, 0)
  | k + 1, v, c :: r => match hexV c with
    | some d => ((hexR k (16 * v + d) r).1, (hexR k (16 * v + d) r).2 + 1)
    | none => (v, 0)
def escFrom : List UInt8 := [92, 34, 39, 110, 116, 114, 97, 98, 102, 118]
def escTo : List UInt8 := [92, 34, 39, 10, 9, 13, 7, 8, 12, 11]
/-- the byte of an escape behind a backslash, and how many bytes it has -/
def escP : List UInt8 → Option (UInt8 × Nat)
  | [] => none
  | c :: r =>
    if c ∈ escFrom then some (escTo.getD (escFrom.findIdx (· == c)) 0, 1) else
    if 0 < (octR 3 0 (c :: r)).2 then some (UInt8.ofNat (octR 3 0 (c :: r)).1, (octR 3 0 (c :: r)).2) else
    if c = 120 then (if 0 < (hexR 2 0 r).2 then some (UInt8.ofNat (hexR 2 0 r).1, (hexR 2 0 r).2 + 1) else none) else none
theorem hexV_dv (c : UInt8) : hexV c = match dv36 c with | none => none | some d => if 16 ≤ d then none else some d := by
  have key : ∀ c : Fin 256, hexV (UInt8.ofNat c.val) = match dv36 (UInt8.ofNat c.val) with | none => none | some d => if 16 ≤ d then none else some d := by decide +kernel
  have h := key ⟨c.toNat, c.toNat_lt⟩
  simp only [UInt8.ofNat_toNat] at h
  exact h
theorem hexV_lt {c : UInt8} {d : Nat} (h : hexV c = some d) : d < 16 := by
  rw [hexV_dv] at h
  cases hd : dv36 c with
  | none => rw [hd] at h; cases h
  | some x =>
    rw [hd] at h
    simp only at h
    by_cases h16 : 16 ≤ x
    · rw [if_pos h16] at h; cases h
    · rw [if_neg h16] at h
      obtain rfl := Option.some.inj h
      omega
theorem puR_one (c : UInt8) : puR 16 255 1152921504606846976 0 [c] = match hexV c with | some d => .ok d | none => .syn := by
  rw [hexV_dv, puR]
  cases hd : dv36 c with
  | none => rfl
  | some d =>
    simp only
    by_cases h16 : 16 ≤ d
    · rw [if_pos h16, if_pos h16]
    · rw [if_neg h16, if_neg h16, if_neg (by decide), if_neg (by omega), puR]
      simp
end Go.Pw

/- PfL -/
set_option linter.unusedVariables false
namespace Go.Pw
open Go.RowKit
/-- the number that digits stand for in a base -/
def vB (b : Nat) : Nat → List UInt8 → Nat
  | acc, [] => acc
  | acc, c :: r => vB b (acc * b + (hexV c).getD 0) r
theorem vB_ge {b : Nat} (hb : 1 ≤ b) : ∀ (l : List UInt8) (acc : Nat), acc ≤ vB b acc l
  | [], acc => Nat.le_refl _
  | c :: r, acc => by
    rw [vB]
    have h := vB_ge hb r (acc * b + (hexV c).getD 0)
    have h2 : acc * 1 ≤ acc * b := Nat.mul_le_mul_left _ hb
    omega
theorem hexV_some {c : UInt8} {d : Nat} (h : hexV c = some d) : dv36 c = some d := by
  rw [hexV_dv] at h
  cases hd : dv36 c with
  | none => rw [hd] at h; cases h
  | some x =>
    rw [hd] at h
    simp only at h
    by_cases h16 : 16 ≤ x
    · rw [if_pos h16] at h; cases h
    · rw [if_neg h16] at h; exact h
theorem puR_vB {b M cut : Nat} (hb : 1 ≤ b) (hcut : ∀ acc, cut ≤ acc → M < acc * b) : ∀ (l : List UInt8) (acc : Nat), (∀ c ∈ l, ∃ d, hexV c = some d ∧ d < b) → acc ≤ M →
    puR b M cut acc l = if vB b acc l ≤ M then .ok (vB b acc l) else .rng
  | [], acc, _, ha => by rw [puR, vB, if_pos ha]
  | c :: r, acc, hv, ha => by
    obtain ⟨d, hd, hdb⟩ := hv c List.mem_cons_self
    have hge := vB_ge hb r (acc * b + d)
    rw [puR, hexV_some hd, vB, hd]
    simp only [Option.getD_some]
    rw [if_neg (by omega)]
    by_cases h1 : cut ≤ acc
    · have := hcut acc h1
      rw [if_pos h1, if_neg (by omega)]
    · rw [if_neg h1]
      by_cases h2 : M < acc * b + d
      · rw [if_pos h2, if_neg (by omega)]
      · rw [if_neg h2]
        exact puR_vB hb hcut r _ (fun x hx => hv x (List.mem_cons_of_mem _ hx)) (by omega)
theorem puR_vB_10 (l : List UInt8) (hv : ∀ c ∈ l, ∃ d, hexV c = some d ∧ d < 10) : puR 10 18446744073709551615 1844674407370955162 0 l = if vB 10 0 l ≤ 18446744073709551615 then .ok (vB 10 0 l) else .rng :=
  puR_vB (by decide) (fun acc h => by omega) l 0 hv (by decide)
theorem puR_vB_8 (l : List UInt8) (hv : ∀ c ∈ l, ∃ d, hexV c = some d ∧ d < 8) : puR 8 18446744073709551615 2305843009213693952 0 l = if vB 8 0 l ≤ 18446744073709551615 then .ok (vB 8 0 l) else .rng :=
  puR_vB (by decide) (fun acc h => by omega) l 0 hv (by decide)
theorem puR_vB_16 (l : List UInt8) (hv : ∀ c ∈ l, ∃ d, hexV c = some d ∧ d < 16) : puR 16 18446744073709551615 1152921504606846976 0 l = if vB 16 0 l ≤ 18446744073709551615 then .ok (vB 16 0 l) else .rng :=
  puR_vB (by decide) (fun acc h => by omega) l 0 hv (by decide)
end Go.Pw

/- PfA -/
set_option linter.unusedVariables false
set_option linter.unusedSimpArgs false
namespace Go.Pw
open Go.RowKit
/-- how the reading's end is returned: M: the greatest number -/
def peV (tE : TypeId) (M : Nat) : PE → Value
  | .ok u => .tuple #[.int .u64 (u : Int), .nilIface]
  | .syn => .tuple #[.int .u64 0, .iface tE (.int .i64 2)]
  | .rng => .tuple #[.int .u64 (M : Int), .iface tE (.int .i64 1)]
theorem dv_dig {c : UInt8} (h : 48 ≤ c.toNat ∧ c.toNat ≤ 57) : dv36 c = some (c.toNat - 48) := by unfold dv36; rw [if_pos h]
/-- the lower case of a byte, as strconv makes it -/
def lowB (c : UInt8) : Nat := c.toNat ||| 32
theorem low_key : ∀ c : Fin 256, (¬ (48 ≤ c.val ∧ c.val ≤ 57)) → dv36 (UInt8.ofNat c.val) = if 97 ≤ lowB (UInt8.ofNat c.val) ∧ lowB (UInt8.ofNat c.val) ≤ 122 then some (lowB (UInt8.ofNat c.val) - 87) else none := by decide +kernel
theorem dv_let {c : UInt8} (h : ¬ (48 ≤ c.toNat ∧ c.toNat ≤ 57)) : dv36 c = if 97 ≤ lowB c ∧ lowB c ≤ 122 then some (lowB c - 87) else none := by
  have := low_key ⟨c.toNat, c.toNat_lt⟩ h
  simp only [UInt8.ofNat_toNat] at this
  exact this
theorem lowB_lt (c : UInt8) : lowB c ≤ 255 := by
  have key : ∀ c : Fin 256, (c.val ||| 32 : Nat) ≤ 255 := by decide +kernel
  exact key ⟨c.toNat, c.toNat_lt⟩
theorem low_95 {c : UInt8} (h : lowB c ≤ 122) : ((c.toNat : Int) == 95) = false := by
  have key : ∀ c : Fin 256, (c.val ||| 32 : Nat) ≤ 122 → (((c.val : Nat) : Int) == 95) = false := by decide +kernel
  exact key ⟨c.toNat, c.toNat_lt⟩ h
theorem low_bits (c : UInt8) : bits BinOp.or IntKind.u8 (c.toNat : Int) 32 = (lowB c : Int) := by
  have key : ∀ c : Fin 256, bits BinOp.or IntKind.u8 ((c.val : Nat) : Int) 32 = ((c.val ||| 32 : Nat) : Int) := by decide +kernel
  exact key ⟨c.toNat, c.toNat_lt⟩
end Go.Pw
namespace Go.Proofs.YtifpmigghplmoaaGreatDoor
open Go.RowKit Go.Pw
theorem lower_any (c : UInt8) (w : World) : Calls Tryz.prog 184 #[.int .u8 (c.toNat : Int)] w fun e w' => e = .returned (.int .u8 (lowB c : Int)) ∧ w' = w := by
  go_enter Tryz.func184, Tryz.ntmps184
  go_wp2_with fail
  go_ret
  exact ⟨by rw [← low_bits c]; rfl, rfl⟩
set_option maxHeartbeats 32000000 in
set_option maxRecDepth 100000 in
theorem pu_16b8 (t : ByteArray) (hne : t.size ≠ 0) (hmax : t.size ≤ 1000000) (w : World) :
    Calls Tryz.prog 158 #[.string t, .int .i64 16, .int .i64 8] w fun e w' => e = .returned (peV 172 255 (puR 16 255 1152921504606846976 0 t.data.toList)) ∧ w' = Lib.bytesWorld w 5 t := by
  have hemp : t.toList.isEmpty = false := by
    rw [Lib.toList_data]
    have : t.data.toList.length = t.size := len_size t
    cases h : t.data.toList with
    | nil => rw [h] at this; simp at this; omega
    | cons a r => rfl
  have hcv := Lib.run_convert_string_bytes (P := Tryz.prog) w 9 41 5 t (u := .string) Tryz.underlying9 Tryz.underlying41 Tryz.underlying5
  have HB : Hid (∀ j, j < t.size → (Lib.bytesWorld w 5 t).cell? ⟨w.heap.size, j, none⟩ = some (.int .u8 (t.data.toList.getD j 0).toNat)) := hide (fun j hj => Lib.bytesWorld_cell w 5 t j hj)
  obtain ⟨W1, hW1⟩ : ∃ W1, W1 = Lib.bytesWorld w 5 t := ⟨_, rfl⟩
  rw [← hW1] at hcv HB ⊢
  clear hW1
  obtain ⟨bs, hL⟩ : ∃ bs, bs = t.data.toList := ⟨_, rfl⟩
  have HLn : Hid (bs.length = t.size) := hide (by rw [hL, len_size])
  rw [← hL] at HB ⊢
  clear hL
  have hmv : IntKind.u64.wrap (IntKind.u64.wrap 256 - 1) = 255 := by decide
  go_enter Tryz.func158, Tryz.ntmps158
  go_wp2_with fail
  go_loopw [12, 13, 101] (fun vu vn vi wr => ∃ (k acc : Nat) (a : Int), vu = .bool false ∧ vn = .int .u64 a ∧ vi = .int .i64 (k : Int) ∧ k ≤ t.size ∧ Hid (a = (acc : Int) ∧ acc ≤ 255 ∧ puR 16 255 1152921504606846976 0 bs = puR 16 255 1152921504606846976 acc (bs.drop k)) ∧ Hid (wr = W1)) (fun _ _ vi _ => t.size - (intOf vi).toNat)
  case atStart => exact ⟨0, 0, 0, rfl, rfl, rfl, by omega, hide ⟨rfl, by decide, rfl⟩, hide rfl⟩
  case round =>
    obtain ⟨k, acc, a, rfl, rfl, rfl, hk, hh, HW⟩ := hrel
    obtain rfl := HW.out
    obtain ⟨ha, hacc, hdec⟩ := hh.out
    clear hh
    have a0 : 0 ≤ a := by omega
    have a1 : a ≤ 255 := by omega
    have HA := hide ha
    have HDEC := hide hdec
    clear ha hdec
    by_cases hkn : k < t.size
    · have hkb : k < bs.length := by rw [HLn.out]; exact hkn
      have hc := HB.out k hkn
      have hget : bs.getD k 0 = bs[k] := by simp [List.getD, List.getElem?_eq_getElem hkb]
      have HDR : Hid (bs.drop k = bs[k] :: bs.drop (k + 1)) := hide (List.drop_eq_getElem_cons hkb)
      rw [hget] at hc
      obtain ⟨c, hcc⟩ : ∃ c, bs[k] = c := ⟨_, rfl⟩
      rw [hcc] at hc HDR
      clear hget hcc
      have HPU : Hid (puR 16 255 1152921504606846976 0 bs = match dv36 c with
          | none => .syn
          | some d => if 16 ≤ d then .syn else if 1152921504606846976 ≤ acc then .rng else if 255 < acc * 16 + d then .rng else puR 16 255 1152921504606846976 (acc * 16 + d) (bs.drop (k + 1))) := hide (by rw [HDEC.out, HDR.out, puR]; first | done | (cases dv36 c <;> rfl))
      clear HDEC HDR
      by_cases hdig : 48 ≤ c.toNat ∧ c.toNat ≤ 57
      · obtain ⟨hd0, hd1⟩ := hdig
        have i0 : 48 ≤ (c.toNat : Int) := by omega
        have i1 : (c.toNat : Int) ≤ 57 := by omega
        have HDV : Hid (dv36 c = some (c.toNat - 48)) := hide (dv_dig ⟨hd0, hd1⟩)
        obtain ⟨d, hd⟩ : ∃ d : Nat, c.toNat - 48 = d := ⟨_, rfl⟩
        have u1 : IntKind.u8.wrap ((c.toNat : Int) - 48) = (d : Int) := by rw [show (c.toNat : Int) - 48 = (d : Int) by omega]; exact IntWalk.u8_in _ (by omega)
        rw [hd] at HDV
        have hdl : d ≤ 9 := by omega
        clear hd hd0 hd1
        by_cases hcut : 1152921504606846976 ≤ acc
        · exact absurd hcut (by omega)
        · have icut : a < 1152921504606846976 := by have := HA.out; omega
          have icut2 : ¬ 1152921504606846976 ≤ a := by omega
          by_cases hov : 255 < acc * 16 + d
          · have HV : Hid (puR 16 255 1152921504606846976 0 bs = .rng) := hide (by rw [HPU.out, HDV.out]; simp only; rw [if_neg (by omega), if_neg hcut, if_pos hov])
            have iov : 255 < a * 16 + (d : Int) := by have := HA.out; omega
            clear hcut hov
            go_wp2_with fail
            all_goals go_ret2
            all_goals exact ⟨by rw [HV.out]; rfl, rfl⟩
          · have HV : Hid (puR 16 255 1152921504606846976 0 bs = puR 16 255 1152921504606846976 (acc * 16 + d) (bs.drop (k + 1))) := hide (by rw [HPU.out, HDV.out]; simp only; rw [if_neg (by omega), if_neg hcut, if_neg hov])
            have iov : a * 16 + (d : Int) ≤ 255 := by have := HA.out; omega
            have HN : Hid (a * 16 + (d : Int) = ((acc * 16 + d : Nat) : Int) ∧ acc * 16 + d ≤ 255 ∧ puR 16 255 1152921504606846976 0 bs = puR 16 255 1152921504606846976 (acc * 16 + d) (bs.drop (k + 1))) := hide ⟨by have := HA.out; omega, by omega, HV.out⟩
            clear hcut hov
            go_wp2_with fail
            all_goals
              go_roundw
              case rel => exact ⟨k + 1, acc * 16 + d, a * 16 + (d : Int), by first | rfl | trivial, by first | rfl | trivial, by go_num, by omega, HN, by first | exact hide rfl | exact hide trivial⟩
              case measure => simp [intOf]; omega
      · have hl := dv_let hdig
        have HNDG : Hid (¬ (48 ≤ (c.toNat : Int) ∧ (c.toNat : Int) ≤ 57)) := hide (by omega)
        have hlc := lowB_lt c
        have HLOW := hide (fun W => lower_any c W)
        obtain ⟨lc, hlcE⟩ : ∃ lc, lowB c = lc := ⟨_, rfl⟩
        have h95 : lowB c ≤ 122 → ((c.toNat : Int) == 95) = false := low_95
        rw [hlcE] at hl hlc h95
        simp only [hlcE] at HLOW
        clear hlcE
        by_cases h97 : 97 ≤ lc
        · have j0 : (97 : Int) ≤ (lc : Int) := by omega
          by_cases h122 : lc ≤ 122
          · have j1 : (lc : Int) ≤ 122 := by omega
            rw [if_pos ⟨h97, h122⟩] at hl
            obtain ⟨d, hd⟩ : ∃ d : Nat, lc - 87 = d := ⟨_, rfl⟩
            have HDV : Hid (dv36 c = some d) := hide (by rw [hl, hd])
            have u1 : IntKind.u8.wrap ((lc : Int) - 97) = (lc : Int) - 97 := IntWalk.u8_in _ (by omega)
            have u2 : IntKind.u8.wrap ((lc : Int) - 97 + 10) = (d : Int) := by rw [show (lc : Int) - 97 + 10 = (d : Int) by omega]; exact IntWalk.u8_in _ (by omega)
            have hd9 : 10 ≤ d := by omega
            have e95 : ((c.toNat : Int) == 95) = false := h95 (by omega)
            clear hl hd
            by_cases hb : 16 ≤ d
            · have ib : (16 : Int) ≤ (d : Int) := by omega
              have HV : Hid (puR 16 255 1152921504606846976 0 bs = .syn) := hide (by rw [HPU.out, HDV.out]; simp only; rw [if_pos hb])
              go_wp2_with (go_at_call 184; refine (HLOW.out _).mono ?_; rintro e w' ⟨rfl, rfl⟩)
              all_goals go_ret2
              all_goals exact ⟨by rw [HV.out]; rfl, rfl⟩
            · have ib : (d : Int) < 16 := by omega
              by_cases hcut : 1152921504606846976 ≤ acc
              · exact absurd hcut (by omega)
              · have icut : a < 1152921504606846976 := by have := HA.out; omega
                have icut2 : ¬ 1152921504606846976 ≤ a := by omega
                by_cases hov : 255 < acc * 16 + d
                · have HV : Hid (puR 16 255 1152921504606846976 0 bs = .rng) := hide (by rw [HPU.out, HDV.out]; simp only; rw [if_neg (by omega), if_neg hcut, if_pos hov])
                  have iov : 255 < a * 16 + (d : Int) := by have := HA.out; omega
                  clear hcut hov
                  go_wp2_with (go_at_call 184; refine (HLOW.out _).mono ?_; rintro e w' ⟨rfl, rfl⟩)
                  all_goals go_ret2
                  all_goals exact ⟨by rw [HV.out]; rfl, rfl⟩
                · have HV : Hid (puR 16 255 1152921504606846976 0 bs = puR 16 255 1152921504606846976 (acc * 16 + d) (bs.drop (k + 1))) := hide (by rw [HPU.out, HDV.out]; simp only; rw [if_neg (by omega), if_neg hcut, if_neg hov])
                  have iov : a * 16 + (d : Int) ≤ 255 := by have := HA.out; omega
                  have HN : Hid (a * 16 + (d : Int) = ((acc * 16 + d : Nat) : Int) ∧ acc * 16 + d ≤ 255 ∧ puR 16 255 1152921504606846976 0 bs = puR 16 255 1152921504606846976 (acc * 16 + d) (bs.drop (k + 1))) := hide ⟨by have := HA.out; omega, by omega, HV.out⟩
                  clear hcut hov
                  go_wp2_with (go_at_call 184; refine (HLOW.out _).mono ?_; rintro e w' ⟨rfl, rfl⟩)
                  all_goals
                    go_roundw
                    case rel => exact ⟨k + 1, acc * 16 + d, a * 16 + (d : Int), by first | rfl | trivial, by first | rfl | trivial, by go_num, by omega, HN, by first | exact hide rfl | exact hide trivial⟩
                    case measure => simp [intOf]; omega
          · have j1 : ¬ (lc : Int) ≤ 122 := by omega
            rw [if_neg (fun h => h122 h.2)] at hl
            have HDV := hide hl
            obtain ⟨x95, e95⟩ : ∃ x, ((c.toNat : Int) == 95) = x := ⟨_, rfl⟩
            clear hl
            cases x95
            all_goals
              have HV : Hid (puR 16 255 1152921504606846976 0 bs = .syn) := hide (by rw [HPU.out, HDV.out])
              go_wp2_with (go_at_call 184; refine (HLOW.out _).mono ?_; rintro e w' ⟨rfl, rfl⟩)
              all_goals go_ret2
              all_goals exact ⟨by rw [HV.out]; rfl, rfl⟩
        · have j0 : ¬ (97 : Int) ≤ (lc : Int) := by omega
          rw [if_neg (fun h => h97 h.1)] at hl
          have HDV := hide hl
          have e95 : ((c.toNat : Int) == 95) = false := h95 (by omega)
          clear hl
          have HV : Hid (puR 16 255 1152921504606846976 0 bs = .syn) := hide (by rw [HPU.out, HDV.out])
          go_wp2_with (go_at_call 184; refine (HLOW.out _).mono ?_; rintro e w' ⟨rfl, rfl⟩)
          all_goals go_ret2
          all_goals exact ⟨by rw [HV.out]; rfl, rfl⟩
    · skip
      obtain rfl : k = t.size := by omega
      have HV : Hid (puR 16 255 1152921504606846976 0 bs = .ok acc) := hide (by rw [HDEC.out, List.drop_eq_nil_of_le (by rw [HLn.out]; exact Nat.le_refl _), puR])
      have hd : ¬ ((t.size : Int) < (t.size : Int)) := by omega
      go_wp2_with fail
      go_ret2
      exact ⟨by rw [HV.out, HA.out]; rfl, rfl⟩
end Go.Proofs.YtifpmigghplmoaaGreatDoor

/- PfB -/
set_option linter.unusedVariables false
set_option linter.unusedSimpArgs false
namespace Go.Pw
open Go.RowKit
theorem below_q {M n : Nat} {w w' : World} (h : Below M w w') : Below M w (w'.drewN n) := ⟨h.os, h.tape, h.output, h.size, h.block⟩
def ErrV (g : Nat) (w : World) : Prop := ∃ ev, w.cell? ⟨g, 0, none⟩ = some ev ∧ (ev = .nilIface ∨ ∃ te pe, ev = .iface te pe)
theorem ErrV.below {g : Nat} {w w' : World} (h : ErrV g w) (hb : Below w.heap.size w w') : ErrV g w' := by
  obtain ⟨ev, h1, h2⟩ := h
  exact ⟨ev, (hb.cell (p := ⟨g, 0, none⟩) (World.block_lt_of_cell? w ⟨g, 0, none⟩ h1)).trans h1, h2⟩
end Go.Pw
namespace Go.Proofs.YtifpmigghplmoaaGreatDoor
open Go.RowKit Go.Pw Go.Shelf
/-- both of strconv's errors lie in their variables -/
def ErrT (w : World) : Prop := ErrV 3 w ∧ ErrV 4 w
theorem ErrT.below {w w' : World} (h : ErrT w) (hb : Below w.heap.size w w') : ErrT w' := ⟨h.1.below hb, h.2.below hb⟩
set_option maxHeartbeats 4000000 in
set_option maxRecDepth 100000 in
theorem syntaxError_any (fn s : ByteArray) (w : World) (hs : s.size ≤ 1000000) (hE : ErrT w) :
    Calls Tryz.prog 133 #[.string fn, .string s] w fun e w' => ∃ N, e = .returned (.pointer (some ⟨N, 0, none⟩)) ∧ Below w.heap.size w w' := by
  obtain ⟨⟨ev, hv, hev⟩, -⟩ := hE
  have HCL := hide (fun W => Tryz.stringslite_Clone s W (by omega))
  have hlt := World.block_lt_of_cell? w ⟨3, 0, none⟩ hv
  rcases hev with rfl | ⟨te, pe, rfl⟩
  · go_enter Tryz.func133, Tryz.ntmps133
    go_wp2_with fail
    go_region_held3 (fun w' => w'.cell? ⟨3, 0, none⟩ = some (.nilIface)) (go_keep)
      ((go_at_call 159; (with_reducible refine (HCL.out _).mono ?_); rintro e w2 ⟨rfl, hb⟩; have hv2 : w2.cell? ⟨3, 0, none⟩ = some (.nilIface) := (hb.cell (p := ⟨3, 0, none⟩) hlt).trans hv; have HB2 : Hid (Below w.heap.size w w2) := hide ((Below.drew (Below.refl _ w)).trans hb); clear hb))
    go_wp2_with fail
    go_ret
    exact ⟨_, rfl, by first | exact HB2.out.alloc HB2.out.size _ | exact (HB2.out.drew).alloc HB2.out.size _⟩
  · go_enter Tryz.func133, Tryz.ntmps133
    go_wp2_with fail
    go_region_held3 (fun w' => w'.cell? ⟨3, 0, none⟩ = some (.iface te pe)) (go_keep)
      ((go_at_call 159; (with_reducible refine (HCL.out _).mono ?_); rintro e w2 ⟨rfl, hb⟩; have hv2 : w2.cell? ⟨3, 0, none⟩ = some (.iface te pe) := (hb.cell (p := ⟨3, 0, none⟩) hlt).trans hv; have HB2 : Hid (Below w.heap.size w w2) := hide ((Below.drew (Below.refl _ w)).trans hb); clear hb))
    go_wp2_with fail
    go_ret
    exact ⟨_, rfl, by first | exact HB2.out.alloc HB2.out.size _ | exact (HB2.out.drew).alloc HB2.out.size _⟩
set_option maxHeartbeats 4000000 in
set_option maxRecDepth 100000 in
theorem toError_syn (fn s : ByteArray) (base bits : Int) (w : World) (hs : s.size ≤ 1000000) (hE : ErrT w) :
    Calls Tryz.prog 101 #[.string fn, .string s, .int .i64 base, .int .i64 bits, .iface 172 (.int .i64 2)] w fun e w' => ∃ N, e = .returned (.iface 173 (.pointer (some ⟨N, 0, none⟩))) ∧ Below w.heap.size w w' := by
  have HSE := hide (syntaxError_any fn s w hs hE)
  have heq : ∀ W, (binOp .eql 79 (.iface 172 (.int .i64 2)) (.iface 172 (.int .i64 2))).run Tryz.prog W = .ok (.bool true) W := fun W => Lib.run_eql_iface_int W 2 2 Tryz.underlying79 (by kernel_rfl) Tryz.underlying172
  clear hE
  go_enter Tryz.func101, Tryz.ntmps101
  go_wp2_with fail
  refine HSE.out.mono ?_
  rintro e w2 ⟨N, rfl, hb⟩
  have HB := hide hb
  clear hb
  go_wp2_with fail
  go_ret
  exact ⟨N, rfl, HB.out⟩
set_option maxHeartbeats 4000000 in
set_option maxRecDepth 100000 in
theorem toError_rng (fn s : ByteArray) (base bits : Int) (w : World) (hs : s.size ≤ 1000000) (hE : ErrT w) :
    Calls Tryz.prog 101 #[.string fn, .string s, .int .i64 base, .int .i64 bits, .iface 172 (.int .i64 1)] w fun e w' => ∃ N, e = .returned (.iface 173 (.pointer (some ⟨N, 0, none⟩))) ∧ Below w.heap.size w w' := by
  obtain ⟨-, ev, hv, hev⟩ := hE
  have HSE := hide (Tryz.strconv_rangeError fn s ev w (by omega) hv hev)
  have heq : ∀ W, (binOp .eql 79 (.iface 172 (.int .i64 1)) (.iface 172 (.int .i64 2))).run Tryz.prog W = .ok (.bool false) W := fun W => Lib.run_eql_iface_int W 1 2 Tryz.underlying79 (by kernel_rfl) Tryz.underlying172
  have heq2 : ∀ W, (binOp .eql 79 (.iface 172 (.int .i64 1)) (.iface 172 (.int .i64 1))).run Tryz.prog W = .ok (.bool true) W := fun W => Lib.run_eql_iface_int W 1 1 Tryz.underlying79 (by kernel_rfl) Tryz.underlying172
  clear hv hev
  go_enter Tryz.func101, Tryz.ntmps101
  go_wp2_with fail
  refine HSE.out.mono ?_
  rintro e w2 ⟨N, rfl, -, -, hb⟩
  have HB := hide hb
  clear hb
  go_wp2_with fail
  go_ret
  exact ⟨N, rfl, HB.out⟩
theorem isOctal_any (c : UInt8) (w : World) : Calls Tryz.prog 120 #[.int .u8 (c.toNat : Int)] w fun e w' => e = .returned (.bool (isOc c)) ∧ w' = w := by
  have HV : Hid (isOc c = (decide (48 ≤ (c.toNat : Int)) && decide ((c.toNat : Int) ≤ 55))) := hide (by unfold isOc; congr 1 <;> (apply decide_eq_decide.2; omega))
  rw [HV.out]
  by_cases h1 : 48 ≤ (c.toNat : Int)
  · by_cases h2 : (c.toNat : Int) ≤ 55
    · go_enter Tryz.func120, Tryz.ntmps120
      go_wp2_with fail
      go_ret
      exact ⟨by simp [h1, h2], rfl⟩
    · go_enter Tryz.func120, Tryz.ntmps120
      go_wp2_with fail
      go_ret
      exact ⟨by simp [h1, h2], rfl⟩
  · go_enter Tryz.func120, Tryz.ntmps120
    go_wp2_with fail
    go_ret
    exact ⟨by simp; omega, rfl⟩
theorem one_string (w : World) (c : UInt8) : (convert 41 9 (.slice (some ⟨w.heap.size, 0, none⟩) 1 1)).run Tryz.prog (w.alloc (.cells #[.int .u8 (c.toNat : Int)] 5)) = .ok (.string ⟨#[c]⟩) (w.alloc (.cells #[.int .u8 (c.toNat : Int)] 5)) := by
  have := run_convert_bytes_back (P := Tryz.prog) (w.alloc (.cells #[.int .u8 (c.toNat : Int)] 5)) 41 9 5 ⟨w.heap.size, 0, none⟩ 1 [c] Tryz.underlying41 Tryz.underlying5 Tryz.underlying9 (fun j hj => by
    obtain rfl : j = 0 := by simpa using hj
    have h : (w.alloc (.cells #[.int .u8 (c.toNat : Int)] 5)).cell? ⟨w.heap.size, 0, none⟩ = some (.int .u8 (c.toNat : Int)) := by rw [World.cell?_alloc_new]; rfl
    exact h)
  exact this
/-- what strconv.ParseUint returns of one byte at the base 16 -/
def pu1P (tN : TypeId) (c : UInt8) (e : Ending) : Prop := match hexV c with
  | some d => e = .returned (.tuple #[.int .u64 (d : Int), .nilIface])
  | none => ∃ N, e = .returned (.tuple #[.int .u64 0, .iface tN (.pointer (some ⟨N, 0, none⟩))])
set_option maxHeartbeats 4000000 in
set_option maxRecDepth 100000 in
theorem pubUint_any (c : UInt8) (w : World) (hE : ErrT w) :
    Calls Tryz.prog 150 #[.string ⟨#[c]⟩, .int .i64 16, .int .i64 8] w fun e w' => pu1P 173 c e ∧ Below w.heap.size w w' := by
  have HPU := hide (pu_16b8 ⟨#[c]⟩ (by simp [ByteArray.size]) (by simp [ByteArray.size]) w)
  rw [show (⟨#[c]⟩ : ByteArray).data.toList = [c] from rfl, puR_one] at HPU
  have HBB : Hid (Below w.heap.size w (Lib.bytesWorld w 5 ⟨#[c]⟩)) := hide ⟨rfl, rfl, rfl, by rw [Lib.bytesWorld_size]; omega, fun j hj => Lib.bytesWorld_at_old w _ _ j hj⟩
  unfold pu1P
  cases hv : hexV c with
  | some d =>
    rw [hv] at HPU
    simp only at HPU
    unfold peV at HPU
    simp only at HPU
    clear hE hv
    go_enter Tryz.func150, Tryz.ntmps150
    go_wp2_with fail
    refine HPU.out.mono ?_
    rintro e w' ⟨rfl, rfl⟩
    go_wp2_with fail
    go_ret2
    exact ⟨rfl, HBB.out⟩
  | none =>
    rw [hv] at HPU
    simp only at HPU
    unfold peV at HPU
    simp only at HPU
    have HTE := hide (toError_syn ⟨#[80, 97, 114, 115, 101, 85, 105, 110, 116]⟩ ⟨#[c]⟩ 16 8 _ (by simp [ByteArray.size]) (hE.below HBB.out))
    clear hE hv
    go_enter Tryz.func150, Tryz.ntmps150
    go_wp2_with fail
    refine HPU.out.mono ?_
    rintro e w' ⟨rfl, rfl⟩
    go_wp2_with fail
    refine HTE.out.mono ?_
    rintro e w2 ⟨N, rfl, hb⟩
    have HB2 := hide (HBB.out.trans (hb.mono HBB.out.size))
    clear hb
    go_wp2_with fail
    go_ret2
    exact ⟨⟨N, rfl⟩, HB2.out⟩
set_option maxHeartbeats 4000000 in
set_option maxRecDepth 100000 in
theorem hexDigit_any (c : UInt8) (w : World) (hE : ErrT w) :
    Calls Tryz.prog 121 #[.int .u8 (c.toNat : Int)] w fun e w' => e = .returned (match hexV c with | some d => .tuple #[.int .i64 (d : Int), .bool true] | none => .tuple #[.int .i64 0, .bool false]) ∧ Below w.heap.size w w' := by
  have HPU := hide (fun W hb => pubUint_any c W (hE.below (w' := W) hb))
  unfold pu1P at HPU
  have hcv : (convert 41 9 (.slice (some ⟨w.heap.size, 0, none⟩) 1 1)).run Tryz.prog (w.alloc (.cells #[.int .u8 (c.toNat : Int)] 5)) = .ok (.string ⟨#[c]⟩) (w.alloc (.cells #[.int .u8 (c.toNat : Int)] 5)) := one_string w c
  clear hE
  cases hv : hexV c with
  | some d =>
    have hd := hexV_lt hv
    rw [hv] at HPU
    simp only at HPU
    clear hv
    go_enter Tryz.func121, Tryz.ntmps121
    go_wp2_with fail
    refine (HPU.out _ ((Below.refl _ w).alloc (Nat.le_refl _) _)).mono ?_
    rintro e w2 ⟨rfl, hb⟩
    have HB := hide (((Below.refl _ w).alloc (Nat.le_refl _) (.cells #[.int .u8 (c.toNat : Int)] 5)).trans (hb.mono (by simp)))
    clear hb
    have d0 : (0 : Int) ≤ (d : Int) := by omega
    have d1 : (d : Int) < 16 := by omega
    go_wp2_with fail
    go_quiet (fail)
    go_wp2_with fail
    go_ret2
    exact ⟨rfl, below_q HB.out⟩
  | none =>
    rw [hv] at HPU
    simp only at HPU
    clear hv
    go_enter Tryz.func121, Tryz.ntmps121
    go_wp2_with fail
    refine (HPU.out _ ((Below.refl _ w).alloc (Nat.le_refl _) _)).mono ?_
    rintro e w2 ⟨⟨N, rfl⟩, hb⟩
    have HB := hide (((Below.refl _ w).alloc (Nat.le_refl _) (.cells #[.int .u8 (c.toNat : Int)] 5)).trans (hb.mono (by simp)))
    clear hb
    go_wp2_with fail
    go_quiet (fail)
    go_wp2_with fail
    go_ret2
    exact ⟨rfl, below_q HB.out⟩
end Go.Proofs.YtifpmigghplmoaaGreatDoor

/- PfC -/
set_option linter.unusedVariables false
set_option linter.unusedSimpArgs false
namespace Go.Pw
open Go.RowKit
/-- what the program's escape returns -/
def escR (bs : List UInt8) (e : Ending) : Prop := match escP bs with
  | some (c, n) => e = .returned (.tuple #[.int .u8 (c.toNat : Int), .int .i64 (n : Int), .bool true])
  | none => ∃ x n : Int, e = .returned (.tuple #[.int .u8 x, .int .i64 n, .bool false])
theorem octR_step {k v : Nat} {c : UInt8} {r : List UInt8} (h : isOc c = true) : octR (k + 1) v (c :: r) = ((octR k (8 * v + (c.toNat - 48)) r).1, (octR k (8 * v + (c.toNat - 48)) r).2 + 1) := by
  rw [octR, if_pos h]
theorem octR_stop {k v : Nat} {c : UInt8} {r : List UInt8} (h : isOc c = false) : octR k v (c :: r) = (v, 0) := by
  cases k with
  | zero => rfl
  | succ k => rw [octR, if_neg (by rw [h]; simp)]
theorem octR_nil (k v : Nat) : octR k v [] = (v, 0) := by cases k <;> rfl
theorem hexR_nil (k v : Nat) : hexR k v [] = (v, 0) := by cases k <;> rfl
theorem hexR_stop {k v : Nat} {c : UInt8} {r : List UInt8} (h : hexV c = none) : hexR k v (c :: r) = (v, 0) := by
  cases k with
  | zero => rfl
  | succ k => rw [hexR, h]
theorem hexR_step {k v d : Nat} {c : UInt8} {r : List UInt8} (h : hexV c = some d) : hexR (k + 1) v (c :: r) = ((hexR k (16 * v + d) r).1, (hexR k (16 * v + d) r).2 + 1) := by
  rw [hexR, h]
/-- j digits of the octal escape have been read -/
def OcAt (bs : List UInt8) (j v : Nat) : Prop := j ≤ 3 ∧ v < 8 ^ j ∧ octR 3 0 bs = ((octR (3 - j) v (bs.drop j)).1, (octR (3 - j) v (bs.drop j)).2 + j)
theorem OcAt.start (bs : List UInt8) : OcAt bs 0 0 := ⟨by omega, by decide, by simp⟩
theorem isOc_iff (c : UInt8) : isOc c = true ↔ 48 ≤ c.toNat ∧ c.toNat ≤ 55 := by unfold isOc; simp
theorem OcAt.next {bs : List UInt8} {j v : Nat} (h : OcAt bs j v) (hj : j < 3) (hb : j < bs.length) (ho : isOc bs[j] = true) : OcAt bs (j + 1) (8 * v + (bs[j].toNat - 48)) := by
  obtain ⟨h1, h2, h3⟩ := h
  have hd := (isOc_iff _).1 ho
  refine ⟨by omega, by rw [Nat.pow_succ]; omega, ?_⟩
  rw [h3, List.drop_eq_getElem_cons hb, show 3 - j = (3 - (j + 1)) + 1 by omega, octR_step ho]
  simp only [Prod.mk.injEq, true_and]
  omega
theorem OcAt.stop {bs : List UInt8} {j v : Nat} (h : OcAt bs j v) (hs : j = 3 ∨ bs.length ≤ j ∨ ∃ hb : j < bs.length, isOc bs[j] = false) : octR 3 0 bs = (v, j) := by
  obtain ⟨h1, h2, h3⟩ := h
  have e : octR (3 - j) v (bs.drop j) = (v, 0) := by
    rcases hs with rfl | hs | ⟨hb, ho⟩
    · rfl
    · rw [List.drop_eq_nil_of_le hs, octR_nil]
    · rw [List.drop_eq_getElem_cons hb, octR_stop ho]
  rw [h3, e]; simp
def HxAt (r : List UInt8) (j v : Nat) : Prop := j ≤ 2 ∧ v < 16 ^ j ∧ hexR 2 0 r = ((hexR (2 - j) v (r.drop j)).1, (hexR (2 - j) v (r.drop j)).2 + j)
theorem HxAt.start (r : List UInt8) : HxAt r 0 0 := ⟨by omega, by decide, by simp⟩
theorem HxAt.next {r : List UInt8} {j v d : Nat} (h : HxAt r j v) (hj : j < 2) (hb : j < r.length) (ho : hexV r[j] = some d) : HxAt r (j + 1) (16 * v + d) := by
  obtain ⟨h1, h2, h3⟩ := h
  have hd := hexV_lt ho
  refine ⟨by omega, by rw [Nat.pow_succ]; omega, ?_⟩
  rw [h3, List.drop_eq_getElem_cons hb, show 2 - j = (2 - (j + 1)) + 1 by omega, hexR_step ho]
  simp only [Prod.mk.injEq, true_and]
  omega
theorem HxAt.stop {r : List UInt8} {j v : Nat} (h : HxAt r j v) (hs : j = 2 ∨ r.length ≤ j ∨ ∃ hb : j < r.length, hexV r[j] = none) : hexR 2 0 r = (v, j) := by
  obtain ⟨h1, h2, h3⟩ := h
  have e : hexR (2 - j) v (r.drop j) = (v, 0) := by
    rcases hs with rfl | hs | ⟨hb, ho⟩
    · rfl
    · rw [List.drop_eq_nil_of_le hs, hexR_nil]
    · rw [List.drop_eq_getElem_cons hb, hexR_stop ho]
  rw [h3, e]; simp
theorem u8_of (v : Nat) : ((UInt8.ofNat v).toNat : Int) = (v : Int) % 256 := by
  rw [UInt8.toNat_ofNat']; omega
end Go.Pw
namespace Go.Proofs.YtifpmigghplmoaaGreatDoor
open Go.RowKit Go.Pw Go.Shelf
theorem esc_any (c : UInt8) (w : World) : Calls Tryz.prog 42 #[.string ⟨#[92, 34, 39, 110, 116, 114, 97, 98, 102, 118]⟩, .int .u8 (c.toNat : Int)] w fun e w' => e = .returned (.int .i64 (Lib.indexByte escFrom c)) ∧ w' = w := by
  have := Tryz.strings_IndexByte ⟨#[92, 34, 39, 110, 116, 114, 97, 98, 102, 118]⟩ (c.toNat : Int) w
  rw [show ((c.toNat : Int)).toNat.toUInt8 = c by simp] at this
  exact this
theorem esc_no {c : UInt8} (h : c ∉ escFrom) : Lib.indexByte escFrom c < 0 := by
  have := Lib.contains_iff_indexByte escFrom c
  rw [Bool.eq_false_iff.2 (fun e => h (List.contains_iff_mem.1 e))] at this
  have := of_decide_eq_false this.symm
  omega
theorem esc_ix : ∀ k : Fin 10, Lib.indexByte escFrom (escFrom.getD k.val 0) = (k.val : Int) ∧ escFrom.findIdx (· == escFrom.getD k.val 0) = k.val := by decide +kernel
theorem esc_pos {c : UInt8} (h : c ∈ escFrom) : ∃ k : Nat, k < 10 ∧ Lib.indexByte escFrom c = (k : Int) ∧ escFrom.findIdx (· == c) = k := by
  obtain ⟨k, hk, rfl⟩ := List.getElem_of_mem h
  have h10 : escFrom.length = 10 := rfl
  have := esc_ix ⟨k, by omega⟩
  simp only [List.getD_eq_getElem?_getD, List.getElem?_eq_getElem hk, Option.getD_some] at this
  exact ⟨k, by omega, this.1, this.2⟩
theorem esc_to (k : Nat) (hk : k < 10) : ((⟨#[92, 34, 39, 10, 9, 13, 7, 8, 12, 11]⟩ : ByteArray)[k]'(by exact hk)) = escTo.getD k 0 := by
  match k, hk with
  | 0, _ => rfl
  | 1, _ => rfl
  | 2, _ => rfl
  | 3, _ => rfl
  | 4, _ => rfl
  | 5, _ => rfl
  | 6, _ => rfl
  | 7, _ => rfl
  | 8, _ => rfl
  | 9, _ => rfl
set_option maxHeartbeats 8000000 in
set_option maxRecDepth 100000 in
theorem escape_any (s : ByteArray) (w : World) (hs : s.size ≤ 1000000) (hE : ErrT w) :
    Calls Tryz.prog 80 #[.string s] w fun e w' => escR s.data.toList e ∧ Below w.heap.size w w' := by
  have HLS := hide (len_size s)
  by_cases h0 : s.size = 0
  · have hnil : s.data.toList = [] := List.eq_nil_of_length_eq_zero (by rw [len_size]; exact h0)
    have HV : Hid (escP s.data.toList = none) := hide (by rw [hnil]; rfl)
    have hemp : s.toList.isEmpty = true := by rw [Lib.toList_data, hnil]; rfl
    unfold escR
    rw [HV.out]
    clear hnil h0 hE
    go_enter Tryz.func80, Tryz.ntmps80
    go_wp2_with fail
    go_ret3
    exact ⟨⟨_, _, rfl⟩, Below.refl _ _⟩
  · have hpos : 0 < s.size := by omega
    have hemp : s.toList.isEmpty = false := by
      rw [Lib.toList_data]
      have : s.data.toList.length = s.size := len_size s
      cases h : s.data.toList with
      | nil => rw [h] at this; simp at this; omega
      | cons a r => rfl
    have HCO : Hid (s.data.toList = s[0] :: s.data.toList.drop 1) := hide (by
      have h2 : 0 < s.data.toList.length := by rw [len_size]; exact hpos
      have := List.drop_eq_getElem_cons h2
      rw [List.drop_zero] at this
      exact this)
    have g0 : (0 : Int) < (s.size : Int) := by omega
    have HES := hide (fun W => esc_any s[0] W)
    clear h0
    by_cases hm : s[0] ∈ escFrom
    · obtain ⟨k, hk, hk1, hk2⟩ := esc_pos hm
      have HV : Hid (escP s.data.toList = some (escTo.getD k 0, 1)) := hide (by rw [HCO.out, escP, if_pos hm, hk2])
      have HTO := hide (esc_to k hk)
      simp only [hk1] at HES
      unfold escR
      rw [HV.out]
      simp only
      have k0 : (0 : Int) ≤ (k : Int) := by omega
      have k1 : (k : Int) < 10 := by omega
      clear hm hk1 hk2 hE
      go_enter Tryz.func80, Tryz.ntmps80
      go_wp2_with fail
      refine (HES.out _).mono ?_
      rintro e w' ⟨rfl, rfl⟩
      go_wp2_with fail
      go_ret3
      exact ⟨by rw [← HTO.out]; rfl, Below.refl _ _⟩
    · have hix := esc_no hm
      obtain ⟨ix, hixe⟩ : ∃ x, Lib.indexByte escFrom s[0] = x := ⟨_, rfl⟩
      rw [hixe] at hix
      simp only [hixe] at HES
      have HM := hide hm
      have hix2 : ¬ (0 : Int) ≤ ix := by omega
      clear hm hixe
      have HE0 := hide hE
      go_enter Tryz.func80, Tryz.ntmps80
      go_wp2_with fail
      refine (HES.out _).mono ?_
      rintro e w' ⟨rfl, rfl⟩
      go_wp2_with fail
      go_loopw [6, 7] (fun i v wr => ∃ (j acc : Nat), j ≤ 3 ∧ i = .int .i64 (j : Int) ∧ v = .int .i64 (acc : Int) ∧ j ≤ s.size ∧ Hid (OcAt s.data.toList j acc) ∧ Hid (Below w'.heap.size w' wr)) (fun i _ _ => 3 - (intOf i).toNat)
      case atStart => exact ⟨0, 0, by omega, rfl, rfl, by omega, hide (OcAt.start _), hide (Below.refl _ _)⟩
      case round =>
        obtain ⟨j, acc, hj, rfl, rfl, hjs, HOC, HW⟩ := hrel
        have hacc : acc < 512 := by have h1 := HOC.out.2.1; have h2 : 8 ^ j ≤ 8 ^ 3 := Nat.pow_le_pow_right (by decide) hj; omega
        have p0 : (0 : Int) ≤ (j : Int) := by omega
        by_cases c1 : j < s.size
        · have c1' : (j : Int) < (s.size : Int) := by omega
          by_cases c2 : j < 3
          · have c2' : (j : Int) < 3 := by omega
            have HGE : Hid (∃ hb : j < s.data.toList.length, s.data.toList[j] = s[j]) := hide ⟨by rw [HLS.out]; exact c1, rfl⟩
            have HIO := hide (isOctal_any s[j] wr)
            cases ho : isOc s[j]
            · have HNO := hide ho
              rw [ho] at HIO
              clear ho
              go_wp2_with fail
              refine HIO.out.mono ?_
              rintro e w2 ⟨rfl, rfl⟩
              have HO := hide (HOC.out.stop (.inr (.inr (by obtain ⟨hb, he⟩ := HGE.out; exact ⟨hb, by rw [he]; exact HNO.out⟩))))
              by_cases hj0 : 0 < j
              · have hj1 : (0 : Int) < (j : Int) := by omega
                have HV : Hid (escP s.data.toList = some (UInt8.ofNat acc, j)) := hide (by
                  have ho := HO.out
                  rw [HCO.out] at ho ⊢
                  rw [escP, if_neg HM.out, ho, if_pos hj0])
                have HU := hide (u8_of acc)
                clear hj0
                go_wp2_with fail
                go_ret3
                refine ⟨?_, HW.out⟩; unfold escR; rw [HV.out]; simp only; rw [HU.out]; rfl
              · obtain rfl : j = 0 := by omega
                have hj1 : ¬ (0 : Int) < ((0 : Nat) : Int) := by omega
                have hacc0 : acc = 0 := by have := HOC.out.2.1; simpa using this
                by_cases hx : s[0] = 120
                · have d1 : ((s[0].toNat : Int) != 120) = false := by rw [hx]; rfl
                  have HEX : Hid (escP s.data.toList = if 0 < (hexR 2 0 (s.data.toList.drop 1)).2 then some (UInt8.ofNat (hexR 2 0 (s.data.toList.drop 1)).1, (hexR 2 0 (s.data.toList.drop 1)).2 + 1) else none) := hide (by
                    have ho := HO.out
                    obtain ⟨R, hR⟩ : ∃ R, s.data.toList.drop 1 = R := ⟨_, rfl⟩
                    rw [HCO.out, hR] at ho
                    rw [HCO.out, hR, escP, if_neg HM.out, ho, if_neg (by simp), if_pos hx, List.drop_succ_cons, List.drop_zero])
                  subst hacc0
                  clear hx
                  go_wp2_with fail
                  go_loopw [6, 7] (fun i v wq => ∃ (q b : Nat), q ≤ 2 ∧ i = .int .i64 ((1 + q : Nat) : Int) ∧ v = .int .i64 (b : Int) ∧ 1 + q ≤ s.size ∧ Hid (HxAt (s.data.toList.drop 1) q b) ∧ Hid (Below w'.heap.size w' wq)) (fun i _ _ => 3 - (intOf i).toNat)
                  case atStart => exact ⟨0, 0, by omega, rfl, rfl, by omega, hide (HxAt.start _), HW⟩
                  case round =>
                    obtain ⟨q, b, hq, rfl, rfl, hqs, HHX, HWQ⟩ := hrel
                    have hb2 : b < 256 := by have h1 := HHX.out.2.1; have h2 : 16 ^ q ≤ 16 ^ 2 := Nat.pow_le_pow_right (by decide) hq; omega
                    obtain ⟨p, hp⟩ : ∃ p, 1 + q = p := ⟨_, rfl⟩
                    have HPQ := hide hp
                    rw [hp] at hqs ⊢
                    clear hp
                    have p0 : (0 : Int) ≤ (p : Int) := by omega
                    have HDL : Hid ((s.data.toList.drop 1).length = s.size - 1) := hide (by rw [List.length_drop, HLS.out])
                    by_cases c1 : p < s.size
                    · have c1' : (p : Int) < (s.size : Int) := by omega
                      by_cases c2 : q < 2
                      · have c2' : (p : Int) < 3 := by have := HPQ.out; omega
                        have HGE : Hid (∃ hb : q < (s.data.toList.drop 1).length, (s.data.toList.drop 1)[q] = s[p]) := hide ⟨by rw [HDL.out]; have := HPQ.out; omega, by
                          have := HPQ.out
                          rw [List.getElem_drop]
                          show s.data.toList[1 + q]'_ = _
                          simp only [this]; rfl⟩
                        have HHD := hide (hexDigit_any s[p] wr (HE0.out.below HWQ.out))
                        cases hv : hexV s[p] with
                        | none =>
                          have HS := hide (HHX.out.stop (.inr (.inr (by obtain ⟨hb, he⟩ := HGE.out; exact ⟨hb, by rw [he]; exact hv⟩))))
                          rw [hv] at HHD
                          simp only at HHD
                          clear hv
                          go_wp2_with fail
                          refine HHD.out.mono ?_
                          rintro e w2 ⟨rfl, hb⟩
                          have HW2 := hide (HWQ.out.trans (hb.mono HWQ.out.size))
                          clear hb
                          have HU := hide (u8_of b)
                          by_cases hq0 : 0 < q
                          · have e1 : (1 : Int) < (p : Int) := by have := HPQ.out; omega
                            have HV : Hid (escP s.data.toList = some (UInt8.ofNat b, p)) := hide (by rw [HEX.out, HS.out]; simp only; rw [if_pos hq0, show q + 1 = p by (have := HPQ.out; omega)])
                            go_wp2_with fail
                            go_ret3
                            refine ⟨?_, HW2.out⟩; unfold escR; rw [HV.out]; simp only; rw [HU.out, show (b : Int) % 256 = (b : Int) by omega]; simp [e1]
                          · have e1 : ¬ (1 : Int) < (p : Int) := by have := HPQ.out; omega
                            have HV : Hid (escP s.data.toList = none) := hide (by rw [HEX.out, HS.out]; simp only; rw [if_neg hq0])
                            go_wp2_with fail
                            go_ret3
                            refine ⟨?_, HW2.out⟩; unfold escR; rw [HV.out]; exact ⟨(b : Int), (p : Int), by simp [e1]⟩
                        | some d =>
                          have HN := hide (by obtain ⟨hb, he⟩ := HGE.out; exact HHX.out.next c2 hb (by rw [he]; exact hv) : HxAt (s.data.toList.drop 1) (q + 1) (16 * b + d))
                          have hd := hexV_lt hv
                          rw [hv] at HHD
                          simp only at HHD
                          clear hv
                          go_wp2_with fail
                          refine HHD.out.mono ?_
                          rintro e w2 ⟨rfl, hb⟩
                          have HW2 := hide (HWQ.out.trans (hb.mono HWQ.out.size))
                          clear hb
                          go_wp2_with fail
                          go_roundw
                          case rel => exact ⟨q + 1, 16 * b + d, by omega, by have := HPQ.out; first | go_num | (simp; omega), by first | go_num | (simp; done), by have := HPQ.out; omega, HN, HW2⟩
                          case measure => have := HPQ.out; simp [intOf]; omega
                      · have c2' : ¬ (p : Int) < 3 := by have := HPQ.out; omega
                        have HS := hide (HHX.out.stop (.inl (by omega)))
                        have HW2 := HWQ
                        have HU := hide (u8_of b)
                        by_cases hq0 : 0 < q
                        · have e1 : (1 : Int) < (p : Int) := by have := HPQ.out; omega
                          have HV : Hid (escP s.data.toList = some (UInt8.ofNat b, p)) := hide (by rw [HEX.out, HS.out]; simp only; rw [if_pos hq0, show q + 1 = p by (have := HPQ.out; omega)])
                          go_wp2_with fail
                          go_ret3
                          refine ⟨?_, HW2.out⟩; unfold escR; rw [HV.out]; simp only; rw [HU.out, show (b : Int) % 256 = (b : Int) by omega]; simp [e1]
                        · have e1 : ¬ (1 : Int) < (p : Int) := by have := HPQ.out; omega
                          have HV : Hid (escP s.data.toList = none) := hide (by rw [HEX.out, HS.out]; simp only; rw [if_neg hq0])
                          go_wp2_with fail
                          go_ret3
                          refine ⟨?_, HW2.out⟩; unfold escR; rw [HV.out]; exact ⟨(b : Int), (p : Int), by simp [e1]⟩
                    · have c1' : ¬ (p : Int) < (s.size : Int) := by omega
                      have HS := hide (HHX.out.stop (.inr (.inl (by rw [HDL.out]; have := HPQ.out; omega))))
                      have HW2 := HWQ
                      have HU := hide (u8_of b)
                      by_cases hq0 : 0 < q
                      · have e1 : (1 : Int) < (p : Int) := by have := HPQ.out; omega
                        have HV : Hid (escP s.data.toList = some (UInt8.ofNat b, p)) := hide (by rw [HEX.out, HS.out]; simp only; rw [if_pos hq0, show q + 1 = p by (have := HPQ.out; omega)])
                        go_wp2_with fail
                        go_ret3
                        refine ⟨?_, HW2.out⟩; unfold escR; rw [HV.out]; simp only; rw [HU.out, show (b : Int) % 256 = (b : Int) by omega]; simp [e1]
                      · have e1 : ¬ (1 : Int) < (p : Int) := by have := HPQ.out; omega
                        have HV : Hid (escP s.data.toList = none) := hide (by rw [HEX.out, HS.out]; simp only; rw [if_neg hq0])
                        go_wp2_with fail
                        go_ret3
                        refine ⟨?_, HW2.out⟩; unfold escR; rw [HV.out]; exact ⟨(b : Int), (p : Int), by simp [e1]⟩
                · have d1 : ((s[0].toNat : Int) != 120) = true := by
                    have : s[0].toNat ≠ 120 := fun e => hx (UInt8.toNat_inj.1 e)
                    simp; omega
                  have HV : Hid (escP s.data.toList = none) := hide (by
                    have ho := HO.out
                    rw [HCO.out] at ho ⊢
                    rw [escP, if_neg HM.out, ho, if_neg (by simp), if_neg hx])
                  clear hx
                  go_wp2_with fail
                  go_ret3
                  refine ⟨?_, HW.out⟩; unfold escR; rw [HV.out]; exact ⟨_, _, rfl⟩
            · have HN := hide (by obtain ⟨hb, he⟩ := HGE.out; have := HOC.out.next c2 hb (by rw [he]; exact ho); rw [he] at this; exact this : OcAt s.data.toList (j + 1) (8 * acc + (s[j].toNat - 48)))
              have hd := (isOc_iff _).1 ho
              rw [ho] at HIO
              obtain ⟨d, hde⟩ : ∃ d : Nat, s[j].toNat - 48 = d := ⟨_, rfl⟩
              have u1 : IntKind.u8.wrap ((s[j].toNat : Int) - 48) = (d : Int) := by rw [show (s[j].toNat : Int) - 48 = (d : Int) by omega]; exact IntWalk.u8_in _ (by omega)
              rw [hde] at HN
              have hdl : d ≤ 7 := by omega
              clear ho hd hde
              go_wp2_with fail
              refine HIO.out.mono ?_
              rintro e w2 ⟨rfl, rfl⟩
              go_wp2_with fail
              go_roundw
              case rel => exact ⟨j + 1, 8 * acc + d, by omega, by go_num, by first | go_num | (simp; done), by omega, HN, HW⟩
              case measure => simp [intOf]; omega
          · have c2' : ¬ (j : Int) < 3 := by omega
            have HO := hide (HOC.out.stop (.inl (by omega)))
            by_cases hj0 : 0 < j
            · have hj1 : (0 : Int) < (j : Int) := by omega
              have HV : Hid (escP s.data.toList = some (UInt8.ofNat acc, j)) := hide (by
                have ho := HO.out
                rw [HCO.out] at ho ⊢
                rw [escP, if_neg HM.out, ho, if_pos hj0])
              have HU := hide (u8_of acc)
              clear hj0
              go_wp2_with fail
              go_ret3
              refine ⟨?_, HW.out⟩; unfold escR; rw [HV.out]; simp only; rw [HU.out]; rfl
            · exact absurd hj0 (by omega)
        · have c1' : ¬ (j : Int) < (s.size : Int) := by omega
          have HO := hide (HOC.out.stop (.inr (.inl (by rw [HLS.out]; omega))))
          by_cases hj0 : 0 < j
          · have hj1 : (0 : Int) < (j : Int) := by omega
            have HV : Hid (escP s.data.toList = some (UInt8.ofNat acc, j)) := hide (by
              have ho := HO.out
              rw [HCO.out] at ho ⊢
              rw [escP, if_neg HM.out, ho, if_pos hj0])
            have HU := hide (u8_of acc)
            clear hj0
            go_wp2_with fail
            go_ret3
            refine ⟨?_, HW.out⟩; unfold escR; rw [HV.out]; simp only; rw [HU.out]; rfl
          · exact absurd hj0 (by omega)
end Go.Proofs.YtifpmigghplmoaaGreatDoor
