/- The small sums: plain, adler, crc; the reference's Crc. -/
import Derived.Test.YtinpgnekjebipaaDoorSmU
import Derived.Test.YtinpgnekjebipaaDoorSmH
import Derived.BigRegion
set_option linter.unusedVariables false
set_option linter.unusedSimpArgs false
namespace Go.Pw
open Go.RowKit
/-- words in memory -/
def wVs (l : List W32) : List Value := l.map fun x : W32 => Value.int .u32 ((x.toNat : Nat) : Int)
def RowW (w : World) (b : Nat) (T : TypeId) (l : List W32) : Prop := w.heap[b]? = some (.cells (wVs l).toArray T (0, 0))
theorem RowW.lt {w : World} {b : Nat} {T : TypeId} {l : List W32} (h : RowW w b T l) : b < w.heap.size := (Array.getElem?_eq_some_iff.1 h).1
theorem RowW.below {w w' : World} {b : Nat} {T : TypeId} {l : List W32} (h : RowW w b T l) (hb : Below w.heap.size w w') : RowW w' b T l := (hb.block b h.lt).trans h
theorem RowW.set {w : World} {b : Nat} {T : TypeId} {l : List W32} (h : RowW w b T l) (s : Nat) (x : W32) : RowW (w.setCell ⟨b, s, none⟩ (.int .u32 ((x.toNat : Nat) : Int))) b T (l.set s x) := by
  unfold RowW at h ⊢
  have e : wVs (l.set s x) = (wVs l).set s (.int .u32 ((x.toNat : Nat) : Int)) := by simp [wVs, List.map_set]
  rw [e]
  simp [World.setCell, Array.getElem?_modify, h]
theorem RowW.cells {w : World} {b : Nat} {T : TypeId} {l : List W32} (h : RowW w b T l) {s : Nat} {x : W32} (hs : l[s]? = some x) : w.cell? ⟨b, s, none⟩ = some (.int .u32 ((x.toNat : Nat) : Int)) ∧ w.frozen? ⟨b, s, none⟩ = false := by
  unfold RowW at h
  obtain ⟨hl, rfl⟩ := List.getElem?_eq_some_iff.1 hs
  refine ⟨?_, by simp [World.frozen?, h]⟩
  simp [World.cell?, h, wVs, hl]
theorem RowW.drew {w : World} {b : Nat} {T : TypeId} {l : List W32} (h : RowW w b T l) : RowW w.drew b T l := h
theorem RowW.other {w : World} {b : Nat} {T : TypeId} {l : List W32} (h : RowW w b T l) {p : Addr} (hp : b ≠ p.block) (v : Value) : RowW (w.setCell p v) b T l := (heap_setCell_other _ _ _ _ hp).trans h
/-- the lowest bit -/
theorem wi_one (x : W32) : bits .and .u32 ((x.toNat : Nat) : Int) 1 = if x.getLsbD 0 then 1 else 0 := by
  have h := u32_and_nat x.toNat 1 (wi_lt x) (by omega)
  rw [Nat.and_one_is_mod] at h
  have e : x.getLsbD 0 = decide (x.toNat % 2 = 1) := by
    rw [BitVec.getLsbD, Nat.testBit_zero]
  rw [show (1 : Int) = ((1 : Nat) : Int) from rfl, h, e]
  by_cases h2 : x.toNat % 2 = 1
  · rw [h2]; simp
  · have h3 : x.toNat % 2 = 0 := by omega
    rw [h3]; simp
/-- the low byte of a sum and a byte -/
theorem low_byte (x : W32) (c : UInt8) : bits .xor .u8 ((x.toNat % 256 : Nat) : Int) ((c.toNat : Nat) : Int) = ((((x ^^^ BitVec.ofNat 32 c.toNat) &&& 0xFF#32).toNat : Nat) : Int) ∧ ((x ^^^ BitVec.ofNat 32 c.toNat) &&& 0xFF#32).toNat < 256 := by
  have hc := c.toNat_lt
  have h1 := u8_xor_nat (x.toNat % 256) c.toNat (Nat.mod_lt _ (by omega)) (by omega)
  have e : ((x ^^^ BitVec.ofNat 32 c.toNat) &&& 0xFF#32).toNat = (x.toNat % 256) ^^^ c.toNat := by
    rw [BitVec.toNat_and, BitVec.toNat_xor, BitVec.toNat_ofNat, Nat.mod_eq_of_lt (show c.toNat < 2 ^ 32 by omega)]
    rw [show (0xFF#32).toNat = 2 ^ 8 - 1 from rfl, Nat.and_two_pow_sub_one_eq_mod, show (256 : Nat) = 2 ^ 8 from rfl, Nat.xor_mod_two_pow]
    congr 1
    exact Nat.mod_eq_of_lt (by omega)
  rw [e]
  refine ⟨h1, ?_⟩
  exact Nat.xor_lt_two_pow (n := 8) (Nat.mod_lt _ (by omega)) (by omega)
theorem take_nextB {s : ByteArray} {k : Nat} (h : k < s.size) : s.data.toList.take (k + 1) = s.data.toList.take k ++ [s[k]] := by
  rw [List.take_succ_eq_append_getElem (by rw [len_size]; exact h)]
  rfl
/-- the number of SumCrc -/
def crcV (l : List UInt8) : W32 := ~~~ (crcL 0xFFFFFFFF#32 l)
end Go.Pw
namespace Go.Proofs.YtinpgnekjebipaaDoor
open Go.RowKit Go.Pw
set_option maxHeartbeats 4000000 in
theorem plain_any (s : ByteArray) (w : World) (hs : s.size ≤ 4398046511104) : Calls Tryd.prog 17 #[.string s] w fun e w' => e = .returned (.int .u32 ((addL s.data.toList : Nat) : Int)) ∧ w = w' := by
  go_enter Tryd.func17, Tryd.ntmps17
  go_wp2_with fail
  go_loop [3, 7] (fun nv iv => ∃ k : Nat, k ≤ s.size ∧ nv = .int .u32 ((addL (s.data.toList.take k) : Nat) : Int) ∧ iv = .int .i64 (k : Int)) (fun _ iv => s.size - (intOf iv).toNat)
  case atStart => exact ⟨0, by omega, rfl, rfl⟩
  case round =>
    obtain ⟨k, hk, rfl, rfl⟩ := hrel
    by_cases hlt : k < s.size
    · have h1 : (k : Int) < (s.size : Int) := by omega
      have hn := addL_snoc (s.data.toList.take k) s[k]
      rw [← take_nextB hlt] at hn
      obtain ⟨A, hA⟩ : ∃ A, addL (s.data.toList.take k) = A := ⟨_, rfl⟩
      obtain ⟨x, hx⟩ : ∃ x, s[k] = x := ⟨_, rfl⟩
      rw [hA, hx] at hn
      rw [hA]
      have hlx := x.toNat_lt
      have hlA : A < 4294967296 := by rw [← hA]; exact addL_lt _
      have w1 : IntKind.u32.wrap ((x.toNat : Nat) : Int) = ((x.toNat : Nat) : Int) := by rw [IntKind.wrap_u32']; omega
      have w2 : IntKind.u32.wrap ((A : Int) + ((x.toNat : Nat) : Int)) = (((A + x.toNat) % 4294967296 : Nat) : Int) := by rw [IntKind.wrap_u32']; omega
      rw [← hn] at w2
      have HN := hide hn
      clear hn hA
      go_wp2_with fail
      go_round
      case rel => exact ⟨k + 1, by omega, rfl, by go_num⟩
      case measure => simp [intOf]; omega
    · obtain rfl : k = s.size := by omega
      have hkk : ¬ (s.size : Int) < (s.size : Int) := by omega
      have HT : Hid (s.data.toList.take s.size = s.data.toList) := hide (by rw [← len_size, List.take_length])
      go_wp2_with fail
      go_ret
      exact ⟨by rw [HT.out]; rfl, rfl⟩
set_option maxHeartbeats 4000000 in
theorem adler_any (s : ByteArray) (w : World) (hs : s.size ≤ 4398046511104) : Calls Tryd.prog 18 #[.string s] w fun e w' => e = .returned (.int .u32 (((adl s.data.toList).2 * 65536 + (adl s.data.toList).1 : Nat) : Int)) ∧ w = w' := by
  go_enter Tryd.func18, Tryd.ntmps18
  go_wp2_with fail
  go_loop [3, 4, 8] (fun av bv iv => ∃ k : Nat, k ≤ s.size ∧ av = .int .u32 (((adl (s.data.toList.take k)).1 : Nat) : Int) ∧ bv = .int .u32 (((adl (s.data.toList.take k)).2 : Nat) : Int) ∧ iv = .int .i64 (k : Int)) (fun _ _ iv => s.size - (intOf iv).toNat)
  case atStart => exact ⟨0, by omega, rfl, rfl, rfl⟩
  case round =>
    obtain ⟨k, hk, rfl, rfl, rfl⟩ := hrel
    by_cases hlt : k < s.size
    · have h1 : (k : Int) < (s.size : Int) := by omega
      have hn := adl_snoc (s.data.toList.take k) s[k]
      rw [← take_nextB hlt] at hn
      obtain ⟨hl1, hl2⟩ := adl_lt (s.data.toList.take k)
      obtain ⟨P, hP⟩ : ∃ P, adl (s.data.toList.take k) = P := ⟨_, rfl⟩
      obtain ⟨x, hx⟩ : ∃ x, s[k] = x := ⟨_, rfl⟩
      rw [hP] at hn hl1 hl2
      rw [hx] at hn
      rw [hP]
      obtain ⟨A, B⟩ := P
      simp only at hn hl1 hl2 ⊢
      have hlx := x.toNat_lt
      obtain ⟨A2, hA2⟩ : ∃ A2, (A + x.toNat) % 65521 = A2 := ⟨_, rfl⟩
      have hA2l : A2 < 65521 := by rw [← hA2]; exact Nat.mod_lt _ (by omega)
      have w1 : IntKind.u32.wrap ((x.toNat : Nat) : Int) = ((x.toNat : Nat) : Int) := by rw [IntKind.wrap_u32']; omega
      have w2 : IntKind.u32.wrap ((A : Int) + ((x.toNat : Nat) : Int)) = ((A + x.toNat : Nat) : Int) := by rw [IntKind.wrap_u32']; omega
      have w3 : ((A + x.toNat : Nat) : Int) % 65521 = (A2 : Int) := by omega
      have w3' : ((A : Int) + ((x.toNat : Nat) : Int)) % 65521 = (A2 : Int) := by omega
      have w4 : IntKind.u32.wrap ((B : Int) + (A2 : Int)) = (B : Int) + (A2 : Int) := by rw [IntKind.wrap_u32']; omega
      rw [hA2] at hn
      have HN := hide hn
      have HW3 := hide w3'
      clear hn hP hA2
      go_wp2_with fail
      go_round
      case rel => exact ⟨k + 1, by omega, by rw [HN.out]; exact congrArg (Value.int IntKind.u32) HW3.out, by rw [HN.out]; rfl, by go_num⟩
      case measure => simp [intOf]; omega
    · obtain rfl : k = s.size := by omega
      have hkk : ¬ (s.size : Int) < (s.size : Int) := by omega
      have HT : Hid (s.data.toList.take s.size = s.data.toList) := hide (by rw [← len_size, List.take_length])
      obtain ⟨hl1, hl2⟩ := adl_lt (s.data.toList.take s.size)
      obtain ⟨A, hA⟩ : ∃ A, (adl (s.data.toList.take s.size)).1 = A := ⟨_, rfl⟩
      obtain ⟨B, hB⟩ : ∃ B, (adl (s.data.toList.take s.size)).2 = B := ⟨_, rfl⟩
      rw [hA] at hl1
      rw [hB] at hl2
      rw [hA, hB]
      have w1 : IntKind.u32.wrap ((B : Int) * 65536) = (B : Int) * 65536 := by rw [IntKind.wrap_u32']; omega
      have w2 : bits .or .u32 ((B : Int) * 65536) (A : Int) = ((B * 65536 + A : Nat) : Int) := by
        have h := u32_or_nat (B * 65536) A (by omega) (by omega)
        rw [nat_join 16 (B * 65536) A (by omega) (by omega)] at h
        rw [← h]
        congr 1
      have HA := hide hA
      have HB := hide hB
      clear hA hB
      go_wp2_with fail
      go_ret
      refine ⟨?_, rfl⟩
      rw [← HT.out, HA.out, HB.out]; rfl
set_option maxHeartbeats 8000000 in
set_option maxRecDepth 100000 in
theorem crcR_any (s : ByteArray) (w : World) (hs : s.size ≤ 4398046511104) : Calls Tryd.prog 23 #[.string s] w fun e w' => e = .returned (.int .u32 (((crcV s.data.toList).toNat : Nat) : Int)) ∧ w = w' := by
  go_enter Tryd.func23, Tryd.ntmps23
  go_wp2_with fail
  go_loop [3, 8] (fun nv iv => ∃ (k : Nat) (x : W32), k ≤ s.size ∧ nv = .int .u32 ((x.toNat : Nat) : Int) ∧ iv = .int .i64 (k : Int) ∧ Hid (crcL 0xFFFFFFFF#32 (s.data.toList.take k) = x)) (fun _ iv => s.size - (intOf iv).toNat)
  case atStart => exact ⟨0, 0xFFFFFFFF#32, by omega, rfl, rfl, hide rfl⟩
  case round =>
    obtain ⟨k, x, hk, rfl, rfl, HX⟩ := hrel
    by_cases hlt : k < s.size
    · have h1 : (k : Int) < (s.size : Int) := by omega
      have hn := crcL_snoc s[k] (s.data.toList.take k) 0xFFFFFFFF#32
      rw [← take_nextB hlt, HX.out] at hn
      obtain ⟨c, hc⟩ : ∃ c, s[k] = c := ⟨_, rfl⟩
      rw [hc] at hn
      have hlc := c.toNat_lt
      have w1 : IntKind.u32.wrap ((c.toNat : Nat) : Int) = ((c.toNat : Nat) : Int) := by rw [IntKind.wrap_u32']; omega
      have w2 : bits .xor .u32 ((x.toNat : Nat) : Int) ((c.toNat : Nat) : Int) = (((x ^^^ BitVec.ofNat 32 c.toNat).toNat : Nat) : Int) := by
        rw [wi_byte c]; exact wi_xor _ _
      obtain ⟨y, hy⟩ : ∃ y, x ^^^ BitVec.ofNat 32 c.toNat = y := ⟨_, rfl⟩
      rw [hy] at w2 hn
      have HN := hide hn
      clear hn hy
      go_wp2_with fail
      go_loop [3, 17] (fun nv jv => ∃ (j : Nat) (z : W32), j ≤ 8 ∧ nv = .int .u32 ((z.toNat : Nat) : Int) ∧ jv = .int .i64 (j : Int) ∧ Hid (crcR j y = z)) (fun _ jv => 8 - (intOf jv).toNat)
      case atStart => exact ⟨0, y, by omega, rfl, rfl, hide rfl⟩
      case round =>
        obtain ⟨j, z, hj, rfl, rfl, HZ⟩ := hrel
        by_cases hj8 : j < 8
        · have h2 : (j : Int) < 8 := by omega
          have hno := wi_one z
          have hsh := wi_shr z 1 2 rfl
          obtain ⟨z1, hz1⟩ : ∃ z1, z >>> 1 = z1 := ⟨_, rfl⟩
          rw [hz1] at hsh
          have HZN : Hid (crcR (j + 1) y = crcB z) := hide (by rw [crcR_next, HZ.out])
          cases hb : z.getLsbD 0 with
          | true =>
            rw [hb] at hno
            simp only [if_true] at hno
            have hxr : bits .xor .u32 ((z1.toNat : Nat) : Int) 3988292384 = (((crcB z).toNat : Nat) : Int) := by
              unfold crcB
              rw [hb, ← hz1]
              exact wi_xor (z >>> 1) 0xEDB88320#32
            obtain ⟨z2, hz2⟩ : ∃ z2, crcB z = z2 := ⟨_, rfl⟩
            rw [hz2] at hxr HZN
            clear hz1 hz2 hb
            go_wp2_with fail
            go_round
            case rel => exact ⟨j + 1, z2, by omega, rfl, by go_num, HZN⟩
            case measure => simp [intOf]; omega
          | false =>
            rw [hb] at hno
            simp only [Bool.false_eq_true, if_false] at hno
            have hcb : crcB z = z1 := by unfold crcB; rw [hb, hz1]; simp
            rw [hcb] at HZN
            clear hcb hz1 hb
            go_wp2_with fail
            go_round
            case rel => exact ⟨j + 1, z1, by omega, rfl, by go_num, HZN⟩
            case measure => simp [intOf]; omega
        · obtain rfl : j = 8 := by omega
          have hn2 : Hid (crcL 0xFFFFFFFF#32 (s.data.toList.take (k + 1)) = z) := hide (by rw [HN.out, HZ.out])
          go_wp2_with fail
          go_round
          case rel => exact ⟨k + 1, z, by omega, rfl, by go_num, hn2⟩
          case measure => simp [intOf]; omega
    · obtain rfl : k = s.size := by omega
      have hkk : ¬ (s.size : Int) < (s.size : Int) := by omega
      have HT : Hid (crcV s.data.toList = ~~~ x) := hide (by unfold crcV; rw [← HX.out, ← len_size, List.take_length])
      have hnt : bits .xor .u32 IntKind.u32.max ((x.toNat : Nat) : Int) = (((~~~x).toNat : Nat) : Int) := wi_not x
      obtain ⟨nx, hnx⟩ : ∃ nx, ~~~x = nx := ⟨_, rfl⟩
      rw [hnx] at hnt HT
      clear hnx
      go_wp2_with fail
      go_ret
      exact ⟨by rw [HT.out]; rfl, rfl⟩
theorem zero256 : Tryd.zeroCells67 = (wVs (List.replicate 256 0#32)).toArray := by
  first | kernel_rfl | rfl | decide
/-- the table, so far -/
def TabTo (l : List W32) (i : Nat) : Prop := l.length = 256 ∧ ∀ j, j < i → l[j]? = some (crcR 8 (BitVec.ofNat 32 j))
theorem TabTo.set {l : List W32} {i : Nat} (h : TabTo l i) (hi : i < 256) : TabTo (l.set i (crcR 8 (BitVec.ofNat 32 i))) (i + 1) := by
  refine ⟨by rw [List.length_set]; exact h.1, fun j hj => ?_⟩
  by_cases e : j = i
  · subst e
    rw [List.getElem?_set_self (by rw [h.1]; exact hi)]
  · rw [List.getElem?_set_ne (fun e' => e e'.symm)]
    exact h.2 j (by omega)
set_option maxHeartbeats 8000000 in
set_option maxRecDepth 100000 in
theorem crcD_any (s : ByteArray) (w : World) (hs : s.size ≤ 4398046511104) : Calls Tryd.prog 19 #[.string s] w fun e w' => e = .returned (.int .u32 (((crcV s.data.toList).toNat : Nat) : Int)) ∧ Below w.heap.size w w' := by
  have HR0 : Hid (RowW (w.alloc (.cells Tryd.zeroCells67 67)) w.heap.size 67 (List.replicate 256 0#32)) := hide (by
    rw [zero256]; exact heap_alloc_new _ _)
  have HB0 := hide ((Below.refl w.heap.size w).alloc (Nat.le_refl _) (.cells Tryd.zeroCells67 67))
  go_enter Tryd.func19, Tryd.ntmps19
  go_wp2_with fail
  go_loopw [9] (fun iv wr => ∃ (i : Nat) (l : List W32), i ≤ 256 ∧ iv = .int .i64 (i : Int) ∧ Hid (TabTo l i) ∧ Hid (RowW wr w.heap.size 67 l) ∧ Hid (Below w.heap.size w wr)) (fun iv _ => 256 - (intOf iv).toNat)
  case atStart => exact ⟨0, _, by omega, rfl, hide ⟨by simp, fun j hj => by omega⟩, HR0, HB0⟩
  case round =>
    clear HR0 HB0
    obtain ⟨i, l, hi, rfl, HT, HR, HB⟩ := hrel
    by_cases hi2 : i < 256
    · have h1 : (i : Int) < 256 := by omega
      have w1 : IntKind.u32.wrap (i : Int) = (((BitVec.ofNat 32 i).toNat : Nat) : Int) := by
        rw [← wi_lit i (by omega), IntKind.wrap_u32']; omega
      obtain ⟨y, hy⟩ : ∃ y, BitVec.ofNat 32 i = y := ⟨_, rfl⟩
      rw [hy] at w1
      have HY := hide hy
      clear hy
      go_wp2_with fail
      go_loop [5, 14] (fun nv jv => ∃ (j : Nat) (z : W32), j ≤ 8 ∧ nv = .int .u32 ((z.toNat : Nat) : Int) ∧ jv = .int .i64 (j : Int) ∧ Hid (crcR j y = z)) (fun _ jv => 8 - (intOf jv).toNat)
      case atStart => exact ⟨0, y, by omega, rfl, rfl, hide rfl⟩
      case round =>
        obtain ⟨j, z, hj, rfl, rfl, HZ⟩ := hrel
        by_cases hj8 : j < 8
        · have h2 : (j : Int) < 8 := by omega
          have hno := wi_one z
          have hsh := wi_shr z 1 2 rfl
          obtain ⟨z1, hz1⟩ : ∃ z1, z >>> 1 = z1 := ⟨_, rfl⟩
          rw [hz1] at hsh
          have HZN : Hid (crcR (j + 1) y = crcB z) := hide (by rw [crcR_next, HZ.out])
          cases hb : z.getLsbD 0 with
          | true =>
            rw [hb] at hno
            simp only [if_true] at hno
            have hxr : bits .xor .u32 ((z1.toNat : Nat) : Int) 3988292384 = (((crcB z).toNat : Nat) : Int) := by
              unfold crcB
              rw [hb, ← hz1]
              exact wi_xor (z >>> 1) 0xEDB88320#32
            obtain ⟨z2, hz2⟩ : ∃ z2, crcB z = z2 := ⟨_, rfl⟩
            rw [hz2] at hxr HZN
            clear hz1 hz2 hb
            go_wp2_with fail
            go_round
            case rel => exact ⟨j + 1, z2, by omega, rfl, by go_num, HZN⟩
            case measure => simp [intOf]; omega
          | false =>
            rw [hb] at hno
            simp only [Bool.false_eq_true, if_false] at hno
            have hcb : crcB z = z1 := by unfold crcB; rw [hb, hz1]; simp
            rw [hcb] at HZN
            clear hcb hz1 hb
            go_wp2_with fail
            go_round
            case rel => exact ⟨j + 1, z1, by omega, rfl, by go_num, HZN⟩
            case measure => simp [intOf]; omega
        · obtain rfl : j = 8 := by omega
          have HZ2 : Hid (crcR 8 (BitVec.ofNat 32 i) = z) := hide (by rw [HY.out]; exact HZ.out)
          have HT2 := hide (HT.out.set hi2)
          rw [HZ2.out] at HT2
          obtain ⟨o0, f0⟩ := HR.out.cells (show l[i]? = some (l[i]'(by rw [HT.out.1]; exact hi2)) from List.getElem?_eq_getElem _)
          have HR2 := hide (HR.out.set i z)
          have HB2 := hide (HB.out.setCell (p := ⟨w.heap.size, i, none⟩) (Nat.le_refl _) (.int .u32 ((z.toNat : Nat) : Int)))
          go_wp2_with fail
          go_roundw
          case rel => exact ⟨i + 1, l.set i z, by omega, by go_num, HT2, HR2, HB2⟩
          case measure => simp [intOf]; omega
    · obtain rfl : i = 256 := by omega
      go_wp2_with fail
      go_loop [7, 31] (fun nv iv => ∃ (k : Nat) (x : W32), k ≤ s.size ∧ nv = .int .u32 ((x.toNat : Nat) : Int) ∧ iv = .int .i64 (k : Int) ∧ Hid (crcL 0xFFFFFFFF#32 (s.data.toList.take k) = x)) (fun _ iv => s.size - (intOf iv).toNat)
      case atStart => exact ⟨0, 0xFFFFFFFF#32, by omega, rfl, rfl, hide rfl⟩
      case round =>
        obtain ⟨k, x, hk, rfl, rfl, HX⟩ := hrel
        by_cases hlt : k < s.size
        · have h1 : (k : Int) < (s.size : Int) := by omega
          have hn := crcL_snoc s[k] (s.data.toList.take k) 0xFFFFFFFF#32
          rw [← take_nextB hlt, HX.out] at hn
          obtain ⟨c, hc⟩ : ∃ c, s[k] = c := ⟨_, rfl⟩
          rw [hc] at hn
          have hlc := c.toNat_lt
          have hlx := wi_lt x
          rw [crc_table x (BitVec.ofNat 32 c.toNat) (byte_high c)] at hn
          obtain ⟨hlb, hJ⟩ := low_byte x c
          have w1 : IntKind.u8.wrap ((x.toNat : Nat) : Int) = ((x.toNat % 256 : Nat) : Int) := by rw [IntKind.wrap_u8']; omega
          obtain ⟨m, hm⟩ : ∃ m, x.toNat % 256 = m := ⟨_, rfl⟩
          obtain ⟨J, hJe⟩ : ∃ J, ((x ^^^ BitVec.ofNat 32 c.toNat) &&& 0xFF#32).toNat = J := ⟨_, rfl⟩
          have hJb : (x ^^^ BitVec.ofNat 32 c.toNat) &&& 0xFF#32 = BitVec.ofNat 32 J := by
            rw [← hJe]; simp
          rw [hJb] at hn
          rw [hm] at w1 hlb
          rw [hJe] at hlb hJ
          obtain ⟨cT, fT⟩ := HR.out.cells (HT.out.2 J hJ)
          obtain ⟨t, ht⟩ : ∃ t, crcR 8 (BitVec.ofNat 32 J) = t := ⟨_, rfl⟩
          rw [ht] at cT hn
          have hsh := wi_shr x 8 256 rfl
          obtain ⟨x8, hx8⟩ : ∃ x8, x >>> 8 = x8 := ⟨_, rfl⟩
          rw [hx8] at hsh hn
          have hxr := wi_xor t x8
          obtain ⟨u, hu⟩ : ∃ u, t ^^^ x8 = u := ⟨_, rfl⟩
          rw [hu] at hxr hn
          have HN := hide hn
          have j0 : (0 : Int) ≤ (J : Int) := by omega
          have j1 : (J : Int) < 256 := by omega
          clear hn hm hJe hJb ht hx8 hu
          go_wp2_with fail
          go_round
          case rel => exact ⟨k + 1, u, by omega, rfl, by go_num, HN⟩
          case measure => simp [intOf]; omega
        · obtain rfl : k = s.size := by omega
          have hkk : ¬ (s.size : Int) < (s.size : Int) := by omega
          have HTV : Hid (crcV s.data.toList = ~~~ x) := hide (by unfold crcV; rw [← HX.out, ← len_size, List.take_length])
          have hnt : bits .xor .u32 IntKind.u32.max ((x.toNat : Nat) : Int) = (((~~~x).toNat : Nat) : Int) := wi_not x
          obtain ⟨nx, hnx⟩ : ∃ nx, ~~~x = nx := ⟨_, rfl⟩
          rw [hnx] at hnt HTV
          clear hnx
          go_wp2_with fail
          go_ret
          exact ⟨by rw [HTV.out]; rfl, HB.out⟩
end Go.Proofs.YtinpgnekjebipaaDoor
