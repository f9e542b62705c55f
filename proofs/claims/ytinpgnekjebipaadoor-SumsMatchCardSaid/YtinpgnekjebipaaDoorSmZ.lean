/- SumsMatch: delta.Sum, the reference's SumText, the law's walk (printed by gen_smz.py). -/
import Derived.Test.YtinpgnekjebipaaDoorSmY
import Derived.Test.YtinpgnekjebipaaDoorLawK0
import Derived.Test.YtinpgnekjebipaaDoorDiffers
set_option linter.unusedVariables false
set_option linter.unusedSimpArgs false
namespace Go.Pw
/-- the sums -/
def sumL (k : Nat) (l : List UInt8) : List UInt8 :=
  match k with
  | 0 => hexN 8 (addL l)
  | 1 => hexN 8 ((adl l).2 * 65536 + (adl l).1)
  | 2 => hexN 8 (crcV l).toNat
  | _ => sha8 l
theorem adl_bound (l : List UInt8) : (adl l).2 * 65536 + (adl l).1 < 4294967296 := by
  obtain ⟨h1, h2⟩ := adl_lt l
  generalize (adl l).1 = a at *
  generalize (adl l).2 = b at *
  omega
end Go.Pw
namespace Go.Proofs.YtinpgnekjebipaaDoor
open Go.RowKit Go.Pw
theorem withinD_b (n lo hi : Int) (w : World) : Calls Tryd.prog 15 #[.int .i64 n, .int .i64 lo, .int .i64 hi] w fun e w' => e = .returned (.bool (decide (lo ≤ n) && decide (n ≤ hi))) ∧ w = w' := by
  by_cases h : lo ≤ n
  · have h1 : decide (lo ≤ n) = true := by simpa using h
    go_enter Tryd.func15, Tryd.ntmps15
    go_wp2
    go_ret
    exact ⟨by simp [h], rfl⟩
  · have h1 : decide (lo ≤ n) = false := by simpa using h
    go_enter Tryd.func15, Tryd.ntmps15
    go_wp2
    go_ret
    exact ⟨by simp [h], rfl⟩
theorem Sum_kind (kind : Int) (s : ByteArray) (w : World) (hk : ¬ (0 ≤ kind ∧ kind ≤ 3)) : Calls Tryd.prog 5 #[.int .i64 kind, .string s] w fun e w' => e = .returned (.tuple #[.string ⟨#[]⟩, .int .i64 4]) ∧ Below w.heap.size w w' := by
  have hd : (decide ((0 : Int) ≤ kind) && decide (kind ≤ 3)) = false := by
    by_cases h : (0 : Int) ≤ kind
    · have h2 : ¬ kind ≤ 3 := fun h2 => hk ⟨h, h2⟩
      simp [h, h2]
    · simp [h]
  have HD := hide hd
  clear hd
  go_enter Tryd.func5, Tryd.ntmps5
  go_wp2_with fail
  refine (withinD_b _ _ _ _).mono ?_
  rintro e w1 ⟨rfl, rfl⟩
  rw [HD.out]
  go_wp2_with fail
  go_ret2
  exact ⟨rfl, Below.refl _ _⟩
theorem Sum_large (kind : Int) (s : ByteArray) (w : World) (hk : 0 ≤ kind ∧ kind ≤ 3) (hs : 262144 < s.size) : Calls Tryd.prog 5 #[.int .i64 kind, .string s] w fun e w' => e = .returned (.tuple #[.string ⟨#[]⟩, .int .i64 2]) ∧ Below w.heap.size w w' := by
  have hd : (decide ((0 : Int) ≤ kind) && decide (kind ≤ 3)) = true := by simp [hk.1, hk.2]
  have HD := hide hd
  have hs' : (262144 : Int) < (s.size : Int) := by omega
  clear hd
  go_enter Tryd.func5, Tryd.ntmps5
  go_wp2_with fail
  refine (withinD_b _ _ _ _).mono ?_
  rintro e w1 ⟨rfl, rfl⟩
  rw [HD.out]
  go_wp2_with fail
  go_ret2
  exact ⟨rfl, Below.refl _ _⟩
set_option maxHeartbeats 1000000 in
theorem Sum_0 (s : ByteArray) (w : World) (hs : s.size ≤ 262144) (hT : TzT w) : Calls Tryd.prog 5 #[.int .i64 0, .string s] w fun e w' => e = .returned (.tuple #[.string (mkB (sumL 0 s.data.toList)), .int .i64 0]) ∧ Below w.heap.size w w' := by
  have HD : Hid ((decide ((0 : Int) ≤ 0) && decide ((0 : Int) ≤ 3)) = true) := hide (by decide)
  have hs' : ¬ (262144 : Int) < (s.size : Int) := by omega
  have HT := hide hT
  clear hT
  go_enter Tryd.func5, Tryd.ntmps5
  go_wp2_with fail
  refine (withinD_b _ _ _ _).mono ?_
  rintro e w1 ⟨rfl, rfl⟩
  rw [HD.out]
  go_wp2_with fail
  refine (plain_any s _ (by omega)).mono ?_
  rintro e w2 ⟨rfl, rfl⟩
  go_wp2_with fail
  refine (crcText_any _ _ (addL_lt _) HT.out).mono ?_
  rintro e w3 ⟨rfl, hb⟩
  go_wp2_with fail
  go_ret2
  exact ⟨rfl, hb⟩
set_option maxHeartbeats 1000000 in
theorem Sum_1 (s : ByteArray) (w : World) (hs : s.size ≤ 262144) (hT : TzT w) : Calls Tryd.prog 5 #[.int .i64 1, .string s] w fun e w' => e = .returned (.tuple #[.string (mkB (sumL 1 s.data.toList)), .int .i64 0]) ∧ Below w.heap.size w w' := by
  have HD : Hid ((decide ((0 : Int) ≤ 1) && decide ((1 : Int) ≤ 3)) = true) := hide (by decide)
  have hs' : ¬ (262144 : Int) < (s.size : Int) := by omega
  have HT := hide hT
  clear hT
  go_enter Tryd.func5, Tryd.ntmps5
  go_wp2_with fail
  refine (withinD_b _ _ _ _).mono ?_
  rintro e w1 ⟨rfl, rfl⟩
  rw [HD.out]
  go_wp2_with fail
  refine (adler_any s _ (by omega)).mono ?_
  rintro e w2 ⟨rfl, rfl⟩
  go_wp2_with fail
  refine (crcText_any _ _ (adl_bound _) HT.out).mono ?_
  rintro e w3 ⟨rfl, hb⟩
  go_wp2_with fail
  go_ret2
  exact ⟨rfl, hb⟩
set_option maxHeartbeats 1000000 in
theorem Sum_2 (s : ByteArray) (w : World) (hs : s.size ≤ 262144) (hT : TzT w) : Calls Tryd.prog 5 #[.int .i64 2, .string s] w fun e w' => e = .returned (.tuple #[.string (mkB (sumL 2 s.data.toList)), .int .i64 0]) ∧ Below w.heap.size w w' := by
  have HD : Hid ((decide ((0 : Int) ≤ 2) && decide ((2 : Int) ≤ 3)) = true) := hide (by decide)
  have hs' : ¬ (262144 : Int) < (s.size : Int) := by omega
  have HT := hide hT
  clear hT
  go_enter Tryd.func5, Tryd.ntmps5
  go_wp2_with fail
  refine (withinD_b _ _ _ _).mono ?_
  rintro e w1 ⟨rfl, rfl⟩
  rw [HD.out]
  go_wp2_with fail
  refine (crcD_any s _ (by omega)).mono ?_
  rintro e w2 ⟨rfl, hb1⟩
  go_wp2_with fail
  refine (crcText_any _ _ (wi_lt _) (HT.out.below hb1)).mono ?_
  rintro e w3 ⟨rfl, hb⟩
  go_wp2_with fail
  go_ret2
  exact ⟨rfl, hb1.trans (hb.mono hb1.size)⟩
set_option maxHeartbeats 1000000 in
theorem Sum_3 (s : ByteArray) (w : World) (hs : s.size ≤ 262144) (hT : TzT w) : Calls Tryd.prog 5 #[.int .i64 3, .string s] w fun e w' => e = .returned (.tuple #[.string (mkB (sumL 3 s.data.toList)), .int .i64 0]) ∧ Below w.heap.size w w' := by
  have HD : Hid ((decide ((0 : Int) ≤ 3) && decide ((3 : Int) ≤ 3)) = true) := hide (by decide)
  have hs' : ¬ (262144 : Int) < (s.size : Int) := by omega
  have HT := hide hT
  clear hT
  go_enter Tryd.func5, Tryd.ntmps5
  go_wp2_with fail
  refine (withinD_b _ _ _ _).mono ?_
  rintro e w1 ⟨rfl, rfl⟩
  rw [HD.out]
  go_wp2_with fail
  refine (digest_any s _ hs HT.out).mono ?_
  rintro e w2 ⟨rfl, hb⟩
  go_wp2_with fail
  go_ret2
  exact ⟨rfl, hb⟩
set_option maxHeartbeats 4000000 in
theorem SumText_0 (s : ByteArray) (w : World) (hs : s.size ≤ 262144) : Calls Tryd.prog 11 #[.int .i64 0, .string s] w fun e w' => e = .returned (.string (mkB (sumL 0 s.data.toList))) ∧ Below w.heap.size w w' := by
  go_enter Tryd.func11, Tryd.ntmps11
  go_wp2_with fail
  go_loop [5, 15] (fun nv iv => ∃ k : Nat, k ≤ s.size ∧ nv = .int .u32 ((addL (s.data.toList.take k) : Nat) : Int) ∧ iv = .int .i64 (k : Int)) (fun _ iv => s.size - (intOf iv).toNat)
  case atStart => exact ⟨0, by omega, rfl, rfl⟩
  case round =>
    obtain ⟨k, hk, rfl, rfl⟩ := hrel
    by_cases hlt : k < s.size
    · have h1 : (k : Int) < (s.size : Int) := by omega
      have hn := addL_snoc (s.data.toList.take k) s[k]
      rw [← take_nextB hlt] at hn
      obtain ⟨A, hA⟩ : ∃ A, addL (s.data.toList.take k) = A := ⟨_, rfl⟩
      obtain ⟨x, hx⟩ : ∃ x, s[k] = x := ⟨_, rfl⟩
      rw [hA, hx] at hn
      rw [hA]
      have hlx := x.toNat_lt
      have hlA : A < 4294967296 := by rw [← hA]; exact addL_lt _
      have w1 : IntKind.u32.wrap ((x.toNat : Nat) : Int) = ((x.toNat : Nat) : Int) := by rw [IntKind.wrap_u32']; omega
      have w2 : IntKind.u32.wrap ((A : Int) + ((x.toNat : Nat) : Int)) = (((A + x.toNat) % 4294967296 : Nat) : Int) := by rw [IntKind.wrap_u32']; omega
      rw [← hn] at w2
      have HN := hide hn
      clear hn hA
      go_wp2_with fail
      go_round
      case rel => exact ⟨k + 1, by omega, rfl, by go_num⟩
      case measure => simp [intOf]; omega
    · have hkk : ¬ (k : Int) < (s.size : Int) := by omega
      have HTk : Hid (s.data.toList.take k = s.data.toList) := hide (by rw [show k = s.size by omega, ← len_size, List.take_length])
      rw [HTk.out]
      have HX := hide (hexR_any (addL s.data.toList) 8 w (addL_lt _) (by omega))
      obtain ⟨k1, hk1⟩ : ∃ z : Int, (k : Int) = z := ⟨_, rfl⟩
      rw [hk1] at hkk ⊢
      clear hk1
      go_wp2_with fail
      refine HX.out.mono ?_
      rintro e w1 ⟨rfl, rfl⟩
      go_wp2_with fail
      go_ret
      exact ⟨rfl, Below.refl _ _⟩
set_option maxHeartbeats 4000000 in
theorem SumText_1 (s : ByteArray) (w : World) (hs : s.size ≤ 262144) : Calls Tryd.prog 11 #[.int .i64 1, .string s] w fun e w' => e = .returned (.string (mkB (sumL 1 s.data.toList))) ∧ Below w.heap.size w w' := by
  go_enter Tryd.func11, Tryd.ntmps11
  go_wp2_with fail
  go_loop [7, 8, 31] (fun av bv iv => ∃ k : Nat, k ≤ s.size ∧ av = .int .u32 (((adl (s.data.toList.take k)).1 : Nat) : Int) ∧ bv = .int .u32 (((adl (s.data.toList.take k)).2 : Nat) : Int) ∧ iv = .int .i64 (k : Int)) (fun _ _ iv => s.size - (intOf iv).toNat)
  case atStart => exact ⟨0, by omega, rfl, rfl, rfl⟩
  case round =>
    obtain ⟨k, hk, rfl, rfl, rfl⟩ := hrel
    by_cases hlt : k < s.size
    · have h1 : (k : Int) < (s.size : Int) := by omega
      have hn := adl_snoc (s.data.toList.take k) s[k]
      rw [← take_nextB hlt] at hn
      obtain ⟨hl1, hl2⟩ := adl_lt (s.data.toList.take k)
      obtain ⟨P, hP⟩ : ∃ P, adl (s.data.toList.take k) = P := ⟨_, rfl⟩
      obtain ⟨x, hx⟩ : ∃ x, s[k] = x := ⟨_, rfl⟩
      rw [hP] at hn hl1 hl2
      rw [hx] at hn
      rw [hP]
      obtain ⟨A, B⟩ := P
      simp only at hn hl1 hl2 ⊢
      have hlx := x.toNat_lt
      obtain ⟨A2, hA2⟩ : ∃ A2, (A + x.toNat) % 65521 = A2 := ⟨_, rfl⟩
      have hA2l : A2 < 65521 := by rw [← hA2]; exact Nat.mod_lt _ (by omega)
      have w1 : IntKind.u32.wrap ((x.toNat : Nat) : Int) = ((x.toNat : Nat) : Int) := by rw [IntKind.wrap_u32']; omega
      have w2 : IntKind.u32.wrap ((A : Int) + ((x.toNat : Nat) : Int)) = ((A + x.toNat : Nat) : Int) := by rw [IntKind.wrap_u32']; omega
      have w3 : ((A + x.toNat : Nat) : Int) % 65521 = (A2 : Int) := by omega
      have w3' : ((A : Int) + ((x.toNat : Nat) : Int)) % 65521 = (A2 : Int) := by omega
      have w4 : IntKind.u32.wrap ((B : Int) + (A2 : Int)) = (B : Int) + (A2 : Int) := by rw [IntKind.wrap_u32']; omega
      rw [hA2] at hn
      have HN := hide hn
      have HW3 := hide w3'
      clear hn hP hA2
      go_wp2_with fail
      go_round
      case rel => exact ⟨k + 1, by omega, by rw [HN.out]; exact congrArg (Value.int IntKind.u32) HW3.out, by rw [HN.out]; rfl, by go_num⟩
      case measure => simp [intOf]; omega
    · have hkk : ¬ (k : Int) < (s.size : Int) := by omega
      have HTk : Hid (s.data.toList.take k = s.data.toList) := hide (by rw [show k = s.size by omega, ← len_size, List.take_length])
      rw [HTk.out]
      obtain ⟨hl1, hl2⟩ := adl_lt s.data.toList
      have hX1 := hexR_any (adl s.data.toList).2 4 w (by omega) (by omega)
      have hX2 := hexR_any (adl s.data.toList).1 4 w (by omega) (by omega)
      have hF : mkB (sumL 1 s.data.toList) = mkB (hexN 4 (adl s.data.toList).2) ++ mkB (hexN 4 (adl s.data.toList).1) := by
        rw [mkB_app', ← adl_hex]; rfl
      have hcat : ¬ (9223372036854775807 < (mkB (hexN 4 (adl s.data.toList).2)).size + (mkB (hexN 4 (adl s.data.toList).1)).size) := by
        rw [mkB_size, mkB_size, hexN_len, hexN_len]; omega
      obtain ⟨q1, hq1⟩ : ∃ q, mkB (hexN 4 (adl s.data.toList).2) = q := ⟨_, rfl⟩
      obtain ⟨q2, hq2⟩ : ∃ q, mkB (hexN 4 (adl s.data.toList).1) = q := ⟨_, rfl⟩
      rw [hq1] at hX1 hF hcat
      rw [hq2] at hX2 hF hcat
      have HX1 := hide hX1
      have HX2 := hide hX2
      have HF := hide hF
      obtain ⟨k1, hk1⟩ : ∃ z : Int, (k : Int) = z := ⟨_, rfl⟩
      rw [hk1] at hkk ⊢
      clear hk1 hX1 hX2 hF hq1 hq2
      go_wp2_with fail
      refine HX1.out.mono ?_
      rintro e w1 ⟨rfl, rfl⟩
      go_wp2_with fail
      refine HX2.out.mono ?_
      rintro e w1 ⟨rfl, rfl⟩
      go_wp2_with fail
      go_ret
      exact ⟨by rw [HF.out]; rfl, Below.refl _ _⟩
set_option maxHeartbeats 1000000 in
theorem SumText_2 (s : ByteArray) (w : World) (hs : s.size ≤ 262144) : Calls Tryd.prog 11 #[.int .i64 2, .string s] w fun e w' => e = .returned (.string (mkB (sumL 2 s.data.toList))) ∧ Below w.heap.size w w' := by
  go_enter Tryd.func11, Tryd.ntmps11
  go_wp2_with fail
  refine (crcR_any s _ (by omega)).mono ?_
  rintro e w1 ⟨rfl, rfl⟩
  go_wp2_with fail
  refine (hexR_any _ 8 _ (wi_lt _) (by omega)).mono ?_
  rintro e w1 ⟨rfl, rfl⟩
  go_wp2_with fail
  go_ret
  exact ⟨rfl, Below.refl _ _⟩
set_option maxHeartbeats 1000000 in
theorem SumText_3 (s : ByteArray) (w : World) (hs : s.size ≤ 262144) : Calls Tryd.prog 11 #[.int .i64 3, .string s] w fun e w' => e = .returned (.string (mkB (sumL 3 s.data.toList))) ∧ Below w.heap.size w w' := by
  go_enter Tryd.func11, Tryd.ntmps11
  go_wp2_with fail
  refine (sha_any s _ hs).mono ?_
  rintro e w1 ⟨rfl, hb⟩
  go_wp2_with fail
  go_ret
  exact ⟨rfl, hb⟩
theorem rd_two (w : World) (a b : Int) (t : TypeId) : Rd (w.alloc (.cells #[.int .i64 a, .int .i64 b] t)) 1 (.slice (some ⟨w.heap.size, 0, none⟩) 2 2) [a, b].length ([a, b].map (Value.int .i64)) := by
  refine ⟨rfl, _, 2, rfl, Nat.le_refl _, by unfold maxLen; omega, fun _ => ⟨w.heap.size, 0, rfl, by simp, fun j u hu => ?_⟩⟩
  rw [World.cell?_alloc_new]
  simpa using hu
set_option maxHeartbeats 1000000 in
set_option maxRecDepth 100000 in
theorem sumsMatch_bad (kind : Int) (s : ByteArray) (w : World) (E : Int) (D G : Bool) (hD : (decide ((0 : Int) ≤ kind) && decide (kind ≤ 3)) = D) (hG : decide ((262144 : Int) < (s.size : Int)) = G) (hE : firstNZ [if (!D) = true then 4 else 0, if G = true then 2 else 0] = E) (hn : E ≠ 0)
    (hc : Calls Tryd.prog 5 #[.int .i64 kind, .string s] w fun e w' => e = .returned (.tuple #[.string ⟨#[]⟩, .int .i64 E]) ∧ Below w.heap.size w w') :
    Calls Tryd.prog 3 #[.int .i64 kind, .string s] w fun e w' => e = .returned (.bool true) ∧ Below w.heap.size w w' := by
  have HC := hide hc
  have HD := hide hD
  have HG := hide hG
  obtain ⟨E1, hE1⟩ : ∃ E1 : Int, (if (!D) = true then 4 else 0) = E1 := ⟨_, rfl⟩
  obtain ⟨E2, hE2⟩ : ∃ E2 : Int, (if G = true then 2 else 0) = E2 := ⟨_, rfl⟩
  rw [hE1, hE2] at hE
  have HE1 := hide hE1
  have HE2 := hide hE2
  have HW := hide hE
  have hn' : (E != 0) = true := by simpa using hn
  have HOB := hide (fun W => outcome_bad ⟨#[]⟩ E W hn)
  clear hE1 hE2 hE hn hc hD hG
  go_enter Tryd.func3, Tryd.ntmps3
  go_wp2_with fail
  refine HC.out.mono ?_
  rintro e w1 ⟨rfl, hb1⟩
  go_wp2_with fail
  refine (withinL_any _ _ _ _).mono ?_
  rintro e w2 ⟨rfl, rfl⟩
  rw [HD.out]
  go_wp2_with fail
  refine (when_any _ _ _).mono ?_
  rintro e w2 ⟨rfl, rfl⟩
  rw [HE1.out]
  go_wp2_with fail
  refine (when_any _ _ _).mono ?_
  rintro e w2 ⟨rfl, rfl⟩
  try rw [HG.out]
  rw [HE2.out]
  have hb2 := hb1.alloc hb1.size (.cells #[.int .i64 E1, .int .i64 E2] 22)
  go_wp2_with fail
  refine (first_any _ [E1, E2] _ (rd_two w1 E1 E2 _)).mono ?_
  rintro e w4 ⟨rfl, rfl⟩
  rw [HW.out]
  go_wp2_with fail
  refine (differs_any _).mono ?_
  rintro e w5 ⟨rfl, hb5⟩
  have hb5' := hb2.trans (hb5.mono hb2.size)
  go_wp2_with fail
  refine (HOB.out _).mono ?_
  rintro e w6 ⟨rfl, rfl⟩
  go_wp2_with fail
  go_ret
  exact ⟨rfl, hb5'⟩
set_option maxHeartbeats 1000000 in
set_option maxRecDepth 100000 in
theorem sumsMatch_good (kind : Int) (s : ByteArray) (w : World) (S : ByteArray) (hk : 0 ≤ kind ∧ kind ≤ 3) (hs : s.size ≤ 262144)
    (hc : Calls Tryd.prog 5 #[.int .i64 kind, .string s] w fun e w' => e = .returned (.tuple #[.string S, .int .i64 0]) ∧ Below w.heap.size w w')
    (hr : ∀ W, Calls Tryd.prog 11 #[.int .i64 kind, .string s] W fun e w' => e = .returned (.string S) ∧ Below W.heap.size W w') :
    Calls Tryd.prog 3 #[.int .i64 kind, .string s] w fun e w' => e = .returned (.bool true) ∧ Below w.heap.size w w' := by
  have HC := hide hc
  have HR := hide hr
  have HD : Hid ((decide ((0 : Int) ≤ kind) && decide (kind ≤ 3)) = true) := hide (by simp [hk.1, hk.2])
  have hs' : ¬ (262144 : Int) < (s.size : Int) := by omega
  have hs'' : decide ((262144 : Int) < (s.size : Int)) = false := by simpa using hs'
  clear hc hr
  by_cases h3 : 3000 < s.size
  · have h3' : (3000 : Int) < (s.size : Int) := by omega
    go_enter Tryd.func3, Tryd.ntmps3
    go_wp2_with fail
    refine HC.out.mono ?_
    rintro e w1 ⟨rfl, hb1⟩
    go_wp2_with fail
    refine (withinL_any _ _ _ _).mono ?_
    rintro e w2 ⟨rfl, rfl⟩
    rw [HD.out]
    go_wp2_with fail
    refine (when_any _ _ _).mono ?_
    rintro e w2 ⟨rfl, rfl⟩
    go_wp2_with fail
    refine (when_any _ _ _).mono ?_
    rintro e w2 ⟨rfl, rfl⟩
    have hb2 := hb1.alloc hb1.size (.cells #[.int .i64 0, .int .i64 0] 22)
    go_wp2_with fail
    refine (first_any _ [0, 0] _ (rd_two w1 0 0 _)).mono ?_
    rintro e w4 ⟨rfl, rfl⟩
    rw [show firstNZ [0, 0] = 0 from rfl]
    go_wp2_with fail
    refine (differs_any _).mono ?_
    rintro e w5 ⟨rfl, hb5⟩
    have hb5' := hb2.trans (hb5.mono hb2.size)
    go_wp2_with fail
    go_ret
    exact ⟨rfl, hb5'⟩
  · have h3' : ¬ (3000 : Int) < (s.size : Int) := by omega
    have h3'' : decide ((3000 : Int) < (s.size : Int)) = false := by simpa using h3'
    go_enter Tryd.func3, Tryd.ntmps3
    go_wp2_with fail
    refine HC.out.mono ?_
    rintro e w1 ⟨rfl, hb1⟩
    go_wp2_with fail
    refine (withinL_any _ _ _ _).mono ?_
    rintro e w2 ⟨rfl, rfl⟩
    rw [HD.out]
    go_wp2_with fail
    refine (when_any _ _ _).mono ?_
    rintro e w2 ⟨rfl, rfl⟩
    go_wp2_with fail
    refine (when_any _ _ _).mono ?_
    rintro e w2 ⟨rfl, rfl⟩
    have hb2 := hb1.alloc hb1.size (.cells #[.int .i64 0, .int .i64 0] 22)
    go_wp2_with fail
    refine (first_any _ [0, 0] _ (rd_two w1 0 0 _)).mono ?_
    rintro e w4 ⟨rfl, rfl⟩
    rw [show firstNZ [0, 0] = 0 from rfl]
    go_wp2_with fail
    refine (differs_any _).mono ?_
    rintro e w5 ⟨rfl, hb5⟩
    have hb5' := hb2.trans (hb5.mono hb2.size)
    go_wp2_with fail
    refine (HR.out _).mono ?_
    rintro e w6 ⟨rfl, hb6⟩
    have hb6' := hb5'.trans (hb6.mono hb5'.size)
    go_wp2_with fail
    refine (outcome_good S _).mono ?_
    rintro e w7 ⟨rfl, rfl⟩
    go_wp2_with fail
    go_ret
    exact ⟨rfl, hb6'⟩
theorem sumsMatch_any (kind : Int) (s : ByteArray) (w : World) (hT : TzT w) :
    Calls Tryd.prog 3 #[.int .i64 kind, .string s] w fun e w' => e = .returned (.bool true) ∧ Below w.heap.size w w' := by
  by_cases hk : 0 ≤ kind ∧ kind ≤ 3
  · by_cases hs : 262144 < s.size
    · have hs' : (262144 : Int) < (s.size : Int) := by omega
      exact sumsMatch_bad kind s w 2 true true (by simp [hk.1, hk.2]) (by simpa using hs') rfl (by decide) (Sum_large kind s w hk hs)
    · have hs2 : s.size ≤ 262144 := by omega
      rcases (show kind = 0 ∨ kind = 1 ∨ kind = 2 ∨ kind = 3 by omega) with rfl | rfl | rfl | rfl
      · exact sumsMatch_good 0 s w _ hk hs2 (Sum_0 s w hs2 hT) (fun W => SumText_0 s W hs2)
      · exact sumsMatch_good 1 s w _ hk hs2 (Sum_1 s w hs2 hT) (fun W => SumText_1 s W hs2)
      · exact sumsMatch_good 2 s w _ hk hs2 (Sum_2 s w hs2 hT) (fun W => SumText_2 s W hs2)
      · exact sumsMatch_good 3 s w _ hk hs2 (Sum_3 s w hs2 hT) (fun W => SumText_3 s W hs2)
  · have hd : (decide ((0 : Int) ≤ kind) && decide (kind ≤ 3)) = false := by
      by_cases h : (0 : Int) ≤ kind
      · have h2 : ¬ kind ≤ 3 := fun h2 => hk ⟨h, h2⟩
        simp [h, h2]
      · simp [h]
    exact sumsMatch_bad kind s w 4 false (decide ((262144 : Int) < (s.size : Int))) hd rfl (by simp [firstNZ]) (by decide) (Sum_kind kind s w hk)
end Go.Proofs.YtinpgnekjebipaaDoor
