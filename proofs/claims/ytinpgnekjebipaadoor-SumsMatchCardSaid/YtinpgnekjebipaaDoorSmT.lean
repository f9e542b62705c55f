/- Words turned: delta.turned and the reference's turn (printed by gen_smt.py). -/
import Derived.Test.YtinpgnekjebipaaDoorSmU
import Derived.Test.YtinpgnekjebipaaDoorMem
import Derived.Test.YtinpgnekjebipaaDoorProg
import Derived.WalkKit
import Derived.ProofKit
set_option linter.unusedVariables false
set_option linter.unusedSimpArgs false
namespace Go.Proofs.YtinpgnekjebipaaDoor
open Go.RowKit Go.Pw
set_option maxHeartbeats 4000000 in
theorem rotL_7 (x : W32) (w : World) : Calls Tryd.prog 74 #[.int .u32 ((x.toNat : Nat) : Int), .int .i64 (-7)] w fun e w' => e = .returned (.int .u32 (((rotr x 7).toNat : Nat) : Int)) ∧ w = w' := by
  have ha : bits .and .u64 (IntKind.u64.wrap (-7)) 31 = 25 := by decide
  have h1 := wi_shl x 25 33554432 rfl
  have h2 := wi_shr x 7 128 rfl
  obtain ⟨a, hA⟩ : ∃ a, x <<< 25 = a := ⟨_, rfl⟩
  obtain ⟨b, hB⟩ : ∃ b, x >>> 7 = b := ⟨_, rfl⟩
  rw [hA] at h1
  rw [hB] at h2
  have h3 := wi_or a b
  have hr : rotr x 7 = a ||| b := by rw [← hA, ← hB]; unfold rotr; exact BitVec.or_comm _ _
  rw [← hr] at h3
  obtain ⟨r, hR⟩ : ∃ r, rotr x 7 = r := ⟨_, rfl⟩
  rw [hR] at h3 ⊢
  clear hA hB hr hR
  go_enter Tryd.func74, Tryd.ntmps74
  go_wp2_with fail
  go_ret
  exact ⟨rfl, rfl⟩
theorem turned_7 (x : W32) (w : World) : Calls Tryd.prog 54 #[.int .u32 ((x.toNat : Nat) : Int), .int .i64 7] w fun e w' => e = .returned (.int .u32 (((rotr x 7).toNat : Nat) : Int)) ∧ w' = w := by
  have H := hide (rotL_7 x w)
  obtain ⟨r, hR⟩ : ∃ r, rotr x 7 = r := ⟨_, rfl⟩
  rw [hR] at H ⊢
  clear hR
  go_enter Tryd.func54, Tryd.ntmps54
  go_wp2_with fail
  refine H.out.mono ?_
  rintro e w1 ⟨rfl, rfl⟩
  go_wp2_with fail
  go_ret
  exact ⟨rfl, rfl⟩
set_option maxHeartbeats 4000000 in
theorem turnR_7 (x : W32) (w : World) : Calls Tryd.prog 44 #[.int .u32 ((x.toNat : Nat) : Int), .int .i64 7] w fun e w' => e = .returned (.int .u32 (((rotr x 7).toNat : Nat) : Int)) ∧ w' = w.drew := by
  have h1 := wi_shl x 25 33554432 rfl
  have h2 := wi_shr x 7 128 rfl
  obtain ⟨a, hA⟩ : ∃ a, x <<< 25 = a := ⟨_, rfl⟩
  obtain ⟨b, hB⟩ : ∃ b, x >>> 7 = b := ⟨_, rfl⟩
  rw [hA] at h1
  rw [hB] at h2
  have h3 := wi_or b a
  have hr : rotr x 7 = b ||| a := by rw [← hA, ← hB]; rfl
  rw [← hr] at h3
  obtain ⟨r, hR⟩ : ∃ r, rotr x 7 = r := ⟨_, rfl⟩
  rw [hR] at h3 ⊢
  clear hA hB hr hR
  go_enter Tryd.func44, Tryd.ntmps44
  go_wp2_with fail
  go_region
  all_goals
    go_wp2_with fail
    go_ret
    exact ⟨rfl, rfl⟩
set_option maxHeartbeats 4000000 in
theorem rotL_18 (x : W32) (w : World) : Calls Tryd.prog 74 #[.int .u32 ((x.toNat : Nat) : Int), .int .i64 (-18)] w fun e w' => e = .returned (.int .u32 (((rotr x 18).toNat : Nat) : Int)) ∧ w = w' := by
  have ha : bits .and .u64 (IntKind.u64.wrap (-18)) 31 = 14 := by decide
  have h1 := wi_shl x 14 16384 rfl
  have h2 := wi_shr x 18 262144 rfl
  obtain ⟨a, hA⟩ : ∃ a, x <<< 14 = a := ⟨_, rfl⟩
  obtain ⟨b, hB⟩ : ∃ b, x >>> 18 = b := ⟨_, rfl⟩
  rw [hA] at h1
  rw [hB] at h2
  have h3 := wi_or a b
  have hr : rotr x 18 = a ||| b := by rw [← hA, ← hB]; unfold rotr; exact BitVec.or_comm _ _
  rw [← hr] at h3
  obtain ⟨r, hR⟩ : ∃ r, rotr x 18 = r := ⟨_, rfl⟩
  rw [hR] at h3 ⊢
  clear hA hB hr hR
  go_enter Tryd.func74, Tryd.ntmps74
  go_wp2_with fail
  go_ret
  exact ⟨rfl, rfl⟩
theorem turned_18 (x : W32) (w : World) : Calls Tryd.prog 54 #[.int .u32 ((x.toNat : Nat) : Int), .int .i64 18] w fun e w' => e = .returned (.int .u32 (((rotr x 18).toNat : Nat) : Int)) ∧ w' = w := by
  have H := hide (rotL_18 x w)
  obtain ⟨r, hR⟩ : ∃ r, rotr x 18 = r := ⟨_, rfl⟩
  rw [hR] at H ⊢
  clear hR
  go_enter Tryd.func54, Tryd.ntmps54
  go_wp2_with fail
  refine H.out.mono ?_
  rintro e w1 ⟨rfl, rfl⟩
  go_wp2_with fail
  go_ret
  exact ⟨rfl, rfl⟩
set_option maxHeartbeats 4000000 in
theorem turnR_18 (x : W32) (w : World) : Calls Tryd.prog 44 #[.int .u32 ((x.toNat : Nat) : Int), .int .i64 18] w fun e w' => e = .returned (.int .u32 (((rotr x 18).toNat : Nat) : Int)) ∧ w' = w.drew := by
  have h1 := wi_shl x 14 16384 rfl
  have h2 := wi_shr x 18 262144 rfl
  obtain ⟨a, hA⟩ : ∃ a, x <<< 14 = a := ⟨_, rfl⟩
  obtain ⟨b, hB⟩ : ∃ b, x >>> 18 = b := ⟨_, rfl⟩
  rw [hA] at h1
  rw [hB] at h2
  have h3 := wi_or b a
  have hr : rotr x 18 = b ||| a := by rw [← hA, ← hB]; rfl
  rw [← hr] at h3
  obtain ⟨r, hR⟩ : ∃ r, rotr x 18 = r := ⟨_, rfl⟩
  rw [hR] at h3 ⊢
  clear hA hB hr hR
  go_enter Tryd.func44, Tryd.ntmps44
  go_wp2_with fail
  go_region
  all_goals
    go_wp2_with fail
    go_ret
    exact ⟨rfl, rfl⟩
set_option maxHeartbeats 4000000 in
theorem rotL_17 (x : W32) (w : World) : Calls Tryd.prog 74 #[.int .u32 ((x.toNat : Nat) : Int), .int .i64 (-17)] w fun e w' => e = .returned (.int .u32 (((rotr x 17).toNat : Nat) : Int)) ∧ w = w' := by
  have ha : bits .and .u64 (IntKind.u64.wrap (-17)) 31 = 15 := by decide
  have h1 := wi_shl x 15 32768 rfl
  have h2 := wi_shr x 17 131072 rfl
  obtain ⟨a, hA⟩ : ∃ a, x <<< 15 = a := ⟨_, rfl⟩
  obtain ⟨b, hB⟩ : ∃ b, x >>> 17 = b := ⟨_, rfl⟩
  rw [hA] at h1
  rw [hB] at h2
  have h3 := wi_or a b
  have hr : rotr x 17 = a ||| b := by rw [← hA, ← hB]; unfold rotr; exact BitVec.or_comm _ _
  rw [← hr] at h3
  obtain ⟨r, hR⟩ : ∃ r, rotr x 17 = r := ⟨_, rfl⟩
  rw [hR] at h3 ⊢
  clear hA hB hr hR
  go_enter Tryd.func74, Tryd.ntmps74
  go_wp2_with fail
  go_ret
  exact ⟨rfl, rfl⟩
theorem turned_17 (x : W32) (w : World) : Calls Tryd.prog 54 #[.int .u32 ((x.toNat : Nat) : Int), .int .i64 17] w fun e w' => e = .returned (.int .u32 (((rotr x 17).toNat : Nat) : Int)) ∧ w' = w := by
  have H := hide (rotL_17 x w)
  obtain ⟨r, hR⟩ : ∃ r, rotr x 17 = r := ⟨_, rfl⟩
  rw [hR] at H ⊢
  clear hR
  go_enter Tryd.func54, Tryd.ntmps54
  go_wp2_with fail
  refine H.out.mono ?_
  rintro e w1 ⟨rfl, rfl⟩
  go_wp2_with fail
  go_ret
  exact ⟨rfl, rfl⟩
set_option maxHeartbeats 4000000 in
theorem turnR_17 (x : W32) (w : World) : Calls Tryd.prog 44 #[.int .u32 ((x.toNat : Nat) : Int), .int .i64 17] w fun e w' => e = .returned (.int .u32 (((rotr x 17).toNat : Nat) : Int)) ∧ w' = w.drew := by
  have h1 := wi_shl x 15 32768 rfl
  have h2 := wi_shr x 17 131072 rfl
  obtain ⟨a, hA⟩ : ∃ a, x <<< 15 = a := ⟨_, rfl⟩
  obtain ⟨b, hB⟩ : ∃ b, x >>> 17 = b := ⟨_, rfl⟩
  rw [hA] at h1
  rw [hB] at h2
  have h3 := wi_or b a
  have hr : rotr x 17 = b ||| a := by rw [← hA, ← hB]; rfl
  rw [← hr] at h3
  obtain ⟨r, hR⟩ : ∃ r, rotr x 17 = r := ⟨_, rfl⟩
  rw [hR] at h3 ⊢
  clear hA hB hr hR
  go_enter Tryd.func44, Tryd.ntmps44
  go_wp2_with fail
  go_region
  all_goals
    go_wp2_with fail
    go_ret
    exact ⟨rfl, rfl⟩
set_option maxHeartbeats 4000000 in
theorem rotL_19 (x : W32) (w : World) : Calls Tryd.prog 74 #[.int .u32 ((x.toNat : Nat) : Int), .int .i64 (-19)] w fun e w' => e = .returned (.int .u32 (((rotr x 19).toNat : Nat) : Int)) ∧ w = w' := by
  have ha : bits .and .u64 (IntKind.u64.wrap (-19)) 31 = 13 := by decide
  have h1 := wi_shl x 13 8192 rfl
  have h2 := wi_shr x 19 524288 rfl
  obtain ⟨a, hA⟩ : ∃ a, x <<< 13 = a := ⟨_, rfl⟩
  obtain ⟨b, hB⟩ : ∃ b, x >>> 19 = b := ⟨_, rfl⟩
  rw [hA] at h1
  rw [hB] at h2
  have h3 := wi_or a b
  have hr : rotr x 19 = a ||| b := by rw [← hA, ← hB]; unfold rotr; exact BitVec.or_comm _ _
  rw [← hr] at h3
  obtain ⟨r, hR⟩ : ∃ r, rotr x 19 = r := ⟨_, rfl⟩
  rw [hR] at h3 ⊢
  clear hA hB hr hR
  go_enter Tryd.func74, Tryd.ntmps74
  go_wp2_with fail
  go_ret
  exact ⟨rfl, rfl⟩
theorem turned_19 (x : W32) (w : World) : Calls Tryd.prog 54 #[.int .u32 ((x.toNat : Nat) : Int), .int .i64 19] w fun e w' => e = .returned (.int .u32 (((rotr x 19).toNat : Nat) : Int)) ∧ w' = w := by
  have H := hide (rotL_19 x w)
  obtain ⟨r, hR⟩ : ∃ r, rotr x 19 = r := ⟨_, rfl⟩
  rw [hR] at H ⊢
  clear hR
  go_enter Tryd.func54, Tryd.ntmps54
  go_wp2_with fail
  refine H.out.mono ?_
  rintro e w1 ⟨rfl, rfl⟩
  go_wp2_with fail
  go_ret
  exact ⟨rfl, rfl⟩
set_option maxHeartbeats 4000000 in
theorem turnR_19 (x : W32) (w : World) : Calls Tryd.prog 44 #[.int .u32 ((x.toNat : Nat) : Int), .int .i64 19] w fun e w' => e = .returned (.int .u32 (((rotr x 19).toNat : Nat) : Int)) ∧ w' = w.drew := by
  have h1 := wi_shl x 13 8192 rfl
  have h2 := wi_shr x 19 524288 rfl
  obtain ⟨a, hA⟩ : ∃ a, x <<< 13 = a := ⟨_, rfl⟩
  obtain ⟨b, hB⟩ : ∃ b, x >>> 19 = b := ⟨_, rfl⟩
  rw [hA] at h1
  rw [hB] at h2
  have h3 := wi_or b a
  have hr : rotr x 19 = b ||| a := by rw [← hA, ← hB]; rfl
  rw [← hr] at h3
  obtain ⟨r, hR⟩ : ∃ r, rotr x 19 = r := ⟨_, rfl⟩
  rw [hR] at h3 ⊢
  clear hA hB hr hR
  go_enter Tryd.func44, Tryd.ntmps44
  go_wp2_with fail
  go_region
  all_goals
    go_wp2_with fail
    go_ret
    exact ⟨rfl, rfl⟩
set_option maxHeartbeats 4000000 in
theorem rotL_6 (x : W32) (w : World) : Calls Tryd.prog 74 #[.int .u32 ((x.toNat : Nat) : Int), .int .i64 (-6)] w fun e w' => e = .returned (.int .u32 (((rotr x 6).toNat : Nat) : Int)) ∧ w = w' := by
  have ha : bits .and .u64 (IntKind.u64.wrap (-6)) 31 = 26 := by decide
  have h1 := wi_shl x 26 67108864 rfl
  have h2 := wi_shr x 6 64 rfl
  obtain ⟨a, hA⟩ : ∃ a, x <<< 26 = a := ⟨_, rfl⟩
  obtain ⟨b, hB⟩ : ∃ b, x >>> 6 = b := ⟨_, rfl⟩
  rw [hA] at h1
  rw [hB] at h2
  have h3 := wi_or a b
  have hr : rotr x 6 = a ||| b := by rw [← hA, ← hB]; unfold rotr; exact BitVec.or_comm _ _
  rw [← hr] at h3
  obtain ⟨r, hR⟩ : ∃ r, rotr x 6 = r := ⟨_, rfl⟩
  rw [hR] at h3 ⊢
  clear hA hB hr hR
  go_enter Tryd.func74, Tryd.ntmps74
  go_wp2_with fail
  go_ret
  exact ⟨rfl, rfl⟩
theorem turned_6 (x : W32) (w : World) : Calls Tryd.prog 54 #[.int .u32 ((x.toNat : Nat) : Int), .int .i64 6] w fun e w' => e = .returned (.int .u32 (((rotr x 6).toNat : Nat) : Int)) ∧ w' = w := by
  have H := hide (rotL_6 x w)
  obtain ⟨r, hR⟩ : ∃ r, rotr x 6 = r := ⟨_, rfl⟩
  rw [hR] at H ⊢
  clear hR
  go_enter Tryd.func54, Tryd.ntmps54
  go_wp2_with fail
  refine H.out.mono ?_
  rintro e w1 ⟨rfl, rfl⟩
  go_wp2_with fail
  go_ret
  exact ⟨rfl, rfl⟩
set_option maxHeartbeats 4000000 in
theorem turnR_6 (x : W32) (w : World) : Calls Tryd.prog 44 #[.int .u32 ((x.toNat : Nat) : Int), .int .i64 6] w fun e w' => e = .returned (.int .u32 (((rotr x 6).toNat : Nat) : Int)) ∧ w' = w.drew := by
  have h1 := wi_shl x 26 67108864 rfl
  have h2 := wi_shr x 6 64 rfl
  obtain ⟨a, hA⟩ : ∃ a, x <<< 26 = a := ⟨_, rfl⟩
  obtain ⟨b, hB⟩ : ∃ b, x >>> 6 = b := ⟨_, rfl⟩
  rw [hA] at h1
  rw [hB] at h2
  have h3 := wi_or b a
  have hr : rotr x 6 = b ||| a := by rw [← hA, ← hB]; rfl
  rw [← hr] at h3
  obtain ⟨r, hR⟩ : ∃ r, rotr x 6 = r := ⟨_, rfl⟩
  rw [hR] at h3 ⊢
  clear hA hB hr hR
  go_enter Tryd.func44, Tryd.ntmps44
  go_wp2_with fail
  go_region
  all_goals
    go_wp2_with fail
    go_ret
    exact ⟨rfl, rfl⟩
set_option maxHeartbeats 4000000 in
theorem rotL_11 (x : W32) (w : World) : Calls Tryd.prog 74 #[.int .u32 ((x.toNat : Nat) : Int), .int .i64 (-11)] w fun e w' => e = .returned (.int .u32 (((rotr x 11).toNat : Nat) : Int)) ∧ w = w' := by
  have ha : bits .and .u64 (IntKind.u64.wrap (-11)) 31 = 21 := by decide
  have h1 := wi_shl x 21 2097152 rfl
  have h2 := wi_shr x 11 2048 rfl
  obtain ⟨a, hA⟩ : ∃ a, x <<< 21 = a := ⟨_, rfl⟩
  obtain ⟨b, hB⟩ : ∃ b, x >>> 11 = b := ⟨_, rfl⟩
  rw [hA] at h1
  rw [hB] at h2
  have h3 := wi_or a b
  have hr : rotr x 11 = a ||| b := by rw [← hA, ← hB]; unfold rotr; exact BitVec.or_comm _ _
  rw [← hr] at h3
  obtain ⟨r, hR⟩ : ∃ r, rotr x 11 = r := ⟨_, rfl⟩
  rw [hR] at h3 ⊢
  clear hA hB hr hR
  go_enter Tryd.func74, Tryd.ntmps74
  go_wp2_with fail
  go_ret
  exact ⟨rfl, rfl⟩
theorem turned_11 (x : W32) (w : World) : Calls Tryd.prog 54 #[.int .u32 ((x.toNat : Nat) : Int), .int .i64 11] w fun e w' => e = .returned (.int .u32 (((rotr x 11).toNat : Nat) : Int)) ∧ w' = w := by
  have H := hide (rotL_11 x w)
  obtain ⟨r, hR⟩ : ∃ r, rotr x 11 = r := ⟨_, rfl⟩
  rw [hR] at H ⊢
  clear hR
  go_enter Tryd.func54, Tryd.ntmps54
  go_wp2_with fail
  refine H.out.mono ?_
  rintro e w1 ⟨rfl, rfl⟩
  go_wp2_with fail
  go_ret
  exact ⟨rfl, rfl⟩
set_option maxHeartbeats 4000000 in
theorem turnR_11 (x : W32) (w : World) : Calls Tryd.prog 44 #[.int .u32 ((x.toNat : Nat) : Int), .int .i64 11] w fun e w' => e = .returned (.int .u32 (((rotr x 11).toNat : Nat) : Int)) ∧ w' = w.drew := by
  have h1 := wi_shl x 21 2097152 rfl
  have h2 := wi_shr x 11 2048 rfl
  obtain ⟨a, hA⟩ : ∃ a, x <<< 21 = a := ⟨_, rfl⟩
  obtain ⟨b, hB⟩ : ∃ b, x >>> 11 = b := ⟨_, rfl⟩
  rw [hA] at h1
  rw [hB] at h2
  have h3 := wi_or b a
  have hr : rotr x 11 = b ||| a := by rw [← hA, ← hB]; rfl
  rw [← hr] at h3
  obtain ⟨r, hR⟩ : ∃ r, rotr x 11 = r := ⟨_, rfl⟩
  rw [hR] at h3 ⊢
  clear hA hB hr hR
  go_enter Tryd.func44, Tryd.ntmps44
  go_wp2_with fail
  go_region
  all_goals
    go_wp2_with fail
    go_ret
    exact ⟨rfl, rfl⟩
set_option maxHeartbeats 4000000 in
theorem rotL_25 (x : W32) (w : World) : Calls Tryd.prog 74 #[.int .u32 ((x.toNat : Nat) : Int), .int .i64 (-25)] w fun e w' => e = .returned (.int .u32 (((rotr x 25).toNat : Nat) : Int)) ∧ w = w' := by
  have ha : bits .and .u64 (IntKind.u64.wrap (-25)) 31 = 7 := by decide
  have h1 := wi_shl x 7 128 rfl
  have h2 := wi_shr x 25 33554432 rfl
  obtain ⟨a, hA⟩ : ∃ a, x <<< 7 = a := ⟨_, rfl⟩
  obtain ⟨b, hB⟩ : ∃ b, x >>> 25 = b := ⟨_, rfl⟩
  rw [hA] at h1
  rw [hB] at h2
  have h3 := wi_or a b
  have hr : rotr x 25 = a ||| b := by rw [← hA, ← hB]; unfold rotr; exact BitVec.or_comm _ _
  rw [← hr] at h3
  obtain ⟨r, hR⟩ : ∃ r, rotr x 25 = r := ⟨_, rfl⟩
  rw [hR] at h3 ⊢
  clear hA hB hr hR
  go_enter Tryd.func74, Tryd.ntmps74
  go_wp2_with fail
  go_ret
  exact ⟨rfl, rfl⟩
theorem turned_25 (x : W32) (w : World) : Calls Tryd.prog 54 #[.int .u32 ((x.toNat : Nat) : Int), .int .i64 25] w fun e w' => e = .returned (.int .u32 (((rotr x 25).toNat : Nat) : Int)) ∧ w' = w := by
  have H := hide (rotL_25 x w)
  obtain ⟨r, hR⟩ : ∃ r, rotr x 25 = r := ⟨_, rfl⟩
  rw [hR] at H ⊢
  clear hR
  go_enter Tryd.func54, Tryd.ntmps54
  go_wp2_with fail
  refine H.out.mono ?_
  rintro e w1 ⟨rfl, rfl⟩
  go_wp2_with fail
  go_ret
  exact ⟨rfl, rfl⟩
set_option maxHeartbeats 4000000 in
theorem turnR_25 (x : W32) (w : World) : Calls Tryd.prog 44 #[.int .u32 ((x.toNat : Nat) : Int), .int .i64 25] w fun e w' => e = .returned (.int .u32 (((rotr x 25).toNat : Nat) : Int)) ∧ w' = w.drew := by
  have h1 := wi_shl x 7 128 rfl
  have h2 := wi_shr x 25 33554432 rfl
  obtain ⟨a, hA⟩ : ∃ a, x <<< 7 = a := ⟨_, rfl⟩
  obtain ⟨b, hB⟩ : ∃ b, x >>> 25 = b := ⟨_, rfl⟩
  rw [hA] at h1
  rw [hB] at h2
  have h3 := wi_or b a
  have hr : rotr x 25 = b ||| a := by rw [← hA, ← hB]; rfl
  rw [← hr] at h3
  obtain ⟨r, hR⟩ : ∃ r, rotr x 25 = r := ⟨_, rfl⟩
  rw [hR] at h3 ⊢
  clear hA hB hr hR
  go_enter Tryd.func44, Tryd.ntmps44
  go_wp2_with fail
  go_region
  all_goals
    go_wp2_with fail
    go_ret
    exact ⟨rfl, rfl⟩
set_option maxHeartbeats 4000000 in
theorem rotL_2 (x : W32) (w : World) : Calls Tryd.prog 74 #[.int .u32 ((x.toNat : Nat) : Int), .int .i64 (-2)] w fun e w' => e = .returned (.int .u32 (((rotr x 2).toNat : Nat) : Int)) ∧ w = w' := by
  have ha : bits .and .u64 (IntKind.u64.wrap (-2)) 31 = 30 := by decide
  have h1 := wi_shl x 30 1073741824 rfl
  have h2 := wi_shr x 2 4 rfl
  obtain ⟨a, hA⟩ : ∃ a, x <<< 30 = a := ⟨_, rfl⟩
  obtain ⟨b, hB⟩ : ∃ b, x >>> 2 = b := ⟨_, rfl⟩
  rw [hA] at h1
  rw [hB] at h2
  have h3 := wi_or a b
  have hr : rotr x 2 = a ||| b := by rw [← hA, ← hB]; unfold rotr; exact BitVec.or_comm _ _
  rw [← hr] at h3
  obtain ⟨r, hR⟩ : ∃ r, rotr x 2 = r := ⟨_, rfl⟩
  rw [hR] at h3 ⊢
  clear hA hB hr hR
  go_enter Tryd.func74, Tryd.ntmps74
  go_wp2_with fail
  go_ret
  exact ⟨rfl, rfl⟩
theorem turned_2 (x : W32) (w : World) : Calls Tryd.prog 54 #[.int .u32 ((x.toNat : Nat) : Int), .int .i64 2] w fun e w' => e = .returned (.int .u32 (((rotr x 2).toNat : Nat) : Int)) ∧ w' = w := by
  have H := hide (rotL_2 x w)
  obtain ⟨r, hR⟩ : ∃ r, rotr x 2 = r := ⟨_, rfl⟩
  rw [hR] at H ⊢
  clear hR
  go_enter Tryd.func54, Tryd.ntmps54
  go_wp2_with fail
  refine H.out.mono ?_
  rintro e w1 ⟨rfl, rfl⟩
  go_wp2_with fail
  go_ret
  exact ⟨rfl, rfl⟩
set_option maxHeartbeats 4000000 in
theorem turnR_2 (x : W32) (w : World) : Calls Tryd.prog 44 #[.int .u32 ((x.toNat : Nat) : Int), .int .i64 2] w fun e w' => e = .returned (.int .u32 (((rotr x 2).toNat : Nat) : Int)) ∧ w' = w.drew := by
  have h1 := wi_shl x 30 1073741824 rfl
  have h2 := wi_shr x 2 4 rfl
  obtain ⟨a, hA⟩ : ∃ a, x <<< 30 = a := ⟨_, rfl⟩
  obtain ⟨b, hB⟩ : ∃ b, x >>> 2 = b := ⟨_, rfl⟩
  rw [hA] at h1
  rw [hB] at h2
  have h3 := wi_or b a
  have hr : rotr x 2 = b ||| a := by rw [← hA, ← hB]; rfl
  rw [← hr] at h3
  obtain ⟨r, hR⟩ : ∃ r, rotr x 2 = r := ⟨_, rfl⟩
  rw [hR] at h3 ⊢
  clear hA hB hr hR
  go_enter Tryd.func44, Tryd.ntmps44
  go_wp2_with fail
  go_region
  all_goals
    go_wp2_with fail
    go_ret
    exact ⟨rfl, rfl⟩
set_option maxHeartbeats 4000000 in
theorem rotL_13 (x : W32) (w : World) : Calls Tryd.prog 74 #[.int .u32 ((x.toNat : Nat) : Int), .int .i64 (-13)] w fun e w' => e = .returned (.int .u32 (((rotr x 13).toNat : Nat) : Int)) ∧ w = w' := by
  have ha : bits .and .u64 (IntKind.u64.wrap (-13)) 31 = 19 := by decide
  have h1 := wi_shl x 19 524288 rfl
  have h2 := wi_shr x 13 8192 rfl
  obtain ⟨a, hA⟩ : ∃ a, x <<< 19 = a := ⟨_, rfl⟩
  obtain ⟨b, hB⟩ : ∃ b, x >>> 13 = b := ⟨_, rfl⟩
  rw [hA] at h1
  rw [hB] at h2
  have h3 := wi_or a b
  have hr : rotr x 13 = a ||| b := by rw [← hA, ← hB]; unfold rotr; exact BitVec.or_comm _ _
  rw [← hr] at h3
  obtain ⟨r, hR⟩ : ∃ r, rotr x 13 = r := ⟨_, rfl⟩
  rw [hR] at h3 ⊢
  clear hA hB hr hR
  go_enter Tryd.func74, Tryd.ntmps74
  go_wp2_with fail
  go_ret
  exact ⟨rfl, rfl⟩
theorem turned_13 (x : W32) (w : World) : Calls Tryd.prog 54 #[.int .u32 ((x.toNat : Nat) : Int), .int .i64 13] w fun e w' => e = .returned (.int .u32 (((rotr x 13).toNat : Nat) : Int)) ∧ w' = w := by
  have H := hide (rotL_13 x w)
  obtain ⟨r, hR⟩ : ∃ r, rotr x 13 = r := ⟨_, rfl⟩
  rw [hR] at H ⊢
  clear hR
  go_enter Tryd.func54, Tryd.ntmps54
  go_wp2_with fail
  refine H.out.mono ?_
  rintro e w1 ⟨rfl, rfl⟩
  go_wp2_with fail
  go_ret
  exact ⟨rfl, rfl⟩
set_option maxHeartbeats 4000000 in
theorem turnR_13 (x : W32) (w : World) : Calls Tryd.prog 44 #[.int .u32 ((x.toNat : Nat) : Int), .int .i64 13] w fun e w' => e = .returned (.int .u32 (((rotr x 13).toNat : Nat) : Int)) ∧ w' = w.drew := by
  have h1 := wi_shl x 19 524288 rfl
  have h2 := wi_shr x 13 8192 rfl
  obtain ⟨a, hA⟩ : ∃ a, x <<< 19 = a := ⟨_, rfl⟩
  obtain ⟨b, hB⟩ : ∃ b, x >>> 13 = b := ⟨_, rfl⟩
  rw [hA] at h1
  rw [hB] at h2
  have h3 := wi_or b a
  have hr : rotr x 13 = b ||| a := by rw [← hA, ← hB]; rfl
  rw [← hr] at h3
  obtain ⟨r, hR⟩ : ∃ r, rotr x 13 = r := ⟨_, rfl⟩
  rw [hR] at h3 ⊢
  clear hA hB hr hR
  go_enter Tryd.func44, Tryd.ntmps44
  go_wp2_with fail
  go_region
  all_goals
    go_wp2_with fail
    go_ret
    exact ⟨rfl, rfl⟩
set_option maxHeartbeats 4000000 in
theorem rotL_22 (x : W32) (w : World) : Calls Tryd.prog 74 #[.int .u32 ((x.toNat : Nat) : Int), .int .i64 (-22)] w fun e w' => e = .returned (.int .u32 (((rotr x 22).toNat : Nat) : Int)) ∧ w = w' := by
  have ha : bits .and .u64 (IntKind.u64.wrap (-22)) 31 = 10 := by decide
  have h1 := wi_shl x 10 1024 rfl
  have h2 := wi_shr x 22 4194304 rfl
  obtain ⟨a, hA⟩ : ∃ a, x <<< 10 = a := ⟨_, rfl⟩
  obtain ⟨b, hB⟩ : ∃ b, x >>> 22 = b := ⟨_, rfl⟩
  rw [hA] at h1
  rw [hB] at h2
  have h3 := wi_or a b
  have hr : rotr x 22 = a ||| b := by rw [← hA, ← hB]; unfold rotr; exact BitVec.or_comm _ _
  rw [← hr] at h3
  obtain ⟨r, hR⟩ : ∃ r, rotr x 22 = r := ⟨_, rfl⟩
  rw [hR] at h3 ⊢
  clear hA hB hr hR
  go_enter Tryd.func74, Tryd.ntmps74
  go_wp2_with fail
  go_ret
  exact ⟨rfl, rfl⟩
theorem turned_22 (x : W32) (w : World) : Calls Tryd.prog 54 #[.int .u32 ((x.toNat : Nat) : Int), .int .i64 22] w fun e w' => e = .returned (.int .u32 (((rotr x 22).toNat : Nat) : Int)) ∧ w' = w := by
  have H := hide (rotL_22 x w)
  obtain ⟨r, hR⟩ : ∃ r, rotr x 22 = r := ⟨_, rfl⟩
  rw [hR] at H ⊢
  clear hR
  go_enter Tryd.func54, Tryd.ntmps54
  go_wp2_with fail
  refine H.out.mono ?_
  rintro e w1 ⟨rfl, rfl⟩
  go_wp2_with fail
  go_ret
  exact ⟨rfl, rfl⟩
set_option maxHeartbeats 4000000 in
theorem turnR_22 (x : W32) (w : World) : Calls Tryd.prog 44 #[.int .u32 ((x.toNat : Nat) : Int), .int .i64 22] w fun e w' => e = .returned (.int .u32 (((rotr x 22).toNat : Nat) : Int)) ∧ w' = w.drew := by
  have h1 := wi_shl x 10 1024 rfl
  have h2 := wi_shr x 22 4194304 rfl
  obtain ⟨a, hA⟩ : ∃ a, x <<< 10 = a := ⟨_, rfl⟩
  obtain ⟨b, hB⟩ : ∃ b, x >>> 22 = b := ⟨_, rfl⟩
  rw [hA] at h1
  rw [hB] at h2
  have h3 := wi_or b a
  have hr : rotr x 22 = b ||| a := by rw [← hA, ← hB]; rfl
  rw [← hr] at h3
  obtain ⟨r, hR⟩ : ∃ r, rotr x 22 = r := ⟨_, rfl⟩
  rw [hR] at h3 ⊢
  clear hA hB hr hR
  go_enter Tryd.func44, Tryd.ntmps44
  go_wp2_with fail
  go_region
  all_goals
    go_wp2_with fail
    go_ret
    exact ⟨rfl, rfl⟩
theorem turnedE_7 (x r : W32) (h : rotr x 7 = r) (w : World) : Calls Tryd.prog 54 #[.int .u32 ((x.toNat : Nat) : Int), .int .i64 7] w fun e w' => e = .returned (.int .u32 ((r.toNat : Nat) : Int)) ∧ w' = w := by
  subst h; exact turned_7 x w
theorem turnRE_7 (x r : W32) (h : rotr x 7 = r) (w : World) : Calls Tryd.prog 44 #[.int .u32 ((x.toNat : Nat) : Int), .int .i64 7] w fun e w' => e = .returned (.int .u32 ((r.toNat : Nat) : Int)) ∧ w' = w.drew := by
  subst h; exact turnR_7 x w
theorem turnQ_7 (x r : W32) (h : rotr x 7 = r) (w : World) : Calls Tryd.prog 44 #[.int .u32 ((x.toNat : Nat) : Int), .int .i64 7] w fun e w' => e = .returned (.int .u32 ((r.toNat : Nat) : Int)) ∧ ∃ m, w' = w.drewN m :=
  (turnRE_7 x r h w).mono fun _ _ ⟨he, hw⟩ => ⟨he, 1, hw⟩
theorem turnedE_18 (x r : W32) (h : rotr x 18 = r) (w : World) : Calls Tryd.prog 54 #[.int .u32 ((x.toNat : Nat) : Int), .int .i64 18] w fun e w' => e = .returned (.int .u32 ((r.toNat : Nat) : Int)) ∧ w' = w := by
  subst h; exact turned_18 x w
theorem turnRE_18 (x r : W32) (h : rotr x 18 = r) (w : World) : Calls Tryd.prog 44 #[.int .u32 ((x.toNat : Nat) : Int), .int .i64 18] w fun e w' => e = .returned (.int .u32 ((r.toNat : Nat) : Int)) ∧ w' = w.drew := by
  subst h; exact turnR_18 x w
theorem turnQ_18 (x r : W32) (h : rotr x 18 = r) (w : World) : Calls Tryd.prog 44 #[.int .u32 ((x.toNat : Nat) : Int), .int .i64 18] w fun e w' => e = .returned (.int .u32 ((r.toNat : Nat) : Int)) ∧ ∃ m, w' = w.drewN m :=
  (turnRE_18 x r h w).mono fun _ _ ⟨he, hw⟩ => ⟨he, 1, hw⟩
theorem turnedE_17 (x r : W32) (h : rotr x 17 = r) (w : World) : Calls Tryd.prog 54 #[.int .u32 ((x.toNat : Nat) : Int), .int .i64 17] w fun e w' => e = .returned (.int .u32 ((r.toNat : Nat) : Int)) ∧ w' = w := by
  subst h; exact turned_17 x w
theorem turnRE_17 (x r : W32) (h : rotr x 17 = r) (w : World) : Calls Tryd.prog 44 #[.int .u32 ((x.toNat : Nat) : Int), .int .i64 17] w fun e w' => e = .returned (.int .u32 ((r.toNat : Nat) : Int)) ∧ w' = w.drew := by
  subst h; exact turnR_17 x w
theorem turnQ_17 (x r : W32) (h : rotr x 17 = r) (w : World) : Calls Tryd.prog 44 #[.int .u32 ((x.toNat : Nat) : Int), .int .i64 17] w fun e w' => e = .returned (.int .u32 ((r.toNat : Nat) : Int)) ∧ ∃ m, w' = w.drewN m :=
  (turnRE_17 x r h w).mono fun _ _ ⟨he, hw⟩ => ⟨he, 1, hw⟩
theorem turnedE_19 (x r : W32) (h : rotr x 19 = r) (w : World) : Calls Tryd.prog 54 #[.int .u32 ((x.toNat : Nat) : Int), .int .i64 19] w fun e w' => e = .returned (.int .u32 ((r.toNat : Nat) : Int)) ∧ w' = w := by
  subst h; exact turned_19 x w
theorem turnRE_19 (x r : W32) (h : rotr x 19 = r) (w : World) : Calls Tryd.prog 44 #[.int .u32 ((x.toNat : Nat) : Int), .int .i64 19] w fun e w' => e = .returned (.int .u32 ((r.toNat : Nat) : Int)) ∧ w' = w.drew := by
  subst h; exact turnR_19 x w
theorem turnQ_19 (x r : W32) (h : rotr x 19 = r) (w : World) : Calls Tryd.prog 44 #[.int .u32 ((x.toNat : Nat) : Int), .int .i64 19] w fun e w' => e = .returned (.int .u32 ((r.toNat : Nat) : Int)) ∧ ∃ m, w' = w.drewN m :=
  (turnRE_19 x r h w).mono fun _ _ ⟨he, hw⟩ => ⟨he, 1, hw⟩
theorem turnedE_6 (x r : W32) (h : rotr x 6 = r) (w : World) : Calls Tryd.prog 54 #[.int .u32 ((x.toNat : Nat) : Int), .int .i64 6] w fun e w' => e = .returned (.int .u32 ((r.toNat : Nat) : Int)) ∧ w' = w := by
  subst h; exact turned_6 x w
theorem turnRE_6 (x r : W32) (h : rotr x 6 = r) (w : World) : Calls Tryd.prog 44 #[.int .u32 ((x.toNat : Nat) : Int), .int .i64 6] w fun e w' => e = .returned (.int .u32 ((r.toNat : Nat) : Int)) ∧ w' = w.drew := by
  subst h; exact turnR_6 x w
theorem turnQ_6 (x r : W32) (h : rotr x 6 = r) (w : World) : Calls Tryd.prog 44 #[.int .u32 ((x.toNat : Nat) : Int), .int .i64 6] w fun e w' => e = .returned (.int .u32 ((r.toNat : Nat) : Int)) ∧ ∃ m, w' = w.drewN m :=
  (turnRE_6 x r h w).mono fun _ _ ⟨he, hw⟩ => ⟨he, 1, hw⟩
theorem turnedE_11 (x r : W32) (h : rotr x 11 = r) (w : World) : Calls Tryd.prog 54 #[.int .u32 ((x.toNat : Nat) : Int), .int .i64 11] w fun e w' => e = .returned (.int .u32 ((r.toNat : Nat) : Int)) ∧ w' = w := by
  subst h; exact turned_11 x w
theorem turnRE_11 (x r : W32) (h : rotr x 11 = r) (w : World) : Calls Tryd.prog 44 #[.int .u32 ((x.toNat : Nat) : Int), .int .i64 11] w fun e w' => e = .returned (.int .u32 ((r.toNat : Nat) : Int)) ∧ w' = w.drew := by
  subst h; exact turnR_11 x w
theorem turnQ_11 (x r : W32) (h : rotr x 11 = r) (w : World) : Calls Tryd.prog 44 #[.int .u32 ((x.toNat : Nat) : Int), .int .i64 11] w fun e w' => e = .returned (.int .u32 ((r.toNat : Nat) : Int)) ∧ ∃ m, w' = w.drewN m :=
  (turnRE_11 x r h w).mono fun _ _ ⟨he, hw⟩ => ⟨he, 1, hw⟩
theorem turnedE_25 (x r : W32) (h : rotr x 25 = r) (w : World) : Calls Tryd.prog 54 #[.int .u32 ((x.toNat : Nat) : Int), .int .i64 25] w fun e w' => e = .returned (.int .u32 ((r.toNat : Nat) : Int)) ∧ w' = w := by
  subst h; exact turned_25 x w
theorem turnRE_25 (x r : W32) (h : rotr x 25 = r) (w : World) : Calls Tryd.prog 44 #[.int .u32 ((x.toNat : Nat) : Int), .int .i64 25] w fun e w' => e = .returned (.int .u32 ((r.toNat : Nat) : Int)) ∧ w' = w.drew := by
  subst h; exact turnR_25 x w
theorem turnQ_25 (x r : W32) (h : rotr x 25 = r) (w : World) : Calls Tryd.prog 44 #[.int .u32 ((x.toNat : Nat) : Int), .int .i64 25] w fun e w' => e = .returned (.int .u32 ((r.toNat : Nat) : Int)) ∧ ∃ m, w' = w.drewN m :=
  (turnRE_25 x r h w).mono fun _ _ ⟨he, hw⟩ => ⟨he, 1, hw⟩
theorem turnedE_2 (x r : W32) (h : rotr x 2 = r) (w : World) : Calls Tryd.prog 54 #[.int .u32 ((x.toNat : Nat) : Int), .int .i64 2] w fun e w' => e = .returned (.int .u32 ((r.toNat : Nat) : Int)) ∧ w' = w := by
  subst h; exact turned_2 x w
theorem turnRE_2 (x r : W32) (h : rotr x 2 = r) (w : World) : Calls Tryd.prog 44 #[.int .u32 ((x.toNat : Nat) : Int), .int .i64 2] w fun e w' => e = .returned (.int .u32 ((r.toNat : Nat) : Int)) ∧ w' = w.drew := by
  subst h; exact turnR_2 x w
theorem turnQ_2 (x r : W32) (h : rotr x 2 = r) (w : World) : Calls Tryd.prog 44 #[.int .u32 ((x.toNat : Nat) : Int), .int .i64 2] w fun e w' => e = .returned (.int .u32 ((r.toNat : Nat) : Int)) ∧ ∃ m, w' = w.drewN m :=
  (turnRE_2 x r h w).mono fun _ _ ⟨he, hw⟩ => ⟨he, 1, hw⟩
theorem turnedE_13 (x r : W32) (h : rotr x 13 = r) (w : World) : Calls Tryd.prog 54 #[.int .u32 ((x.toNat : Nat) : Int), .int .i64 13] w fun e w' => e = .returned (.int .u32 ((r.toNat : Nat) : Int)) ∧ w' = w := by
  subst h; exact turned_13 x w
theorem turnRE_13 (x r : W32) (h : rotr x 13 = r) (w : World) : Calls Tryd.prog 44 #[.int .u32 ((x.toNat : Nat) : Int), .int .i64 13] w fun e w' => e = .returned (.int .u32 ((r.toNat : Nat) : Int)) ∧ w' = w.drew := by
  subst h; exact turnR_13 x w
theorem turnQ_13 (x r : W32) (h : rotr x 13 = r) (w : World) : Calls Tryd.prog 44 #[.int .u32 ((x.toNat : Nat) : Int), .int .i64 13] w fun e w' => e = .returned (.int .u32 ((r.toNat : Nat) : Int)) ∧ ∃ m, w' = w.drewN m :=
  (turnRE_13 x r h w).mono fun _ _ ⟨he, hw⟩ => ⟨he, 1, hw⟩
theorem turnedE_22 (x r : W32) (h : rotr x 22 = r) (w : World) : Calls Tryd.prog 54 #[.int .u32 ((x.toNat : Nat) : Int), .int .i64 22] w fun e w' => e = .returned (.int .u32 ((r.toNat : Nat) : Int)) ∧ w' = w := by
  subst h; exact turned_22 x w
theorem turnRE_22 (x r : W32) (h : rotr x 22 = r) (w : World) : Calls Tryd.prog 44 #[.int .u32 ((x.toNat : Nat) : Int), .int .i64 22] w fun e w' => e = .returned (.int .u32 ((r.toNat : Nat) : Int)) ∧ w' = w.drew := by
  subst h; exact turnR_22 x w
theorem turnQ_22 (x r : W32) (h : rotr x 22 = r) (w : World) : Calls Tryd.prog 44 #[.int .u32 ((x.toNat : Nat) : Int), .int .i64 22] w fun e w' => e = .returned (.int .u32 ((r.toNat : Nat) : Int)) ∧ ∃ m, w' = w.drewN m :=
  (turnRE_22 x r h w).mono fun _ _ ⟨he, hw⟩ => ⟨he, 1, hw⟩
end Go.Proofs.YtinpgnekjebipaaDoor
