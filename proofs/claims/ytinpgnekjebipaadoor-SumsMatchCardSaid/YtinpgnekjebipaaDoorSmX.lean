/- The reference's digest: its constants. -/
import Derived.Test.YtinpgnekjebipaaDoorSmR
import Derived.Test.YtinpgnekjebipaaDoorSmG
set_option linter.unusedVariables false
set_option linter.unusedSimpArgs false
namespace Go.Pw
open Go.RowKit
/-- the constants so far, and zeros -/
def kTo (c : Nat) : List W32 := (shaK.take c).map (fun n : Nat => BitVec.ofNat 32 n) ++ List.replicate (64 - c) 0#32
def hTo (c : Nat) : List W32 := (shaH.take c).map (fun n : Nat => BitVec.ofNat 32 n) ++ List.replicate (8 - c) 0#32
theorem shaK_len : shaK.length = 64 := by decide
theorem shaH_len : shaH.length = 8 := by decide
theorem kTo_at {c : Nat} (h : c < 64) : (kTo c)[c]? = some 0#32 := by
  unfold kTo
  have hl : ((shaK.take c).map (fun n : Nat => BitVec.ofNat 32 n)).length = c := by rw [List.length_map, List.length_take, shaK_len]; omega
  rw [List.getElem?_append_right (by omega), hl, Nat.sub_self, show 64 - c = (63 - c) + 1 by omega, List.replicate_succ]; rfl
theorem kTo_set {c : Nat} (h : c < 64) : (kTo c).set c (BitVec.ofNat 32 (shaK.getD c 0)) = kTo (c + 1) := by
  unfold kTo
  have hl : ((shaK.take c).map (fun n : Nat => BitVec.ofNat 32 n)).length = c := by rw [List.length_map, List.length_take, shaK_len]; omega
  have hc : c < shaK.length := by rw [shaK_len]; exact h
  rw [List.set_append_right _ _ (by omega), hl, Nat.sub_self, show 64 - c = (63 - c) + 1 by omega, List.replicate_succ, List.set_cons_zero, List.take_succ_eq_append_getElem hc, List.map_append, List.append_assoc, List.getD_eq_getElem?_getD, List.getElem?_eq_getElem hc, show 64 - (c + 1) = 63 - c by omega]; rfl
theorem hTo_at {c : Nat} (h : c < 8) : (hTo c)[c]? = some 0#32 := by
  unfold hTo
  have hl : ((shaH.take c).map (fun n : Nat => BitVec.ofNat 32 n)).length = c := by rw [List.length_map, List.length_take, shaH_len]; omega
  rw [List.getElem?_append_right (by omega), hl, Nat.sub_self, show 8 - c = (7 - c) + 1 by omega, List.replicate_succ]; rfl
theorem hTo_set {c : Nat} (h : c < 8) : (hTo c).set c (BitVec.ofNat 32 (shaH.getD c 0)) = hTo (c + 1) := by
  unfold hTo
  have hl : ((shaH.take c).map (fun n : Nat => BitVec.ofNat 32 n)).length = c := by rw [List.length_map, List.length_take, shaH_len]; omega
  have hc : c < shaH.length := by rw [shaH_len]; exact h
  rw [List.set_append_right _ _ (by omega), hl, Nat.sub_self, show 8 - c = (7 - c) + 1 by omega, List.replicate_succ, List.set_cons_zero, List.take_succ_eq_append_getElem hc, List.map_append, List.append_assoc, List.getD_eq_getElem?_getD, List.getElem?_eq_getElem hc, show 8 - (c + 1) = 7 - c by omega]; rfl
theorem hTo_end : hTo 8 = start8.list := by decide
theorem sha_lt : (∀ c, shaK.getD c 0 < 4294967296) ∧ (∀ c, shaH.getD c 0 < 4294967296) := by
  have key : ∀ l : List Nat, (∀ x ∈ l, x < 4294967296) → ∀ c, l.getD c 0 < 4294967296 := fun l h c => by
    rw [List.getD_eq_getElem?_getD]
    cases e : l[c]? with
    | none => simp
    | some x => exact h x (List.mem_of_getElem? e)
  exact ⟨key shaK (by decide), key shaH (by decide)⟩
theorem cnt_le : ∀ n < 313, cntP n ≤ 64 := by decide +kernel
theorem cnt_less : ∀ n < 312, cntP n < 64 := fun n h => (cnt_step n h).2
end Go.Pw
namespace Go.Proofs.YtinpgnekjebipaaDoor
open Go.RowKit Go.Pw
theorem kTo_end : kTo 64 = keysL := by
  unfold kTo keysL
  rw [List.take_of_length_le (by rw [shaK_len]; exact Nat.le_refl _)]; simp
/-- a constant of the rounds -/
theorem frac3 (n : Nat) (w : World) (hn : n < 312) (hp : prB n = true) : Calls Tryd.prog 43 #[.int .i64 (n : Int), .int .i64 3] w fun e w' => e = .returned (.int .u32 (((BitVec.ofNat 32 (shaK.getD (cntP n) 0)).toNat : Nat) : Int)) ∧ Below w.heap.size w w' := by
  refine (fraction_any n 3 (.inr rfl) w (by omega)).mono ?_
  rintro e w' ⟨⟨R, rfl, h1, h2⟩, hb⟩
  obtain ⟨t1, t2, t3⟩ := cnt_roots n hn hp
  have hR := root_unique h1 h2 t1 t2
  refine ⟨?_, hb⟩
  rw [hR, BitVec.toNat_ofNat, Nat.mod_eq_of_lt (sha_lt.1 _), ← t3]
/-- a constant of the start -/
theorem frac2 (n : Nat) (w : World) (hn : n < 312) (hp : prB n = true) (hc : cntP n < 8) : Calls Tryd.prog 43 #[.int .i64 (n : Int), .int .i64 2] w fun e w' => e = .returned (.int .u32 (((BitVec.ofNat 32 (shaH.getD (cntP n) 0)).toNat : Nat) : Int)) ∧ Below w.heap.size w w' := by
  refine (fraction_any n 2 (.inl rfl) w (by omega)).mono ?_
  rintro e w' ⟨⟨R, rfl, h1, h2⟩, hb⟩
  obtain ⟨t1, t2, t3⟩ := cnt_roots2 n hn hp hc
  have hR := root_unique h1 h2 t1 t2
  refine ⟨?_, hb⟩
  rw [hR, BitVec.toNat_ofNat, Nat.mod_eq_of_lt (sha_lt.2 _), ← t3]
end Go.Proofs.YtinpgnekjebipaaDoor
