/- strings.Join: plain; Builder.Grow at a fresh builder. -/
import Derived.Test.YtkikbejpgfhfoaaGreatDoorPasteW
set_option linter.unusedVariables false
set_option linter.unusedSimpArgs false
namespace Go.Pw
open Go.RowKit
/-- the first k words joined -/
def jnP (sep : ByteArray) (l : List ByteArray) : Nat → List UInt8
  | 0 => []
  | k + 1 => jnP sep l k ++ (if k = 0 then [] else sep.data.toList) ++ (l.getD k ⟨#[]⟩).data.toList
def jnB (sep : ByteArray) (l : List ByteArray) : ByteArray := mkB (jnP sep l l.length)
def sumB (l : List ByteArray) : Nat := (l.map ByteArray.size).sum
theorem sumB_snoc (l : List ByteArray) (k : Nat) (h : k < l.length) : sumB (l.take (k + 1)) = sumB (l.take k) + l[k].size := by
  unfold sumB
  rw [List.take_succ_eq_append_getElem h, List.map_append, List.sum_append]; simp
theorem sumB_le (l : List ByteArray) (k : Nat) : sumB (l.take k) ≤ sumB l := by
  have : sumB l = sumB (l.take k) + sumB (l.drop k) := by
    unfold sumB
    rw [← List.sum_append, ← List.map_append, List.take_append_drop]
  omega
theorem jnP_step (sep : ByteArray) (l : List ByteArray) (k : Nat) (h : k < l.length) (h0 : 0 < k) : jnP sep l (k + 1) = jnP sep l k ++ sep.data.toList ++ l[k].data.toList := by
  rw [jnP, if_neg (by omega), show l.getD k ⟨#[]⟩ = l[k] by simp [List.getD, h]]
theorem jnP_one (sep : ByteArray) (l : List ByteArray) (h : 0 < l.length) : jnP sep l 1 = l[0].data.toList := by
  rw [jnP, jnP, if_pos rfl, show l.getD 0 ⟨#[]⟩ = l[0] by simp [List.getD, h]]; simp
theorem jnP_len (sep : ByteArray) (l : List ByteArray) : ∀ k, k ≤ l.length → (jnP sep l k).length = sumB (l.take k) + sep.size * (k - 1)
  | 0, _ => by simp [jnP, sumB]
  | 1, h => by rw [jnP_one sep l (by omega), len_size, sumB_snoc l 0 (by omega)]; simp [sumB]
  | k + 2, h => by
    have ih := jnP_len sep l (k + 1) (by omega)
    rw [jnP_step sep l (k + 1) (by omega) (by omega), List.length_append, List.length_append, ih, len_size, len_size, sumB_snoc l (k + 1) (by omega)]
    have : sep.size * (k + 2 - 1) = sep.size * (k + 1 - 1) + sep.size := by
      rw [show k + 2 - 1 = k + 1 by omega, show k + 1 - 1 = k by omega, Nat.mul_add, Nat.mul_one]
    omega
/-- the words one behind the other -/
theorem jnP_none (l : List ByteArray) : ∀ k, k ≤ l.length → jnP ⟨#[]⟩ l k = ((l.take k).map fun s => s.data.toList).flatten
  | 0, _ => by simp [jnP]
  | k + 1, h => by
    rw [jnP, jnP_none l k (by omega), show l.getD k ⟨#[]⟩ = l[k]'(by omega) by simp [List.getD, show k < l.length by omega], List.take_succ_eq_append_getElem (by omega : k < l.length), List.map_append, List.flatten_append]
    simp
end Go.Pw
namespace Go.Proofs.YtkikbejpgfhfoaaGreatDoor
open Go.RowKit Go.Pw
set_option maxHeartbeats 2000000 in
set_option maxRecDepth 100000 in
theorem bldGrow_in (B b n : Nat) (w : World) (hB : B ≤ b) (hbk : w.heap[b]? = some (.cells #[.pointer (some ⟨b, 0, none⟩), .slice none 0 0] 85 (0, 0))) (hBw : B ≤ w.heap.size) (hn : n ≤ 281474976710656) :
    Calls Tryz.prog 82 #[.pointer (some ⟨b, 0, none⟩), .int .i64 n] w fun e w' => e = .returned (.tuple #[]) ∧ (BldAt B b (.pointer (some ⟨b, 0, none⟩)) [] w' ∧ Below B w w') := by
  obtain ⟨i0, hi, hz0, hz1, hz2⟩ := info_parts infoB
  obtain ⟨cs, hrun, hle, hmax⟩ := Lib.run_makeNoZero (P := Tryz.prog) w.drew #[3] 83 5 Tryz.underlying83 n hn
  have hw : IntKind.i64.wrap (IntKind.i64.wrap 0 + (n : Int)) = n := by
    rw [IntKind.wrap_i64, IntKind.wrap_i64]
    omega
  have hcall : (callFunc 104 #[.int .i64 (IntKind.i64.wrap (IntKind.i64.wrap 0 + (n : Int)))]).run Tryz.prog w.drew = .ok (.value (.slice (some ⟨w.drew.heap.size, 0, none⟩) n cs.size)) (w.drew.drew.drew.alloc (.cells cs 5)) := by
    rw [hw, run_callFunc_extern Tryz.func104 (by kernel_rfl) (by kernel_rfl) (by kernel_rfl) (e := Extern.BytealgMakeNoZero.makeNoZero #[3] #[83]) (by kernel_rfl), hrun]
    rfl
  have hlt : b < w.heap.size := by
    rcases Nat.lt_or_ge b w.heap.size with h' | h'
    · exact h'
    · simp [Array.getElem?_eq_none h'] at hbk
  have c1 : w.drew.cell? ⟨b, 1, none⟩ = some (.slice none 0 0) := by
    have : w.drew.heap[b]? = _ := hbk
    rw [Lib.cell_of_heap this]; rfl
  have c2 : (w.alloc (.cells cs 5)).cell? ⟨b, 1, none⟩ = some (.slice none 0 0) := by
    have : (w.alloc (.cells cs 5)).heap[b]? = _ := (Lib.alloc_old w _ b hlt).trans hbk
    rw [Lib.cell_of_heap this]; rfl
  have f2 : (w.alloc (.cells cs 5)).frozen? ⟨b, 1, none⟩ = false := Lib.frozen_of_heap ((Lib.alloc_old w _ b hlt).trans hbk) 1
  have hcopy : ∀ W : World, (Builtin.copy_ #[83, 83] 3 #[.slice (some ⟨w.heap.size, 0, none⟩) 0 cs.size, .slice none 0 0]).run Tryz.prog W = .ok (goInt 0) W :=
    fun W => run_copy_none W 83 83 3 5 _ _ 0 cs.size 0 0 Tryz.underlying83 (by rw [hi]; exact congrArg some hz1) rfl
  clear hw
  go_enter Tryz.func82, Tryz.ntmps82
  go_wp2
  have hfin := Lib.grown_fresh (T := 85) (e := 5) (cs := cs) hB hbk hBw (hmax (by unfold maxLen; omega)) (by decide)
  rw [World.setCell_alloc_past _ _ _ _ hlt] at hfin
  go_region
  all_goals (go_wp2; go_end0; exact ⟨rfl, hfin⟩)
set_option maxHeartbeats 2000000 in
set_option maxRecDepth 100000 in
/-- Grow, at a builder that has not been written -/
theorem bldGrow_any (B b n : Nat) (w : World) (hB : B ≤ b) (hbk : w.heap[b]? = some (.cells #[.pointer none, .slice none 0 0] 85 (0, 0))) (hBw : B ≤ w.heap.size) (hn : n ≤ 281474976710656) :
    Calls Tryz.prog 66 #[.pointer (some ⟨b, 0, none⟩), .int .i64 n] w fun e w' => e = .returned (.tuple #[]) ∧ (Bld B b [] w' ∧ Below B w w') := by
  have hbk1 : (w.setCell ⟨b, 0, none⟩ (.pointer (some ⟨b, 0, none⟩))).heap[b]? = some (.cells #[.pointer (some ⟨b, 0, none⟩), .slice none 0 0] 85 (0, 0)) := by
    simp [World.setCell, Array.getElem?_modify, hbk]
  have c1 : (w.setCell ⟨b, 0, none⟩ (.pointer (some ⟨b, 0, none⟩))).cell? ⟨b, 1, none⟩ = some (.slice none 0 0) := by rw [Lib.cell_of_heap hbk1]; rfl
  have hb1 : Below B w (w.setCell ⟨b, 0, none⟩ (.pointer (some ⟨b, 0, none⟩))) := (Below.refl B w).setCell (p := ⟨b, 0, none⟩) hB _
  have hU : Lib.BuilderAt 85 5 B b (.pointer (some ⟨b, 0, none⟩)) [] (w.setCell ⟨b, 0, none⟩ (.pointer (some ⟨b, 0, none⟩))) := ⟨hB, .slice none 0 0, hbk1, World.ownsRow_nil _ _ _ _, by simp [Value.ownBlock]⟩
  have c1' : (w.setCell ⟨b, 0, none⟩ (.pointer (some ⟨b, 0, none⟩))).drew.cell? ⟨b, 1, none⟩ = some (.slice none 0 0) := c1
  go_enter Tryz.func66, Tryz.ntmps66
  go_wp2_with (go_at_call 77; refine (copyCheck_fresh b w (by rw [Lib.cell_of_heap hbk]; rfl) (by simp [World.shape?, hbk]) (Lib.frozen_of_heap hbk 0)).mono ?_; rintro e w' ⟨rfl, rfl⟩)
  go_region
  all_goals go_wp2_with (go_at_call 82; refine (bldGrow_in B b n (w.setCell ⟨b, 0, none⟩ (.pointer (some ⟨b, 0, none⟩))).drew hB hbk1 (by simpa [World.setCell, World.drew, -World.drew_eq] using hBw) hn).mono ?_; rintro e w' ⟨rfl, h1, h2⟩)
  all_goals first
    | (go_end0; exact ⟨rfl, Or.inr h1, hb1.drew.trans h2⟩)
    | (go_end0; exact ⟨rfl, Or.inr hU.drew, hb1.drew⟩)
end Go.Proofs.YtkikbejpgfhfoaaGreatDoor
