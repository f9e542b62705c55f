/- Printf: what formatBits needs: the table of TrailingZeros, its array of 65 bytes, masks. -/
import Derived.Test.YtinpgnekjebipaaDoorBasP
import Derived.Test.YtinpgnekjebipaaDoorShelf
import Derived.Laws.BitsAll
set_option linter.unusedVariables false
set_option linter.unusedSimpArgs false
namespace Go.Pw
open Go.RowKit
theorem and_m7 (v : Nat) (hv : v < 18446744073709551616) : bits BinOp.and .u64 (v : Int) 7 = ((v % 8 : Nat) : Int) := by
  go_bits2
theorem and_m15 (v : Nat) (hv : v < 18446744073709551616) : bits BinOp.and .u64 (v : Int) 15 = ((v % 16 : Nat) : Int) := by
  go_bits2
theorem digs_fin : ∀ r : Fin 16, (⟨#[48, 49, 50, 51, 52, 53, 54, 55, 56, 57, 97, 98, 99, 100, 101, 102, 103, 104, 105, 106, 107, 108, 109, 110, 111, 112, 113, 114, 115, 116, 117, 118, 119, 120, 121, 122]⟩ : ByteArray)[r.val]'(Nat.lt_of_lt_of_le r.isLt (by decide)) = dgc r.val := by decide +kernel
theorem digs_at (r : Nat) (h : r < 16) {h2 : r < 36} : (⟨#[48, 49, 50, 51, 52, 53, 54, 55, 56, 57, 97, 98, 99, 100, 101, 102, 103, 104, 105, 106, 107, 108, 109, 110, 111, 112, 113, 114, 115, 116, 117, 118, 119, 120, 121, 122]⟩ : ByteArray)[r]'h2 = dgc r := digs_fin ⟨r, h⟩
def zeros65 : Array Value := #[Value.int .u8 0, Value.int .u8 0, Value.int .u8 0, Value.int .u8 0, Value.int .u8 0, Value.int .u8 0, Value.int .u8 0, Value.int .u8 0, Value.int .u8 0, Value.int .u8 0, Value.int .u8 0, Value.int .u8 0, Value.int .u8 0, Value.int .u8 0, Value.int .u8 0, Value.int .u8 0, Value.int .u8 0, Value.int .u8 0, Value.int .u8 0, Value.int .u8 0, Value.int .u8 0, Value.int .u8 0, Value.int .u8 0, Value.int .u8 0, Value.int .u8 0, Value.int .u8 0, Value.int .u8 0, Value.int .u8 0, Value.int .u8 0, Value.int .u8 0, Value.int .u8 0, Value.int .u8 0, Value.int .u8 0, Value.int .u8 0, Value.int .u8 0, Value.int .u8 0, Value.int .u8 0, Value.int .u8 0, Value.int .u8 0, Value.int .u8 0, Value.int .u8 0, Value.int .u8 0, Value.int .u8 0, Value.int .u8 0, Value.int .u8 0, Value.int .u8 0, Value.int .u8 0, Value.int .u8 0, Value.int .u8 0, Value.int .u8 0, Value.int .u8 0, Value.int .u8 0, Value.int .u8 0, Value.int .u8 0, Value.int .u8 0, Value.int .u8 0, Value.int .u8 0, Value.int .u8 0, Value.int .u8 0, Value.int .u8 0, Value.int .u8 0, Value.int .u8 0, Value.int .u8 0, Value.int .u8 0, Value.int .u8 0]
/-- the array of 65 bytes in its block: the cells from k on hold s -/
structure FbW (w0 : World) (s : List UInt8) (k : Nat) (w : World) : Prop where
  bel : Below w0.heap.size w0 w
  cell : ∀ j, j < 65 → ∃ x, w.cell? ⟨w0.heap.size, j, none⟩ = some x
  frozen : ∀ j, w.frozen? ⟨w0.heap.size, j, none⟩ = false
  reads : ∀ j (h : j < s.length), w.cell? ⟨w0.heap.size, k + j, none⟩ = some (.int .u8 (s[j].toNat : Int))
theorem FbW.start (w : World) (t : TypeId) : FbW w [] 65 (w.alloc (.cells zeros65 t)) := by
  refine ⟨(Below.refl _ w).alloc (Nat.le_refl _) _, fun j hj => ?_, fun j => World.frozen?_alloc_new _ _ _ _, fun j h => by simp at h⟩
  rw [World.cell?_alloc_new]
  have e : zeros65 = Array.replicate 65 (.int .u8 0) := rfl
  exact ⟨.int .u8 0, by rw [e]; simp [hj]⟩
theorem FbW.step {w0 w : World} {s : List UInt8} {m : Nat} (h : FbW w0 s (m + 1) w) (c : UInt8) (hm : m < 65) : FbW w0 (c :: s) m (w.setCell ⟨w0.heap.size, m, none⟩ (.int .u8 (c.toNat : Int))) := by
  obtain ⟨h1, h2, h3, h4⟩ := h
  obtain ⟨old, ho⟩ := h2 m hm
  refine ⟨h1.setCell (Nat.le_refl _) _, fun j hj => ?_, fun j => by rw [World.frozen?_setCell]; exact h3 j, fun j hj => ?_⟩
  · by_cases e : j = m
    · subst e; exact ⟨_, World.cell?_setCell_same _ _ _ ho⟩
    · obtain ⟨x, hx⟩ := h2 j hj
      exact ⟨x, by rw [World.cell?_setCell_other _ _ _ _ (by simp; try omega)]; exact hx⟩
  · cases j with
    | zero => exact World.cell?_setCell_same _ _ _ ho
    | succ i =>
      rw [World.cell?_setCell_other _ _ _ _ (by simp; try omega), List.getElem_cons_succ, show m + (i + 1) = m + 1 + i by omega]
      exact h4 i (by simpa using hj)
end Go.Pw
namespace Go.Proofs.YtinpgnekjebipaaDoor
open Go.RowKit Go.Pw Go.Shelf
/-- the cells of the table that TrailingZeros reads -/
structure TzT (w : World) : Prop where
  c8 : w.cell? ⟨5, 7, none⟩ = some (.int .u8 3)
  c16 : w.cell? ⟨5, 15, none⟩ = some (.int .u8 4)
theorem TzT.below {w w' : World} (h : TzT w) (hb : Below w.heap.size w w') : TzT w' :=
  ⟨(hb.cell (p := ⟨_, 7, none⟩) (World.block_lt_of_cell? w _ h.c8)).trans h.c8, (hb.cell (p := ⟨_, 15, none⟩) (World.block_lt_of_cell? w _ h.c16)).trans h.c16⟩
end Go.Proofs.YtinpgnekjebipaaDoor
