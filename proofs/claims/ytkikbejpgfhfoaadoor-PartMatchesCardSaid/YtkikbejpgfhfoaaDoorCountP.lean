/- Plain: the counts of a text. -/
import Derived.Test.YtkikbejpgfhfoaaDoorTextW
set_option linter.unusedVariables false
set_option linter.unusedSimpArgs false
namespace Go.Pw
open Go.RowKit
def spB (c : UInt8) : Bool := (decide (9 ≤ c.toNat) && decide (c.toNat ≤ 13)) || decide (c.toNat = 32)
/-- whether a word begins at place k -/
def wbB (l : List UInt8) (k : Nat) : Bool := !spB (l.getD k 0) && (decide (k = 0) || spB (l.getD (k - 1) 0))
def wcN (l : List UInt8) : Nat → Nat
  | 0 => 0
  | k + 1 => wcN l k + (if wbB l k then 1 else 0)
theorem wcN_le (l : List UInt8) : ∀ k, wcN l k ≤ k
  | 0 => Nat.le_refl _
  | k + 1 => by have := wcN_le l k; rw [wcN]; split <;> omega
/-- the length of the longest -/
def mxL : List (List UInt8) → Nat
  | [] => 0
  | x :: l => max x.length (mxL l)
theorem mxL_append (a : List (List UInt8)) (x : List UInt8) : mxL (a ++ [x]) = max (mxL a) x.length := by
  induction a with
  | nil => simp [mxL]
  | cons y a ih => rw [List.cons_append, mxL, ih, mxL]; omega
theorem mxL_ge : ∀ (l cur : List UInt8), cur ≠ [] → cur.length ≤ mxL (lnF cur l)
  | [], cur, h => by rw [lnF, if_neg h]; simp [mxL]
  | c :: l, cur, h => by
    rw [lnF]
    split
    · rw [mxL]; omega
    · have := mxL_ge l (cur ++ [c]) (by simp)
      simp at this; omega
/-- as the reference counts -/
def loF : Nat → Nat → List UInt8 → Nat
  | _, m, [] => m
  | n, m, c :: l => if c = 10 then loF 0 m l else loF (n + 1) (max m (n + 1)) l
theorem loF_mx : ∀ (l cur : List UInt8) (m : Nat), cur.length ≤ m → loF cur.length m l = max m (mxL (lnF cur l))
  | [], cur, m, h => by
    rw [loF, lnF]
    split
    · simp [mxL]
    · simp [mxL]; omega
  | c :: l, cur, m, h => by
    rw [loF, lnF]
    split
    · have := loF_mx l [] m (by simp)
      simp at this
      rw [this, mxL]; omega
    · have := loF_mx l (cur ++ [c]) (max m (cur.length + 1)) (by rw [List.length_append]; exact Nat.le_max_right _ _)
      have h2 := mxL_ge l (cur ++ [c]) (by simp)
      rw [List.length_append] at this
      simp at this h2
      rw [this]; omega
theorem loF_all (l : List UInt8) : loF 0 0 l = mxL (lnF [] l) := by
  have := loF_mx l [] 0 (by simp)
  simp at this
  rw [this]
/-- the greatest size -/
def mxB : List ByteArray → Nat
  | [] => 0
  | x :: l => max x.size (mxB l)
theorem mxB_append (a : List ByteArray) (x : ByteArray) : mxB (a ++ [x]) = max (mxB a) x.size := by
  induction a with
  | nil => simp [mxB]
  | cons y a ih => rw [List.cons_append, mxB, ih, mxB]; omega
theorem mxB_map : ∀ l : List (List UInt8), mxB (l.map mkB) = mxL l
  | [] => rfl
  | x :: l => by rw [List.map_cons, mxB, mxL, mxB_map l, mkB_size]
theorem mxB_lines (s : ByteArray) : mxB (linesOf s) = loF 0 0 s.data.toList := by
  unfold linesOf
  rw [mxB_map, loF_all]
theorem mxB_le {l : List ByteArray} {M : Nat} (h : ∀ s ∈ l, s.size ≤ M) : mxB l ≤ M := by
  induction l with
  | nil => exact Nat.zero_le _
  | cons x l ih =>
    have h1 := h x (by simp)
    have h2 := ih fun s hs => h s (List.mem_cons_of_mem x hs)
    rw [mxB]; omega
/-- the four counts -/
structure Cts where
  lines : Nat
  words : Nat
  bytes : Nat
  long : Nat
def Cts.cells (c : Cts) : Array Value := #[.int .i64 (c.lines : Int), .int .i64 (c.words : Int), .int .i64 (c.bytes : Int), .int .i64 (c.long : Int)]
def ctsOf (s : ByteArray) : Cts := ⟨s.data.toList.count 10, wcN s.data.toList s.size, s.size, mxB (linesOf s)⟩
def CtAt (w : World) (b : Nat) (T : TypeId) (c : Cts) : Prop := w.heap[b]? = some (.cells c.cells T (0, 0))
theorem CtAt.cells {w : World} {b : Nat} {T : TypeId} {c : Cts} (h : CtAt w b T c) : w.cell? ⟨b, 0, none⟩ = some (.int .i64 (c.lines : Int)) ∧ w.cell? ⟨b, 1, none⟩ = some (.int .i64 (c.words : Int)) ∧ w.cell? ⟨b, 2, none⟩ = some (.int .i64 (c.bytes : Int)) ∧ w.cell? ⟨b, 3, none⟩ = some (.int .i64 (c.long : Int)) := by
  unfold CtAt at h
  simp [World.cell?, h, Cts.cells]
theorem CtAt.frozen {w : World} {b : Nat} {T : TypeId} {c : Cts} (h : CtAt w b T c) (j : Nat) : w.frozen? ⟨b, j, none⟩ = false := by
  unfold CtAt at h
  simp [World.frozen?, h]
theorem CtAt.below {w w' : World} {b : Nat} {T : TypeId} {c : Cts} (h : CtAt w b T c) (hb : Below w.heap.size w w') : CtAt w' b T c := by
  have hlt : b < w.heap.size := by
    rcases Nat.lt_or_ge b w.heap.size with h' | h'
    · exact h'
    · simp [CtAt, Array.getElem?_eq_none h'] at h
  exact (hb.block b hlt).trans h
theorem CtAt.set1 {w : World} {b : Nat} {T : TypeId} {c : Cts} (h : CtAt w b T c) (n : Nat) : CtAt (w.setCell ⟨b, 1, none⟩ (.int .i64 (n : Int))) b T { c with words := n } := by
  unfold CtAt at h ⊢
  simp [World.setCell, Array.getElem?_modify, h, Cts.cells]
theorem CtAt.set0 {w : World} {b : Nat} {T : TypeId} {c : Cts} (h : CtAt w b T c) (n : Nat) : CtAt (w.setCell ⟨b, 0, none⟩ (.int .i64 (n : Int))) b T { c with lines := n } := by
  unfold CtAt at h ⊢
  simp [World.setCell, Array.getElem?_modify, h, Cts.cells]
theorem CtAt.set3 {w : World} {b : Nat} {T : TypeId} {c : Cts} (h : CtAt w b T c) (n : Nat) : CtAt (w.setCell ⟨b, 3, none⟩ (.int .i64 (n : Int))) b T { c with long := n } := by
  unfold CtAt at h ⊢
  simp [World.setCell, Array.getElem?_modify, h, Cts.cells]
theorem CtAt.other {w : World} {b : Nat} {T : TypeId} {c : Cts} (h : CtAt w b T c) {p : Addr} (hp : p.block ≠ b) (v : Value) : CtAt (w.setCell p v) b T c := by
  unfold CtAt at h ⊢
  rw [← h]
  exact Below.heap_setCell _ _ _ _ (fun e => hp e.symm)
end Go.Pw
