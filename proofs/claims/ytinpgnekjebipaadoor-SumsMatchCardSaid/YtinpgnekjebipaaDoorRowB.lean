/- A row of bytes made of a string. -/
import Derived.Test.YtinpgnekjebipaaDoorMem
import Derived.Laws.IdiomStrings
import Derived.Lib.Builder
set_option linter.unusedVariables false
set_option linter.unusedSimpArgs false
namespace Go.Pw
open Go.RowKit
/-- a row of bytes that may be written -/
def RowB (w : World) (b : Nat) (l : List UInt8) : Prop := b < w.heap.size ∧ ∀ j c, l[j]? = some c → w.cell? ⟨b, j, none⟩ = some (.int .u8 (c.toNat : Int)) ∧ w.frozen? ⟨b, j, none⟩ = false
theorem RowB.set {w : World} {b k : Nat} {l : List UInt8} (h : RowB w b l) (hk : k < l.length) (c : UInt8) : RowB (w.setCell ⟨b, k, none⟩ (.int .u8 (c.toNat : Int))) b (l.set k c) := by
  refine ⟨by simpa [World.setCell] using h.1, fun j x hx => ?_⟩
  by_cases e : k = j
  · subst e
    rw [List.getElem?_set_self hk] at hx
    injection hx with hx
    subst hx
    obtain ⟨h1, h2⟩ := h.2 k _ (List.getElem?_eq_getElem hk)
    exact ⟨World.cell?_setCell_same _ _ _ h1, by simpa using h2⟩
  · rw [List.getElem?_set_ne e] at hx
    obtain ⟨h1, h2⟩ := h.2 j x hx
    exact ⟨(World.cell?_setCell_other _ _ _ _ (by intro h; injection h with _ h _; omega)).trans h1, by simpa using h2⟩
theorem row_of_string {P : Program} (w : World) (src dst e : TypeId) (s : ByteArray) (hs : P.underlying src = some .string) (hd : P.underlying dst = some (.slice e)) (he : P.underlying e = some (.int .u8)) :
    ∃ (cap : Nat) (w1 : World), (convert src dst (.string s)).run P w = .ok (.slice (some ⟨w.heap.size, 0, none⟩) s.size cap) w1 ∧ s.size ≤ cap ∧ RowB w1 w.heap.size s.data.toList ∧ Below w.heap.size w w1 := by
  refine ⟨_, _, run_bytes_of_string w src dst e s hs hd he, ?_, ⟨?_, ?_⟩, ?_⟩
  · exact grownCap_ge _ _ _ _
  · simp
  · intro j c hj
    have hjl : j < s.data.toList.length := (List.getElem?_eq_some_iff.1 hj).1
    have hjs : j < s.data.size := by simpa using hjl
    have hc : s.data[j] = c := by
      have := (List.getElem?_eq_some_iff.1 hj).2
      simpa using this
    have hn := heap_alloc_new w.drew (.cells (bytesRow s (grownCap w s.size 0 e)) e ((bytesRow s (grownCap w s.size 0 e)).size, (bytesRow s (grownCap w s.size 0 e)).size + 1))
    have hsz : j < (bytesRow s (grownCap w s.size 0 e)).size := by
      have h2 : s.size = s.data.size := rfl
      unfold bytesRow; simp; omega
    refine ⟨?_, ?_⟩
    · have hn' : (w.drew.alloc (.cells (bytesRow s (grownCap w s.size 0 e)) e ((bytesRow s (grownCap w s.size 0 e)).size, (bytesRow s (grownCap w s.size 0 e)).size + 1))).heap[w.heap.size]? = some (.cells (bytesRow s (grownCap w s.size 0 e)) e ((bytesRow s (grownCap w s.size 0 e)).size, (bytesRow s (grownCap w s.size 0 e)).size + 1)) := hn
      rw [Lib.cell_of_heap hn']
      unfold bytesRow
      have h2 : j < s.size := hjs
      simp [Array.getElem?_append, h2, Array.getElem?_eq_getElem hjs, hc]
    · have hn' : (w.drew.alloc (.cells (bytesRow s (grownCap w s.size 0 e)) e ((bytesRow s (grownCap w s.size 0 e)).size, (bytesRow s (grownCap w s.size 0 e)).size + 1))).heap[w.heap.size]? = some (.cells (bytesRow s (grownCap w s.size 0 e)) e ((bytesRow s (grownCap w s.size 0 e)).size, (bytesRow s (grownCap w s.size 0 e)).size + 1)) := hn
      unfold World.frozen?
      simp only [hn']
      simp
      omega
  · exact (Below.drew (Below.refl _ _)).alloc (Nat.le_refl _) _
end Go.Pw
