/- A row of the call's own whose cells are slices of strings that are read. -/
import Derived.Test.YtoieicdnehnacaaGreatDoorTextW
import Derived.Test.YtoieicdnehnacaaGreatDoorRefL
import Derived.Test.YtoieicdnehnacaaGreatDoorHunk
set_option linter.unusedVariables false
set_option linter.unusedSimpArgs false
namespace Go.Pw
open Go.RowKit
structure RowsR (tSS : TypeId) (w : World) (base : Nat) (v : Value) (vs : List Value) (rs : List (List ByteArray)) : Prop where
  len : vs.length = rs.length
  own : w.ownsRow base tSS 1 v rs.length vs
  el : ∀ (i : Nat) (u : Value) (l : List ByteArray), vs[i]? = some u → rs[i]? = some l → Strs w u l ∧ Lies w u ∧ ∀ q, u.ownBlock = some q → v.ownBlock ≠ some q
theorem alloc_under (w : World) (o : Obj) : Below w.heap.size w (w.alloc o) := (Below.refl _ _).alloc (Nat.le_refl _) o
variable {tSS : TypeId} {w w' : World} {base : Nat} {v : Value} {vs : List Value} {rs : List (List ByteArray)}
theorem RowsR.nil (tSS : TypeId) (w : World) (base : Nat) : RowsR tSS w base (.slice none 0 0) [] [] := ⟨rfl, World.ownsRow_nil _ _ _ _, fun i u l h => by simp at h⟩
theorem RowsR.below (h : RowsR tSS w base v vs rs) (hb : Below w.heap.size w w') : RowsR tSS w' base v vs rs :=
  ⟨h.len, own_below h.own hb, fun i u l hu hl => ⟨(h.el i u l hu hl).1.below hb, fun q hq => Nat.lt_of_lt_of_le ((h.el i u l hu hl).2.1 q hq) hb.size, (h.el i u l hu hl).2.2⟩⟩
theorem RowsR.drewN (h : RowsR tSS w base v vs rs) (n : Nat) : RowsR tSS (w.drewN n) base v vs rs := ⟨h.len, h.own, h.el⟩
theorem RowsR.push {g cap : Nat} {ob : Obj} {u : Value} {l : List ByteArray} (h : RowsR tSS w base v vs rs) (hu : Strs w u l) (hli : Lies w u) (hne : ∀ q, u.ownBlock = some q → v.ownBlock ≠ some q)
    (hown' : w'.ownsRow base tSS 1 (.slice (some ⟨g, 0, none⟩) (rs.length + 1) cap) (rs.length + 1) (vs ++ [u])) (hgrow : (w.alloc ob).grownBy w' v.ownBlock)
    (hat : v.ownBlock = some g ∨ g = w.heap.size + 1) : RowsR tSS w' base (.slice (some ⟨g, 0, none⟩) (rs.length + 1) cap) (vs ++ [u]) (rs ++ [l]) := by
  have key : ∀ (x : Value) (m : List ByteArray), Strs w x m → Lies w x → (∀ q, x.ownBlock = some q → v.ownBlock ≠ some q) → Strs w' x m ∧ Lies w' x ∧ ∀ q, x.ownBlock = some q → (Value.slice (some ⟨g, 0, none⟩) (rs.length + 1) cap).ownBlock ≠ some q := by
    intro x m hx hl hn
    have hz : w.heap.size + 1 ≤ w'.heap.size := by have := hgrow.size; simpa using this
    refine ⟨(hx.alloc ob).grown hgrow hn, fun q hq => by have := hl q hq; omega, fun q hq e => ?_⟩
    injection (show some g = some q from e) with e
    subst e
    rcases hat with hat | hat
    · exact hn g hq hat
    · have := hl g hq; omega
  refine ⟨by simp [h.len], by rw [List.length_append]; exact hown', fun i x m hx hm => ?_⟩
  by_cases hi : i < rs.length
  · rw [List.getElem?_append_left hi] at hm
    rw [List.getElem?_append_left (by rw [h.len]; exact hi)] at hx
    obtain ⟨a, b, c⟩ := h.el i x m hx hm
    exact key x m a b c
  · have hi2 : i = rs.length := by
      have := (List.getElem?_eq_some_iff.1 hm).1
      simp at this; omega
    subst hi2
    rw [List.getElem?_append_right (Nat.le_refl _)] at hm
    rw [List.getElem?_append_right (by rw [h.len]; exact Nat.le_refl _), h.len] at hx
    simp at hm hx
    subst hm; subst hx
    exact key u l hu hli hne
theorem RowsR.cell {g n cap i : Nat} {u : Value} (h : RowsR tSS w base (.slice (some ⟨g, 0, none⟩) n cap) vs rs) (hn : rs.length = n) (hu : vs[i]? = some u) : w.cell? ⟨g, i, none⟩ = some u ∧ w.frozen? ⟨g, i, none⟩ = false := by
  subst hn
  have hi := (List.getElem?_eq_some_iff.1 hu).1
  rw [h.len] at hi
  exact ⟨by rw [World.ownsRow.cellAt h.own i (by omega), hu], World.ownsRow.frozenAt h.own i⟩
theorem linesRes_lies {t : TypeId} {w w' : World} {l : List ByteArray} {v : Value} (h : LinesRes t w l v w') : Lies w' v ∧ ∀ q, v.ownBlock = some q → w.heap.size ≤ q := by
  rcases h with ⟨rfl, rfl, rfl⟩ | ⟨h0, rfl, rfl⟩
  · exact ⟨fun q hq => by simp [Value.ownBlock] at hq, fun q hq => by simp [Value.ownBlock] at hq⟩
  · refine ⟨fun q hq => ?_, fun q hq => ?_⟩
    · injection (show some w.heap.size = some q from hq) with e
      subst e; simp
    · injection (show some w.heap.size = some q from hq) with e
      omega
end Go.Pw
