/- Rows of strings that a call builds, each in a block of its own, and hunks made of them. Plain lemmas; no program in sight. -/
import Derived.Test.YtinpgnekjebipaaDoorUrP
import Derived.Deep.OwnRows
import Derived.Laws.OwnMore
import Derived.Maps.AppendAt
import Derived.OneCell
set_option linter.unusedVariables false
set_option linter.unusedSimpArgs false
namespace Go.Pw
open Go.RowKit
/-- an own row stays what it is where its block does -/
theorem own_kept {w w' : World} {base : Nat} {e : TypeId} {size : Nat} {v : Value} {n : Nat} {xs : List Value} (h : w.ownsRow base e size v n xs) (hk : ∀ g, v.ownBlock = some g → g < w.heap.size → w'.heap[g]? = w.heap[g]?) : w'.ownsRow base e size v n xs := by
  refine ⟨h.1, ?_⟩
  rcases h.2 with h2 | ⟨g, cap, cur, hv, hg, hh, r⟩
  · exact .inl h2
  · exact .inr ⟨g, cap, cur, hv, hg, (hk g (by rw [hv]; rfl) (Array.getElem?_eq_some_iff.1 hh).1).trans hh, r⟩
theorem own_type' {w : World} {base : Nat} {e : TypeId} {size : Nat} {v : Value} {n : Nat} {xs : List Value} (h : w.ownsRow base e size v n xs) {g : Nat} (hg : v.ownBlock = some g) : ∃ cs, w.heap[g]? = some (.cells cs e (0, 0)) := by
  rcases h.2 with ⟨rfl, _⟩ | ⟨g', cap, cur, rfl, _, hh, _⟩
  · cases hg
  · obtain rfl : g' = g := by simpa [Value.ownBlock] using hg
    exact ⟨cur, hh⟩
/-- blocks of two types are two -/
theorem two_types {w : World} {g k : Nat} {c d : Array Value} {s t : TypeId} {x y : Nat × Nat} (h1 : w.heap[g]? = some (.cells c s x)) (h2 : w.heap[k]? = some (.cells d t y)) (hne : s ≠ t) : g ≠ k := fun e => by
  subst e
  rw [h1] at h2
  injection h2 with h2
  injection h2 with _ h2
  exact hne h2

abbrev RowV := Value × List ByteArray
def Apart (r s : RowV) : Prop := ∀ g, r.1.ownBlock = some g → s.1.ownBlock ≠ some g
theorem Apart.symm {r s : RowV} (h : Apart r s) : Apart s r := fun g h1 h2 => h g h2 h1
/-- rows of strings in blocks of their own, from block base on -/
structure RowsOwn (w : World) (t : TypeId) (base : Nat) (rows : List RowV) : Prop where
  own : ∀ r ∈ rows, w.ownsRow base t 1 r.1 r.2.length (r.2.map Value.string)
  apart : rows.Pairwise Apart
theorem RowsOwn.perm {w : World} {t : TypeId} {base : Nat} {l m : List RowV} (h : RowsOwn w t base l) (hp : l.Perm m) : RowsOwn w t base m :=
  ⟨fun r hr => h.own r (hp.mem_iff.2 hr), (hp.pairwise_iff (fun h => h.symm)).1 h.apart⟩
theorem RowsOwn.kept {w w' : World} {t : TypeId} {base : Nat} {l : List RowV} (h : RowsOwn w t base l) (hk : ∀ g cs, w.heap[g]? = some (.cells cs t (0, 0)) → base ≤ g → w'.heap[g]? = w.heap[g]?) : RowsOwn w' t base l :=
  ⟨fun r hr => own_kept (h.own r hr) fun g hg _ => by
    obtain ⟨cs, hc⟩ := own_type' (h.own r hr) hg
    exact hk g cs hc (own_ge (h.own r hr) g hg), h.apart⟩
theorem RowsOwn.below {w w' : World} {t : TypeId} {base : Nat} {l : List RowV} (h : RowsOwn w t base l) (hb : Below w.heap.size w w') : RowsOwn w' t base l :=
  h.kept fun g cs hc _ => hb.block g (Array.getElem?_eq_some_iff.1 hc).1
theorem RowsOwn.tail {w : World} {t : TypeId} {base : Nat} {r : RowV} {l : List RowV} (h : RowsOwn w t base (r :: l)) : RowsOwn w t base l :=
  ⟨fun s hs => h.own s (by simp [hs]), (List.pairwise_cons.1 h.apart).2⟩
theorem RowsOwn.nil (w : World) (t : TypeId) (base : Nat) : RowsOwn w t base [] := ⟨by simp, .nil⟩
/-- an empty row more -/
theorem RowsOwn.empty {w : World} {t : TypeId} {base : Nat} {l : List RowV} (h : RowsOwn w t base l) : RowsOwn w t base ((.slice none 0 0, []) :: l) := by
  refine ⟨fun r hr => ?_, List.pairwise_cons.2 ⟨fun s _ g hg => by simp [Value.ownBlock] at hg, h.apart⟩⟩
  rcases List.mem_cons.1 hr with hr | hr
  · subst hr; exact World.ownsRow_nil _ _ _ _
  · exact h.own r hr
/-- a row more, in a block that was not there -/
theorem RowsOwn.fresh {w w' : World} {t : TypeId} {base : Nat} {l : List RowV} (h : RowsOwn w t base l) (hb : Below w.heap.size w w') {v : Value} {x : List ByteArray} (ho : w'.ownsRow base t 1 v x.length (x.map Value.string)) (hf : ∀ g, v.ownBlock = some g → w.heap.size ≤ g) : RowsOwn w' t base ((v, x) :: l) := by
  have h' := h.below hb
  refine ⟨fun r hr => ?_, List.pairwise_cons.2 ⟨fun s hs g hg hg2 => ?_, h'.apart⟩⟩
  · rcases List.mem_cons.1 hr with hr | hr
    · subst hr; exact ho
    · exact h'.own r hr
  · have h1 := hf g hg
    have h2 := own_lt (h.own s hs) g hg2
    omega
/-- the first row is written -/
theorem RowsOwn.write {w w' : World} {t : TypeId} {base : Nat} {v : Value} {x : List ByteArray} {l : List RowV} (h : RowsOwn w t base ((v, x) :: l)) (hg : w.grownBy w' v.ownBlock) {v' : Value} {x' : List ByteArray}
    (ho : w'.ownsRow base t 1 v' x'.length (x'.map Value.string)) (hat : ∀ g, v'.ownBlock = some g → v.ownBlock = some g ∨ w.heap.size ≤ g) : RowsOwn w' t base ((v', x') :: l) := by
  have hp := List.pairwise_cons.1 h.apart
  have hk : ∀ s ∈ l, ∀ g, s.1.ownBlock = some g → g < w.heap.size → w'.heap[g]? = w.heap[g]? := fun s hs g hsg hlt => hg.block g hlt (fun e => hp.1 s hs g e.symm hsg)
  refine ⟨fun r hr => ?_, List.pairwise_cons.2 ⟨fun s hs g hg1 hg2 => ?_, hp.2⟩⟩
  · rcases List.mem_cons.1 hr with hr | hr
    · subst hr; exact ho
    · exact own_kept (h.own r (by simp [hr])) (hk r hr)
  · rcases hat g hg1 with e | e
    · exact hp.1 s hs g e hg2
    · have := own_lt (h.own s (by simp [hs])) g hg2
      omega

/-- the rows of hunks -/
def flat : List Hk → List (Value × Value) → List RowV
  | h :: hs, v :: vs => (v.1, h.old) :: (v.2, h.new) :: flat hs vs
  | _, _ => []
theorem flat_snoc : ∀ (hs : List Hk) (vs : List (Value × Value)), vs.length = hs.length → ∀ (h : Hk) (o n : Value), flat (hs ++ [h]) (vs ++ [(o, n)]) = flat hs vs ++ [(o, h.old), (n, h.new)]
  | [], [], _, h, o, n => rfl
  | g :: hs, v :: vs, e, h, o, n => by simp at e; simp [flat, flat_snoc hs vs e h o n]
  | [], v :: vs, e, _, _, _ => by simp at e
  | g :: hs, [], e, _, _, _ => by simp at e
theorem flat_mem : ∀ {hs : List Hk} {vs : List (Value × Value)} {i : Nat} {h : Hk} {o n : Value}, hs[i]? = some h → vs[i]? = some (o, n) → (o, h.old) ∈ flat hs vs ∧ (n, h.new) ∈ flat hs vs
  | g :: hs, v :: vs, 0, h, o, n, e1, e2 => by
    simp at e1 e2
    subst e1 e2
    simp [flat]
  | g :: hs, v :: vs, i + 1, h, o, n, e1, e2 => by
    obtain ⟨a, b⟩ := flat_mem (hs := hs) (vs := vs) (i := i) (by simpa using e1) (by simpa using e2)
    simp [flat, a, b]
  | [], _, _, _, _, _, e1, _ => by simp at e1
  | g :: hs, [], _, _, _, _, _, e2 => by simp at e2

/-- hunks that the call builds, and one row beside them -/
structure HkOwn (w : World) (tH tS : TypeId) (base : Nat) (hv : Value) (hs : List Hk) (vs : List (Value × Value)) (cv : Value) (cx : List ByteArray) : Prop where
  len : vs.length = hs.length
  row : w.ownsRow base tH 4 hv hs.length (hkCells hs vs)
  rows : RowsOwn w tS base ((cv, cx) :: flat hs vs)
section
variable {w w' : World} {tH tS : TypeId} {base : Nat} {hv cv : Value} {hs : List Hk} {vs : List (Value × Value)} {cx : List ByteArray}
theorem HkOwn.zero (w : World) (tH tS : TypeId) (base : Nat) : HkOwn w tH tS base (.slice none 0 0) [] [] (.slice none 0 0) [] := ⟨rfl, World.ownsRow_nil _ _ _ _, (RowsOwn.nil _ _ _).empty⟩
theorem HkOwn.below (h : HkOwn w tH tS base hv hs vs cv cx) (hb : Below w.heap.size w w') : HkOwn w' tH tS base hv hs vs cv cx := ⟨h.len, own_below h.row hb, h.rows.below hb⟩
/-- a cell of another type is written -/
theorem HkOwn.set (h : HkOwn w tH tS base hv hs vs cv cx) {p : Addr} {c : Array Value} {t : TypeId} (hp : w.heap[p.block]? = some (.cells c t (0, 0))) (h1 : t ≠ tH) (h2 : t ≠ tS) (u : Value) : HkOwn (w.setCell p u) tH tS base hv hs vs cv cx := by
  refine ⟨h.len, own_kept h.row fun g hg _ => ?_, h.rows.kept fun g cs hc _ => ?_⟩
  · obtain ⟨cs, hc⟩ := own_type' h.row hg
    exact Below.heap_setCell _ _ _ _ (two_types hc hp (Ne.symm h1))
  · exact Below.heap_setCell _ _ _ _ (two_types hc hp (Ne.symm h2))
theorem HkOwn.read (h : HkOwn w tH tS base hv hs vs cv cx) (hok : ∀ h ∈ hs, h.ok ∧ (∀ s ∈ h.old, s.size ≤ maxLen) ∧ ∀ s ∈ h.new, s.size ≤ maxLen) : Hunks w hv hs := by
  refine ⟨vs, h.len, .of_own h.row, fun g hg => (hok g hg).1, fun i g o n e1 e2 => ?_⟩
  obtain ⟨m1, m2⟩ := flat_mem e1 e2
  have hm := List.mem_of_getElem? e1
  exact ⟨⟨.of_own (h.rows.own _ (List.mem_cons_of_mem _ m1)), (hok g hm).2.1⟩, .of_own (h.rows.own _ (List.mem_cons_of_mem _ m2)), (hok g hm).2.2⟩
/-- the row beside is let go -/
theorem HkOwn.drop (h : HkOwn w tH tS base hv hs vs cv cx) : HkOwn w tH tS base hv hs vs (.slice none 0 0) [] := ⟨h.len, h.row, h.rows.tail.empty⟩
/-- the row beside is written -/
theorem HkOwn.side (hne : tH ≠ tS) (h : HkOwn w tH tS base hv hs vs cv cx) (hg : w.grownBy w' cv.ownBlock) {cv' : Value} {cx' : List ByteArray} (ho : w'.ownsRow base tS 1 cv' cx'.length (cx'.map Value.string))
    (hat : ∀ g, cv'.ownBlock = some g → cv.ownBlock = some g ∨ w.heap.size ≤ g) : HkOwn w' tH tS base hv hs vs cv' cx' := by
  refine ⟨h.len, own_kept h.row fun g hgv hlt => hg.block g hlt fun e => ?_, h.rows.write hg ho hat⟩
  obtain ⟨cs, hc⟩ := own_type' h.row hgv
  obtain ⟨ds, hd⟩ := own_type' (h.rows.own _ (List.mem_cons_self ..)) e.symm
  exact two_types hc hd hne rfl
end
/-- one hunk more: its slices lie in blocks that were not there, or in none -/
theorem HkOwn.push {w w1 w2 : World} {tH tS : TypeId} {base : Nat} {hv hv' cv : Value} {hs : List Hk} {vs : List (Value × Value)} {cx : List ByteArray} (hne : tH ≠ tS) (h : HkOwn w tH tS base hv hs vs cv cx) (hb : Below w.heap.size w w1) {o n : Value} {g : Hk}
    (hr : RowsOwn w1 tS base ((o, g.old) :: (n, g.new) :: (cv, cx) :: flat hs vs)) (hrow : w2.ownsRow base tH 4 hv' (hs.length + 1) (hkCells hs vs ++ [.int .i64 g.frm, .int .i64 g.to_, o, n])) (hg : w1.grownBy w2 hv.ownBlock) :
    HkOwn w2 tH tS base hv' (hs ++ [g]) (vs ++ [(o, n)]) cv cx := by
  refine ⟨by simp [h.len], ?_, ?_⟩
  · rw [hkCells_snoc _ _ h.len, List.length_append]; exact hrow
  · rw [flat_snoc _ _ h.len]
    have hr2 : RowsOwn w2 tS base ((o, g.old) :: (n, g.new) :: (cv, cx) :: flat hs vs) := hr.kept fun k cs hc hk => by
      refine hg.block k (Array.getElem?_eq_some_iff.1 hc).1 fun e => ?_
      obtain ⟨ds, hd⟩ := own_type' (own_below h.row hb) e.symm
      exact two_types hd hc hne rfl
    refine hr2.perm ?_
    have e : ((o, g.old) :: (n, g.new) :: (cv, cx) :: flat hs vs) = [(o, g.old), (n, g.new)] ++ ((cv, cx) :: flat hs vs) := rfl
    rw [e, ← List.cons_append]
    exact List.perm_append_comm
/-- the last hunk's own cells -/
theorem hkCells_last {hs : List Hk} {vs : List (Value × Value)} (e : vs.length = hs.length) (h : Hk) (o n : Value) :
    (hkCells (hs ++ [h]) (vs ++ [(o, n)]))[4 * hs.length]? = some (.int .i64 h.frm) ∧ (hkCells (hs ++ [h]) (vs ++ [(o, n)]))[4 * hs.length + 1]? = some (.int .i64 h.to_) ∧ (hkCells (hs ++ [h]) (vs ++ [(o, n)]))[4 * hs.length + 2]? = some o ∧ (hkCells (hs ++ [h]) (vs ++ [(o, n)]))[4 * hs.length + 3]? = some n :=
  hkCells_at (hs ++ [h]) (vs ++ [(o, n)]) hs.length h (o, n) (by simp) (by rw [← e]; simp) (by simp [e])
theorem hkCells_setOld {hs : List Hk} {vs : List (Value × Value)} (e : vs.length = hs.length) (h : Hk) (o n o' : Value) (x : List ByteArray) :
    (hkCells (hs ++ [h]) (vs ++ [(o, n)])).set (4 * hs.length + 2) o' = hkCells (hs ++ [{ h with old := x }]) (vs ++ [(o', n)]) := by
  have hl := hkCells_length hs vs e
  rw [hkCells_snoc _ _ e, hkCells_snoc _ _ e, List.set_append_right _ _ (by omega), show 4 * hs.length + 2 - (hkCells hs vs).length = 2 by omega]
  rfl
theorem hkCells_setNew {hs : List Hk} {vs : List (Value × Value)} (e : vs.length = hs.length) (h : Hk) (o n n' : Value) (x : List ByteArray) :
    (hkCells (hs ++ [h]) (vs ++ [(o, n)])).set (4 * hs.length + 3) n' = hkCells (hs ++ [{ h with new := x }]) (vs ++ [(o, n')]) := by
  have hl := hkCells_length hs vs e
  rw [hkCells_snoc _ _ e, hkCells_snoc _ _ e, List.set_append_right _ _ (by omega), show 4 * hs.length + 3 - (hkCells hs vs).length = 3 by omega]
  rfl
/-- the last hunk's slices -/
structure LastAt (w : World) (tH tS : TypeId) (base g cap : Nat) (hs : List Hk) (h : Hk) (vs : List (Value × Value)) (o n cv : Value) (cx : List ByteArray) : Prop where
  len : vs.length = hs.length
  own : HkOwn w tH tS base (.slice (some ⟨g, 0, none⟩) (hs.length + 1) cap) (hs ++ [h]) (vs ++ [(o, n)]) cv cx
section
variable {w w' : World} {tH tS : TypeId} {base g cap : Nat} {hs : List Hk} {h : Hk} {vs : List (Value × Value)} {o n cv : Value} {cx : List ByteArray}
theorem LastAt.below (a : LastAt w tH tS base g cap hs h vs o n cv cx) (hb : Below w.heap.size w w') : LastAt w' tH tS base g cap hs h vs o n cv cx := ⟨a.len, a.own.below hb⟩
theorem LastAt.lt (a : LastAt w tH tS base g cap hs h vs o n cv cx) : base ≤ g ∧ g < w.heap.size := a.own.row.lt g rfl
theorem LastAt.block (a : LastAt w tH tS base g cap hs h vs o n cv cx) : ∃ cs, w.heap[g]? = some (.cells cs tH (0, 0)) := own_type' a.own.row rfl
theorem LastAt.cells (a : LastAt w tH tS base g cap hs h vs o n cv cx) : w.cell? ⟨g, 4 * hs.length, none⟩ = some (.int .i64 h.frm) ∧ w.cell? ⟨g, 4 * hs.length + 1, none⟩ = some (.int .i64 h.to_) ∧ w.cell? ⟨g, 4 * hs.length + 2, none⟩ = some o ∧ w.cell? ⟨g, 4 * hs.length + 3, none⟩ = some n := by
  obtain ⟨c0, c1, c2, c3⟩ := hkCells_last a.len h o n
  have hr := a.own.row
  rw [List.length_append] at hr
  have hj : ∀ j, j < 4 → 4 * hs.length + j < (hs.length + [h].length) * 4 := fun j hj => by simp; omega
  exact ⟨(hr.cellAt _ (hj 0 (by decide))).trans c0, (hr.cellAt _ (hj 1 (by decide))).trans c1, (hr.cellAt _ (hj 2 (by decide))).trans c2, (hr.cellAt _ (hj 3 (by decide))).trans c3⟩
theorem LastAt.frozen (a : LastAt w tH tS base g cap hs h vs o n cv cx) (j : Nat) : w.frozen? ⟨g, j, none⟩ = false := by
  have hr := a.own.row
  rw [List.length_append] at hr
  exact hr.frozenAt j
theorem perm_old {r s c : RowV} {l : List RowV} : (c :: (l ++ [r, s])).Perm (r :: s :: c :: l) := by
  have e : c :: (l ++ [r, s]) = (c :: l) ++ [r, s] := rfl
  rw [e]
  exact List.perm_append_comm
theorem perm_new {r s c : RowV} {l : List RowV} : (c :: (l ++ [r, s])).Perm (s :: r :: c :: l) := perm_old.trans (.swap ..)
theorem LastAt.rowOld (a : LastAt w tH tS base g cap hs h vs o n cv cx) : RowsOwn w tS base ((o, h.old) :: (n, h.new) :: (cv, cx) :: flat hs vs) := by
  have := a.own.rows
  rw [flat_snoc _ _ a.len] at this
  exact this.perm perm_old
theorem LastAt.rowNew (a : LastAt w tH tS base g cap hs h vs o n cv cx) : RowsOwn w tS base ((n, h.new) :: (o, h.old) :: (cv, cx) :: flat hs vs) := a.rowOld.perm (.swap ..)
/-- the old lines are written, and their slice is kept in its cell -/
theorem LastAt.setOld (hne : tH ≠ tS) (a : LastAt w tH tS base g cap hs h vs o n cv cx) (hg : w.grownBy w' o.ownBlock) {o' : Value} {x : List ByteArray} (ho : w'.ownsRow base tS 1 o' x.length (x.map Value.string))
    (hat : ∀ k, o'.ownBlock = some k → o.ownBlock = some k ∨ w.heap.size ≤ k) : LastAt (w'.setCell ⟨g, 4 * hs.length + 2, none⟩ o') tH tS base g cap hs { h with old := x } vs o' n cv cx := by
  have hr := a.own.row
  rw [List.length_append] at hr
  have hr2 : w'.ownsRow base tH 4 (.slice (some ⟨g, 0, none⟩) (hs.length + [h].length) cap) (hs.length + [h].length) (hkCells (hs ++ [h]) (vs ++ [(o, n)])) := own_kept hr fun k hk hlt => hg.block k hlt fun e => by
    obtain ⟨cs, hc⟩ := own_type' hr hk
    obtain ⟨ds, hd⟩ := own_type' (a.rowOld.own _ (List.mem_cons_self ..)) e.symm
    exact two_types hc hd hne rfl
  have hs2 := (hr2.stored (4 * hs.length + 2) o').1
  rw [hkCells_setOld a.len h o n o' x] at hs2
  refine ⟨a.len, by simp [a.len], by simpa using hs2, ?_⟩
  rw [flat_snoc _ _ a.len]
  refine ((a.rowOld.write hg ho hat).perm perm_old.symm).kept fun k cs hc _ => ?_
  obtain ⟨ds, hd⟩ := own_type' hr2 (g := g) rfl
  exact Below.heap_setCell _ _ _ _ (two_types hc hd (Ne.symm hne))
theorem LastAt.setNew (hne : tH ≠ tS) (a : LastAt w tH tS base g cap hs h vs o n cv cx) (hg : w.grownBy w' n.ownBlock) {n' : Value} {x : List ByteArray} (ho : w'.ownsRow base tS 1 n' x.length (x.map Value.string))
    (hat : ∀ k, n'.ownBlock = some k → n.ownBlock = some k ∨ w.heap.size ≤ k) : LastAt (w'.setCell ⟨g, 4 * hs.length + 3, none⟩ n') tH tS base g cap hs { h with new := x } vs o n' cv cx := by
  have hr := a.own.row
  rw [List.length_append] at hr
  have hr2 : w'.ownsRow base tH 4 (.slice (some ⟨g, 0, none⟩) (hs.length + [h].length) cap) (hs.length + [h].length) (hkCells (hs ++ [h]) (vs ++ [(o, n)])) := own_kept hr fun k hk hlt => hg.block k hlt fun e => by
    obtain ⟨cs, hc⟩ := own_type' hr hk
    obtain ⟨ds, hd⟩ := own_type' (a.rowNew.own _ (List.mem_cons_self ..)) e.symm
    exact two_types hc hd hne rfl
  have hs2 := (hr2.stored (4 * hs.length + 3) n').1
  rw [hkCells_setNew a.len h o n n' x] at hs2
  refine ⟨a.len, by simp [a.len], by simpa using hs2, ?_⟩
  rw [flat_snoc _ _ a.len]
  refine ((a.rowNew.write hg ho hat).perm perm_new.symm).kept fun k cs hc _ => ?_
  obtain ⟨ds, hd⟩ := own_type' hr2 (g := g) rfl
  exact Below.heap_setCell _ _ _ _ (two_types hc hd (Ne.symm hne))
/-- both slices are written, one behind the other, and kept in their cells -/
theorem LastAt.setBoth {w1 w2 : World} (hne : tH ≠ tS) (a : LastAt w tH tS base g cap hs h vs o n cv cx) (hg1 : w.grownBy w1 o.ownBlock) {o' n' : Value} {x y : List ByteArray} (ho : w1.ownsRow base tS 1 o' x.length (x.map Value.string))
    (hat1 : ∀ k, o'.ownBlock = some k → o.ownBlock = some k ∨ w.heap.size ≤ k) (hg2 : w1.grownBy w2 n.ownBlock) (hn : w2.ownsRow base tS 1 n' y.length (y.map Value.string)) (hat2 : ∀ k, n'.ownBlock = some k → n.ownBlock = some k ∨ w1.heap.size ≤ k) :
    LastAt ((w2.setCell ⟨g, 4 * hs.length + 2, none⟩ o').setCell ⟨g, 4 * hs.length + 3, none⟩ n') tH tS base g cap hs { h with old := x, new := y } vs o' n' cv cx := by
  have hr := a.own.row
  rw [List.length_append] at hr
  have r1 := a.rowOld.write hg1 ho hat1
  have r2 := (r1.perm (.swap ..)).write hg2 hn hat2
  have hr1 : w1.ownsRow base tH 4 (.slice (some ⟨g, 0, none⟩) (hs.length + [h].length) cap) (hs.length + [h].length) (hkCells (hs ++ [h]) (vs ++ [(o, n)])) := own_kept hr fun k hk hlt => hg1.block k hlt fun e => by
    obtain ⟨cs, hc⟩ := own_type' hr hk
    obtain ⟨ds, hd⟩ := own_type' (a.rowOld.own _ (List.mem_cons_self ..)) e.symm
    exact two_types hc hd hne rfl
  have hr2 : w2.ownsRow base tH 4 (.slice (some ⟨g, 0, none⟩) (hs.length + [h].length) cap) (hs.length + [h].length) (hkCells (hs ++ [h]) (vs ++ [(o, n)])) := own_kept hr1 fun k hk hlt => hg2.block k hlt fun e => by
    obtain ⟨cs, hc⟩ := own_type' hr1 hk
    obtain ⟨ds, hd⟩ := own_type' (r1.own (n, h.new) (by simp)) e.symm
    exact two_types hc hd hne rfl
  have s1 := (hr2.stored (4 * hs.length + 2) o').1
  rw [hkCells_setOld a.len h o n o' x] at s1
  have s2 := (World.ownsRow.stored s1 (4 * hs.length + 3) n').1
  rw [hkCells_setNew a.len _ o' n n' y] at s2
  refine ⟨a.len, by simp [a.len], by simpa using s2, ?_⟩
  rw [flat_snoc _ _ a.len]
  have r3 : RowsOwn w2 tS base ((cv, cx) :: (flat hs vs ++ [(o', x), (n', y)])) := r2.perm ((List.Perm.swap ..).trans perm_old.symm)
  refine r3.kept fun k cs hc _ => ?_
  obtain ⟨ds, hd⟩ := own_type' hr2 (g := g) rfl
  have hk := two_types hc hd (Ne.symm hne)
  exact (Below.heap_setCell _ _ _ _ hk).trans (Below.heap_setCell _ _ _ _ hk)
end
end Go.Pw
