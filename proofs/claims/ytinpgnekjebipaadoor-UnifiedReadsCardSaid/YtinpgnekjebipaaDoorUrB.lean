/- The reader of hunks in memory; (*unifier).open. -/
import Derived.Test.YtinpgnekjebipaaDoorUrA
import Derived.Test.YtinpgnekjebipaaDoorUrR
import Derived.Deep.QuietTactic
import Derived.BigQuiet
set_option linter.unusedSimpArgs false
set_option linter.unusedVariables false
namespace Go.Proofs.YtinpgnekjebipaaDoor
open Go.RowKit Go.Pw
/-- the address of hunk k -/
def lastPtr (hv : Value) (k : Nat) : Value := match hv with | .slice (some a) _ _ => .pointer (some ⟨a.block, k * 4, none⟩) | _ => .pointer none
def curPtr (c : Option Hk) (hv : Value) (k : Nat) : Value := match c with | none => .pointer none | some _ => lastPtr hv k
def unCells (u : Un) (hv cv : Value) : Array Value := #[hv, .int .i64 u.oa, .int .i64 (u.oc : Int), .int .i64 u.na, .int .i64 (u.nc : Int), .int .i64 u.oe, .int .i64 u.de, curPtr u.cur hv u.fin.length, cv, .bool u.long]
/-- all blocks of w0 but U are as they were -/
structure ButU (U : Nat) (w0 w : World) : Prop where
  os : w.os = w0.os
  tape : w.tape = w0.tape
  output : w.output = w0.output
  size : w0.heap.size ≤ w.heap.size
  block : ∀ k, k < w0.heap.size → k ≠ U → w.heap[k]? = w0.heap[k]?
section
variable {U : Nat} {w0 w w' : World}
theorem ButU.refl (U : Nat) (w : World) : ButU U w w := ⟨rfl, rfl, rfl, Nat.le_refl _, fun _ _ _ => rfl⟩
theorem ButU.below (h : ButU U w0 w) (hb : Below w.heap.size w w') : ButU U w0 w' := ⟨hb.os.trans h.os, hb.tape.trans h.tape, hb.output.trans h.output, Nat.le_trans h.size hb.size, fun k hk hne => (hb.block k (Nat.lt_of_lt_of_le hk h.size)).trans (h.block k hk hne)⟩
theorem ButU.grown (h : ButU U w0 w) {row : Option Nat} (hg : w.grownBy w' row) (hr : ∀ g, row = some g → w0.heap.size ≤ g) : ButU U w0 w' :=
  ⟨hg.os.trans h.os, hg.tape.trans h.tape, hg.output.trans h.output, Nat.le_trans h.size hg.size, fun k hk hne => (hg.block k (Nat.lt_of_lt_of_le hk h.size) (fun e => by have := hr k e.symm; omega)).trans (h.block k hk hne)⟩
theorem ButU.setU (h : ButU U w0 w) (j : Nat) (x : Value) : ButU U w0 (w.setCell ⟨U, j, none⟩ x) := ⟨h.os, h.tape, h.output, by simpa [World.setCell] using h.size, fun k hk hne => (Below.heap_setCell _ _ _ _ hne).trans (h.block k hk hne)⟩
theorem ButU.set (h : ButU U w0 w) {g : Nat} (hg : w0.heap.size ≤ g) (j : Nat) (x : Value) : ButU U w0 (w.setCell ⟨g, j, none⟩ x) := ⟨h.os, h.tape, h.output, by simpa [World.setCell] using h.size, fun k hk hne => (Below.heap_setCell _ _ _ _ (show k ≠ g by omega)).trans (h.block k hk hne)⟩
theorem ButU.alloc (h : ButU U w0 w) (ob : Obj) : ButU U w0 (w.alloc ob) := h.below ((Below.refl _ _).alloc (Nat.le_refl _) ob)
theorem ButU.out (h : ButU U w0 w) {b : World} (hb : Below b.heap.size b w0) (hU : b.heap.size ≤ U) : Below b.heap.size b w :=
  ⟨h.os.trans hb.os, h.tape.trans hb.tape, h.output.trans hb.output, Nat.le_trans hb.size h.size, fun k hk => (h.block k (Nat.lt_of_lt_of_le hk hb.size) (by omega)).trans (hb.block k hk)⟩
end
/-- the reader lies in block U: its cells, the hunks' row and the rows of their lines -/
structure UnMem (w0 w : World) (U : Nat) (cs : Array Value) (hs : List Hk) (hv : Value) (vs : List (Value × Value)) (cv : Value) (cx : List ByteArray) : Prop where
  bel : ButU U w0 w
  lo : U < w0.heap.size
  box : w.heap[U]? = some (.cells cs 53 (0, 0))
  own : HkOwn w 46 9 w0.heap.size hv hs vs cv cx
section
variable {w0 w w' : World} {U : Nat} {cs : Array Value} {hs : List Hk} {hv cv : Value} {vs : List (Value × Value)} {cx : List ByteArray}
theorem UnMem.lt (h : UnMem w0 w U cs hs hv vs cv cx) : U < w.heap.size := (Array.getElem?_eq_some_iff.1 h.box).1
theorem UnMem.below (h : UnMem w0 w U cs hs hv vs cv cx) (hb : Below w.heap.size w w') : UnMem w0 w' U cs hs hv vs cv cx :=
  ⟨h.bel.below hb, h.lo, (hb.block _ h.lt).trans h.box, h.own.below hb⟩
theorem UnMem.drew (h : UnMem w0 w U cs hs hv vs cv cx) : UnMem w0 w.drew U cs hs hv vs cv cx := h.below (Below.refl _ _).drew
theorem UnMem.set (h : UnMem w0 w U cs hs hv vs cv cx) (j : Nat) (x : Value) : UnMem w0 (w.setCell ⟨U, j, none⟩ x) U (cs.setIfInBounds j x) hs hv vs cv cx :=
  ⟨h.bel.setU j x, h.lo, heap_setCell_same w U j cs _ x h.box, h.own.set (p := ⟨U, j, none⟩) h.box (by decide) (by decide) x⟩
theorem UnMem.cvOwn (h : UnMem w0 w U cs hs hv vs cv cx) : w.ownsRow w0.heap.size 9 1 cv cx.length (cx.map Value.string) := h.own.rows.own _ (List.mem_cons_self ..)
theorem UnMem.drop (h : UnMem w0 w U cs hs hv vs cv cx) : UnMem w0 w U cs hs hv vs (.slice none 0 0) [] := ⟨h.bel, h.lo, h.box, h.own.drop⟩
theorem UnMem.cell (h : UnMem w0 w U cs hs hv vs cv cx) (j : Nat) {x : Value} (hx : cs[j]? = some x) : w.cell? ⟨U, j, none⟩ = some x := by simp [World.cell?, h.box, hx]
theorem UnMem.frozen (h : UnMem w0 w U cs hs hv vs cv cx) (j : Nat) : w.frozen? ⟨U, j, none⟩ = false := by simp [World.frozen?, h.box]
/-- one hunk more -/
theorem UnMem.push {w1 w2 w3 : World} {hv' o n : Value} {ob : Obj} {f t : Int} (h : UnMem w0 w U cs hs hv vs cv cx) (hb1 : Below w.heap.size w w1) (ho : w1.ownsRow w.heap.size 9 1 o cx.length (cx.map Value.string)) (hb2 : Below w1.heap.size w1 w2)
    (hn : w2.ownsRow w1.heap.size 9 1 n cx.length (cx.map Value.string)) (hrow : w3.ownsRow w0.heap.size 46 4 hv' (hs.length + 1) (hkCells hs vs ++ [.int .i64 f, .int .i64 t, o, n])) (hg : (w2.alloc ob).grownBy w3 hv.ownBlock) :
    UnMem w0 w3 U cs (hs ++ [⟨f, t, cx, cx⟩]) hv' (vs ++ [(o, n)]) cv cx := by
  have hU := h.lt
  have hz1 := hb1.size
  have hz2 := hb2.size
  have ba : Below w2.heap.size w2 (w2.alloc ob) := (Below.refl _ _).alloc (Nat.le_refl _) ob
  have hbw : Below w.heap.size w (w2.alloc ob) := (hb1.trans (hb2.mono hz1)).trans (ba.mono (by omega))
  have hbz0 := h.bel.size
  have r1 := h.own.rows.fresh hb1 (own_mono ho (show w0.heap.size ≤ w.heap.size by omega)) (fun g hg => own_ge ho g hg)
  have r2 := (r1.fresh hb2 (own_mono hn (show w0.heap.size ≤ w1.heap.size by omega)) (fun g hg => own_ge hn g hg)).below ba
  have hvU : ∀ g, hv.ownBlock = some g → w0.heap.size ≤ g := fun g hg => own_ge h.own.row g hg
  have hbig : ButU U w0 (w2.alloc ob) := h.bel.below hbw
  have hlo := h.lo
  have hbz := h.bel.size
  refine ⟨hbig.grown hg hvU, h.lo, ?_, h.own.push (by decide) hbw (g := ⟨f, t, cx, cx⟩) (r2.perm (.swap ..)) hrow hg⟩
  exact (hg.block U (by simp; omega) (fun e => by have := hvU U e.symm; omega)).trans ((hbw.block U hU).trans h.box)
/-- the lines beside are written -/
theorem UnMem.side (h : UnMem w0 w U cs hs hv vs cv cx) (hg : w.grownBy w' cv.ownBlock) {cv' : Value} {cx' : List ByteArray} (ho : w'.ownsRow w0.heap.size 9 1 cv' cx'.length (cx'.map Value.string))
    (hat : ∀ g, cv'.ownBlock = some g → cv.ownBlock = some g ∨ w.heap.size ≤ g) : UnMem w0 w' U cs hs hv vs cv' cx' := by
  have hc : ∀ g, cv.ownBlock = some g → w0.heap.size ≤ g := fun g hg => own_ge (h.own.rows.own _ (List.mem_cons_self ..)) g hg
  have hlo := h.lo
  exact ⟨h.bel.grown hg hc, h.lo, (hg.block U h.lt (fun e => by have := hc U e.symm; omega)).trans h.box, h.own.side (by decide) hg ho hat⟩
end
/-- the reader in memory -/
def UnAt (w0 w : World) (U : Nat) (u : Un) (hv cv : Value) (vs : List (Value × Value)) : Prop := UnMem w0 w U (unCells u hv cv) u.all hv vs cv u.ctx
def UnIn (w0 w : World) (U : Nat) (u : Un) : Prop := ∃ hv cv vs, UnAt w0 w U u hv cv vs
section
variable {w0 w w' : World} {U : Nat} {u : Un} {hv cv : Value} {vs : List (Value × Value)}
theorem UnIn.below (h : UnIn w0 w U u) (hb : Below w.heap.size w w') : UnIn w0 w' U u := by
  obtain ⟨a, b, c, h⟩ := h
  exact ⟨a, b, c, UnMem.below h hb⟩
theorem UnIn.drewN (h : UnIn w0 w U u) (q : Nat) : UnIn w0 (w.drewN q) U u := h.below (below_drewN (Below.refl _ _) q)
theorem UnAt.cells (h : UnAt w0 w U u hv cv vs) : w.cell? ⟨U, 0, none⟩ = some hv ∧ w.cell? ⟨U, 1, none⟩ = some (.int .i64 u.oa) ∧ w.cell? ⟨U, 2, none⟩ = some (.int .i64 (u.oc : Int)) ∧ w.cell? ⟨U, 3, none⟩ = some (.int .i64 u.na) ∧ w.cell? ⟨U, 4, none⟩ = some (.int .i64 (u.nc : Int)) ∧
    w.cell? ⟨U, 5, none⟩ = some (.int .i64 u.oe) ∧ w.cell? ⟨U, 6, none⟩ = some (.int .i64 u.de) ∧ w.cell? ⟨U, 7, none⟩ = some (curPtr u.cur hv u.fin.length) ∧ w.cell? ⟨U, 8, none⟩ = some cv ∧ w.cell? ⟨U, 9, none⟩ = some (.bool u.long) :=
  ⟨UnMem.cell h 0 rfl, UnMem.cell h 1 rfl, UnMem.cell h 2 rfl, UnMem.cell h 3 rfl, UnMem.cell h 4 rfl, UnMem.cell h 5 rfl, UnMem.cell h 6 rfl, UnMem.cell h 7 rfl, UnMem.cell h 8 rfl, UnMem.cell h 9 rfl⟩
theorem snoc_of {l : List (Value × Value)} {n : Nat} (h : l.length = n + 1) : ∃ m x, l = m ++ [x] ∧ m.length = n := by
  refine ⟨l.dropLast, l.getLast (fun e => by subst e; simp at h), (List.dropLast_concat_getLast _).symm, by simp [h]⟩
/-- the open hunk -/
theorem UnAt.last {k : Hk} (h : UnAt w0 w U u hv cv vs) (hc : u.cur = some k) : ∃ g cap vs0 o n, hv = .slice (some ⟨g, 0, none⟩) (u.fin.length + 1) cap ∧ vs = vs0 ++ [(o, n)] ∧ LastAt w 46 9 w0.heap.size g cap u.fin k vs0 o n cv u.ctx := by
  have ho := UnMem.own h
  have hal : u.all = u.fin ++ [k] := by simp [Un.all, hc]
  rw [hal] at ho
  have hl := ho.len
  rw [List.length_append] at hl
  obtain ⟨vs0, ⟨o, n⟩, rfl, h0⟩ := snoc_of hl
  have hr := ho.row
  rcases hr.2 with ⟨_, e⟩ | ⟨g, cap, cur, e, _⟩
  · simp at e
  · rw [List.length_append] at e
    subst e
    exact ⟨g, cap, vs0, o, n, rfl, rfl, h0, ho⟩
end
set_option maxHeartbeats 1000000 in
theorem open_any {w0 w : World} {U : Nat} {u : Un} (h : UnIn w0 w U u) (h1 : u.oc ≤ 3000000) (h2 : u.nc ≤ 3000000) :
    Calls Tryd.prog 26 #[.pointer (some ⟨U, 0, none⟩)] w fun e w' => e = .returned (.bool u.opn) ∧ ∃ q, w' = w.drewN q := by
  obtain ⟨hv, cv, vs, h⟩ := h
  obtain ⟨c0, c1, c2, c3, c4, c5, c6, c7, c8, c9⟩ := h.cells
  obtain ⟨oc, hoc⟩ : ∃ x, u.oc = x := ⟨_, rfl⟩
  obtain ⟨nc, hnc⟩ : ∃ x, u.nc = x := ⟨_, rfl⟩
  rw [hoc] at c2 h1
  rw [hnc] at c4 h2
  have hopn : Hid (u.opn = decide ((0 : Int) < (oc : Int) + (nc : Int))) := hide (by
    unfold Un.opn; rw [hoc, hnc]
    have : (0 < oc + nc) ↔ ((0 : Int) < (oc : Int) + (nc : Int)) := by omega
    simp only [this])
  have hw : IntKind.i64.wrap ((oc : Int) + (nc : Int)) = (oc : Int) + (nc : Int) := by rw [IntKind.wrap_i64]; omega
  clear hoc hnc h c0 c1 c3 c5 c6 c7 c8 c9
  go_enter Tryd.func26, Tryd.ntmps26
  go_wp2_with fail
  go_quiet (fail)
  go_wp2_with fail
  go_ret
  exact ⟨ret_bool hopn.out.symm, _, rfl⟩
end Go.Proofs.YtinpgnekjebipaaDoor
