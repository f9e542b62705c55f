/- The reference's hunks in memory while a text is read. -/
import Derived.Test.YtinpgnekjebipaaDoorUrG
import Derived.Test.YtinpgnekjebipaaDoorUrW
set_option linter.unusedSimpArgs false
set_option linter.unusedVariables false
namespace Go.Proofs.YtinpgnekjebipaaDoor
open Go.RowKit Go.Pw
/-- the hunks that are told (out), the one at hand (now, block X), the lines that wait, the head of the group (block Y) -/
structure RpAt (w1 wr : World) (X Y : Nat) (hv : Value) (fin : List Hk) (vs : List (Value × Value)) (now : Hk) (o n cv : Value) (wait : List ByteArray) (q0 q1 q2 q3 : Nat) : Prop where
  bel : Below w1.heap.size w1 wr
  loX : w1.heap.size ≤ X
  loY : w1.heap.size ≤ Y
  box : wr.heap[X]? = some (.cells #[.int .i64 now.frm, .int .i64 now.to_, o, n] 46 (0, 0))
  hed : Quad wr Y (.int .i64 (q0 : Int)) (.int .i64 (q1 : Int)) (.int .i64 (q2 : Int)) (.int .i64 (q3 : Int))
  len : vs.length = fin.length
  row : wr.ownsRow w1.heap.size 46 4 hv fin.length (hkCells fin vs)
  far : hv.ownBlock ≠ some X
  rows : RowsOwn wr 9 w1.heap.size ((o, now.old) :: (n, now.new) :: (cv, wait) :: flat fin vs)
section
variable {w1 wr w' : World} {X Y : Nat} {hv : Value} {fin : List Hk} {vs : List (Value × Value)} {now : Hk} {o n cv : Value} {wait : List ByteArray} {q0 q1 q2 q3 : Nat}
theorem RpAt.ltX (h : RpAt w1 wr X Y hv fin vs now o n cv wait q0 q1 q2 q3) : X < wr.heap.size := (Array.getElem?_eq_some_iff.1 h.box).1
theorem RpAt.ltY (h : RpAt w1 wr X Y hv fin vs now o n cv wait q0 q1 q2 q3) : Y < wr.heap.size := (Array.getElem?_eq_some_iff.1 h.hed).1
theorem RpAt.below (h : RpAt w1 wr X Y hv fin vs now o n cv wait q0 q1 q2 q3) (hb : Below wr.heap.size wr w') : RpAt w1 w' X Y hv fin vs now o n cv wait q0 q1 q2 q3 :=
  ⟨h.bel.trans (hb.mono h.bel.size), h.loX, h.loY, (hb.block _ h.ltX).trans h.box, (hb.block _ h.ltY).trans h.hed, h.len, own_below h.row hb, h.far, h.rows.below hb⟩
theorem RpAt.cells (h : RpAt w1 wr X Y hv fin vs now o n cv wait q0 q1 q2 q3) : wr.cell? ⟨X, 0, none⟩ = some (.int .i64 now.frm) ∧ wr.cell? ⟨X, 1, none⟩ = some (.int .i64 now.to_) ∧ wr.cell? ⟨X, 2, none⟩ = some o ∧ wr.cell? ⟨X, 3, none⟩ = some n := by
  simp [World.cell?, h.box]
theorem RpAt.frozen (h : RpAt w1 wr X Y hv fin vs now o n cv wait q0 q1 q2 q3) (j : Nat) : wr.frozen? ⟨X, j, none⟩ = false := by simp [World.frozen?, h.box]
/-- a row of strings is written: nothing else has turned -/
theorem RpAt.rowed (h : RpAt w1 wr X Y hv fin vs now o n cv wait q0 q1 q2 q3) {v : Value} {l : List ByteArray} (hv1 : wr.ownsRow w1.heap.size 9 1 v l.length (l.map Value.string)) (hg : wr.grownBy w' v.ownBlock) :
    Below w1.heap.size w1 w' ∧ w'.heap[X]? = wr.heap[X]? ∧ w'.heap[Y]? = wr.heap[Y]? ∧ w'.ownsRow w1.heap.size 46 4 hv fin.length (hkCells fin vs) := by
  have hk : ∀ (g : Nat) (c : Array Value) (t : TypeId), wr.heap[g]? = some (Obj.cells c t (0, 0)) → t ≠ 9 → w'.heap[g]? = wr.heap[g]? := fun g c t hc ht => hg.block g (Array.getElem?_eq_some_iff.1 hc).1 fun e => by
    obtain ⟨ds, hd⟩ := own_type' hv1 e.symm
    exact two_types hc hd ht rfl
  refine ⟨h.bel.grown hg h.bel.size (fun g hg' => own_ge hv1 g hg'), hk X _ _ h.box (by decide), hk Y _ _ h.hed (by decide), own_kept h.row fun g hg' _ => ?_⟩
  obtain ⟨cs, hc⟩ := own_type' h.row hg'
  exact hk g _ _ hc (by decide)
/-- the lines that wait are written -/
theorem RpAt.side (h : RpAt w1 wr X Y hv fin vs now o n cv wait q0 q1 q2 q3) (hg : wr.grownBy w' cv.ownBlock) {cv' : Value} {wait' : List ByteArray} (ho : w'.ownsRow w1.heap.size 9 1 cv' wait'.length (wait'.map Value.string))
    (hat : ∀ g, cv'.ownBlock = some g → cv.ownBlock = some g ∨ wr.heap.size ≤ g) : RpAt w1 w' X Y hv fin vs now o n cv' wait' q0 q1 q2 q3 := by
  obtain ⟨k1, k2, k3, k4⟩ := h.rowed (h.rows.own (cv, wait) (by simp)) hg
  have hp : ((o, now.old) :: (n, now.new) :: (cv, wait) :: flat fin vs).Perm ((cv, wait) :: (o, now.old) :: (n, now.new) :: flat fin vs) := (List.Perm.cons _ (List.Perm.swap ..)).trans (List.Perm.swap ..)
  have hp2 : ((cv', wait') :: (o, now.old) :: (n, now.new) :: flat fin vs).Perm ((o, now.old) :: (n, now.new) :: (cv', wait') :: flat fin vs) := (List.Perm.swap ..).trans (List.Perm.cons _ (List.Perm.swap ..))
  exact ⟨k1, h.loX, h.loY, k2.trans h.box, k3.trans h.hed, h.len, k4, h.far, ((h.rows.perm hp).write hg ho hat).perm hp2⟩
/-- the lines that wait are let go -/
theorem RpAt.drop (h : RpAt w1 wr X Y hv fin vs now o n cv wait q0 q1 q2 q3) : RpAt w1 wr X Y hv fin vs now o n (.slice none 0 0) [] q0 q1 q2 q3 := by
  have hp : ((o, now.old) :: (n, now.new) :: (cv, wait) :: flat fin vs).Perm ((cv, wait) :: (o, now.old) :: (n, now.new) :: flat fin vs) := (List.Perm.cons _ (List.Perm.swap ..)).trans (List.Perm.swap ..)
  have hp2 : (((.slice none 0 0 : Value), ([] : List ByteArray)) :: (o, now.old) :: (n, now.new) :: flat fin vs).Perm ((o, now.old) :: (n, now.new) :: ((.slice none 0 0 : Value), ([] : List ByteArray)) :: flat fin vs) := (List.Perm.swap ..).trans (List.Perm.cons _ (List.Perm.swap ..))
  exact ⟨h.bel, h.loX, h.loY, h.box, h.hed, h.len, h.row, h.far, (h.rows.perm hp).tail.empty.perm hp2⟩
/-- a cell of the hunk at hand is written -/
theorem RpAt.setX (h : RpAt w1 wr X Y hv fin vs now o n cv wait q0 q1 q2 q3) (j : Nat) (x : Value) : Below w1.heap.size w1 (wr.setCell ⟨X, j, none⟩ x) ∧ Quad (wr.setCell ⟨X, j, none⟩ x) Y (.int .i64 (q0 : Int)) (.int .i64 (q1 : Int)) (.int .i64 (q2 : Int)) (.int .i64 (q3 : Int)) ∧
    (wr.setCell ⟨X, j, none⟩ x).ownsRow w1.heap.size 46 4 hv fin.length (hkCells fin vs) ∧ RowsOwn (wr.setCell ⟨X, j, none⟩ x) 9 w1.heap.size ((o, now.old) :: (n, now.new) :: (cv, wait) :: flat fin vs) := by
  have hXY : Y ≠ X := two_types h.hed h.box (by decide)
  refine ⟨h.bel.setCell h.loX x, h.hed.other hXY x, own_kept h.row fun g hg _ => Below.heap_setCell _ _ _ _ (fun e => h.far (by rw [hg]; exact congrArg some e)), h.rows.kept fun g cs hc _ => Below.heap_setCell _ _ _ _ (two_types hc h.box (by decide))⟩
/-- the old lines of the hunk at hand are written, and their slice is kept -/
theorem RpAt.old (h : RpAt w1 wr X Y hv fin vs now o n cv wait q0 q1 q2 q3) (hg : wr.grownBy w' o.ownBlock) {o' : Value} {x : List ByteArray} (ho : w'.ownsRow w1.heap.size 9 1 o' x.length (x.map Value.string))
    (hat : ∀ g, o'.ownBlock = some g → o.ownBlock = some g ∨ wr.heap.size ≤ g) : RpAt w1 (w'.setCell ⟨X, 2, none⟩ o') X Y hv fin vs { now with old := x } o' n cv wait q0 q1 q2 q3 := by
  obtain ⟨k1, k2, k3, k4⟩ := h.rowed (h.rows.own (o, now.old) (by simp)) hg
  have hb2 : w'.heap[X]? = some (.cells #[.int .i64 now.frm, .int .i64 now.to_, o, n] 46 (0, 0)) := k2.trans h.box
  have hq2 : Quad w' Y (.int .i64 (q0 : Int)) (.int .i64 (q1 : Int)) (.int .i64 (q2 : Int)) (.int .i64 (q3 : Int)) := k3.trans h.hed
  have hXY : Y ≠ X := two_types hq2 hb2 (by decide)
  have hb3 := heap_setCell_same w' X 2 _ _ o' hb2
  exact ⟨k1.setCell h.loX o', h.loX, h.loY, hb3, hq2.other hXY o', h.len, own_kept k4 fun g hg' _ => Below.heap_setCell _ _ _ _ (fun e => h.far (by rw [hg']; exact congrArg some e)), h.far,
    (h.rows.write hg ho hat).kept fun g cs hc _ => Below.heap_setCell _ _ _ _ (two_types hc hb2 (by decide))⟩
theorem RpAt.new (h : RpAt w1 wr X Y hv fin vs now o n cv wait q0 q1 q2 q3) (hg : wr.grownBy w' n.ownBlock) {n' : Value} {x : List ByteArray} (ho : w'.ownsRow w1.heap.size 9 1 n' x.length (x.map Value.string))
    (hat : ∀ g, n'.ownBlock = some g → n.ownBlock = some g ∨ wr.heap.size ≤ g) : RpAt w1 (w'.setCell ⟨X, 3, none⟩ n') X Y hv fin vs { now with new := x } o n' cv wait q0 q1 q2 q3 := by
  obtain ⟨k1, k2, k3, k4⟩ := h.rowed (h.rows.own (n, now.new) (by simp)) hg
  have hb2 : w'.heap[X]? = some (.cells #[.int .i64 now.frm, .int .i64 now.to_, o, n] 46 (0, 0)) := k2.trans h.box
  have hq2 : Quad w' Y (.int .i64 (q0 : Int)) (.int .i64 (q1 : Int)) (.int .i64 (q2 : Int)) (.int .i64 (q3 : Int)) := k3.trans h.hed
  have hXY : Y ≠ X := two_types hq2 hb2 (by decide)
  have hb3 := heap_setCell_same w' X 3 _ _ n' hb2
  exact ⟨k1.setCell h.loX n', h.loX, h.loY, hb3, hq2.other hXY n', h.len, own_kept k4 fun g hg' _ => Below.heap_setCell _ _ _ _ (fun e => h.far (by rw [hg']; exact congrArg some e)), h.far,
    (((h.rows.perm (.swap ..)).write hg ho hat).perm (.swap ..)).kept fun g cs hc _ => Below.heap_setCell _ _ _ _ (two_types hc hb2 (by decide))⟩
/-- the hunk at hand is told -/
theorem RpAt.tell (h : RpAt w1 wr X Y hv fin vs now o n cv wait q0 q1 q2 q3) {ob : Obj} {hv' : Value} (hrow : w'.ownsRow w1.heap.size 46 4 hv' (fin.length + 1) (hkCells fin vs ++ [.int .i64 now.frm, .int .i64 now.to_, o, n])) (hg : (wr.alloc ob).grownBy w' hv.ownBlock)
    (hat : ∀ g, hv'.ownBlock = some g → hv.ownBlock = some g ∨ wr.heap.size < g + 1) :
    Below w1.heap.size w1 w' ∧ w'.heap[X]? = wr.heap[X]? ∧ w'.heap[Y]? = wr.heap[Y]? ∧ hv'.ownBlock ≠ some X ∧ HkOwn w' 46 9 w1.heap.size hv' (fin ++ [now]) (vs ++ [(o, n)]) cv wait := by
  have ba : Below wr.heap.size wr (wr.alloc ob) := (Below.refl _ _).alloc (Nat.le_refl _) ob
  have hbw : Below w1.heap.size w1 (wr.alloc ob) := h.bel.trans (ba.mono h.bel.size)
  have hXY : Y ≠ X := two_types h.hed h.box (by decide)
  have hX : w'.heap[X]? = wr.heap[X]? := (hg.block X (Nat.lt_of_lt_of_le h.ltX ba.size) (fun e => h.far e.symm)).trans (ba.block X h.ltX)
  have hY : w'.heap[Y]? = wr.heap[Y]? := (hg.block Y (Nat.lt_of_lt_of_le h.ltY ba.size) (fun e => by
    obtain ⟨cs, hc⟩ := own_type' h.row e.symm
    exact two_types hc h.hed (by decide) rfl)).trans (ba.block Y h.ltY)
  have hown : HkOwn wr 46 9 w1.heap.size hv fin vs cv wait := ⟨h.len, h.row, h.rows.tail.tail⟩
  refine ⟨hbw.grown hg hbw.size (fun g hg' => own_ge h.row g hg'), hX, hY, fun e => ?_, hown.push (by decide) ba (h.rows.below ba) hrow hg⟩
  rcases hat X e with h1 | h1
  · exact h.far h1
  · have := h.ltX; omega
/-- the hunk at hand is a new one -/
theorem RpAt.renew (hb : Below w1.heap.size w1 wr) (hX : w1.heap.size ≤ X) (hY : w1.heap.size ≤ Y) (hbox : wr.heap[X]? = some (.cells #[.int .i64 now.frm, .int .i64 now.to_, .slice none 0 0, .slice none 0 0] 46 (0, 0)))
    (hq : Quad wr Y (.int .i64 (q0 : Int)) (.int .i64 (q1 : Int)) (.int .i64 (q2 : Int)) (.int .i64 (q3 : Int))) (hf : hv.ownBlock ≠ some X) (ho : HkOwn wr 46 9 w1.heap.size hv fin vs cv wait) (h1 : now.old = []) (h2 : now.new = []) :
    RpAt w1 wr X Y hv fin vs now (.slice none 0 0) (.slice none 0 0) cv wait q0 q1 q2 q3 := by
  refine ⟨hb, hX, hY, hbox, hq, ho.len, ho.row, hf, ?_⟩
  rw [h1, h2]
  exact ho.rows.empty.empty
/-- other cells of block X are written: the hunks that are told stay -/
theorem HkOwn.setX (ho : HkOwn wr 46 9 w1.heap.size hv fin vs cv wait) {cs : Array Value} (hbox : wr.heap[X]? = some (.cells cs 46 (0, 0))) (hf : hv.ownBlock ≠ some X) (j : Nat) (x : Value) : HkOwn (wr.setCell ⟨X, j, none⟩ x) 46 9 w1.heap.size hv fin vs cv wait ∧ (wr.setCell ⟨X, j, none⟩ x).heap[X]? = some (.cells (cs.setIfInBounds j x) 46 (0, 0)) := by
  refine ⟨⟨ho.len, own_kept ho.row fun g hg _ => Below.heap_setCell _ _ _ _ (fun e => hf (by rw [hg]; exact congrArg some e)), ho.rows.kept fun g ds hc _ => Below.heap_setCell _ _ _ _ (two_types hc hbox (by decide))⟩, heap_setCell_same wr X j cs _ x hbox⟩
end
end Go.Proofs.YtinpgnekjebipaaDoor
