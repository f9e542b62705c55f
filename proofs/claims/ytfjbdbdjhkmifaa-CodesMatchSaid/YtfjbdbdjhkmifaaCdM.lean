/- delta.lengths. -/
import Derived.Test.YtfjbdbdjhkmifaaCdL
import Derived.Maps.AppendAt
import Derived.Deep.DeepCutAuto
import Derived.Deep.LoopGhost
set_option linter.unusedVariables false
set_option linter.unusedSimpArgs false
namespace Go.Pw
/-- the trees of the first k symbols -/
def tr0To (c : List Nat) (k : Nat) : List Tr := ((List.range k).filter fun s => decide (0 < c.getD s 0)).map fun s => ⟨c.getD s 0, s, [s]⟩
theorem tr0To_step (c : List Nat) (k : Nat) : tr0To c (k + 1) = if 0 < c.getD k 0 then tr0To c k ++ [⟨c.getD k 0, k, [k]⟩] else tr0To c k := by
  unfold tr0To
  rw [List.range_succ, List.filter_append]
  split
  · rename_i h
    rw [List.filter_cons, if_pos (decide_eq_true h), List.map_append]; rfl
  · rename_i h
    rw [List.filter_cons, if_neg (by simpa using h), List.filter_nil, List.append_nil]
theorem tr0To_len (c : List Nat) (k : Nat) : (tr0To c k).length ≤ k := by
  have := List.length_filter_le (fun s => decide (0 < c.getD s 0)) (List.range k)
  rw [List.length_range] at this
  unfold tr0To
  rwa [List.length_map]
theorem getD_nat {c : List Nat} {k : Nat} (h : k < c.length) : c.getD k 0 = c[k] := by
  rw [List.getD_eq_getElem?_getD, List.getElem?_eq_getElem h]; rfl
/-- where the joining stands -/
structure LpAt (c r : List Nat) (ts : List Tr) : Prop where
  ap : Apart ts
  fin : ∀ rf, Huff ts r rf → LensOf c rf
  len : r.length = c.length
  sy : ∀ t ∈ ts, ∀ s ∈ t.sy, s < c.length
  nod : (ts.flatMap Tr.sy).Nodup
  cnt : (ts.flatMap Tr.sy).length ≤ 300
  wsum : (ts.map Tr.w).sum ≤ 300000000
  dep : ∀ s, r.getD s 0 + ts.length ≤ 302
theorem two_least {ts p q p2 q2 : List Tr} {a b : Tr} (h1 : ts = p ++ a :: q) (h2 : Least a (p ++ q)) (h3 : p ++ q = p2 ++ b :: q2) (h4 : Least b (p2 ++ q2)) : HStep ts ((p2 ++ q2) ++ [joinT a b]) (joinT a b) := by
  have e1 : ts.Perm (a :: (p ++ q)) := by rw [h1]; exact List.perm_middle
  have e2 : (p ++ q).Perm (b :: (p2 ++ q2)) := by rw [h3]; exact List.perm_middle
  exact ⟨a, b, p2 ++ q2, e1.trans (e2.cons a), fun x hx => h2 x (e2.symm.subset hx), h4, rfl, List.perm_append_singleton _ _⟩
theorem Apart.cut {p q : List Tr} {a : Tr} (h : Apart (p ++ a :: q)) : Apart (p ++ q) := by
  have h2 := h.perm List.perm_middle
  unfold Apart at *
  rw [List.map_cons] at h2
  exact (List.nodup_cons.1 h2).2
theorem LpAt.step {c r : List Nat} {ts ts' : List Tr} {x : Tr} (h : LpAt c r ts) (hs : HStep ts ts' x) : LpAt c (bump r x.sy) ts' := by
  have hs0 := hs
  obtain ⟨a, b, l, p, la, lb, rfl, q⟩ := hs
  have hl := hstep_len hs0
  have hp : (ts.flatMap Tr.sy).Perm ((a.sy ++ b.sy) ++ l.flatMap Tr.sy) := by
    have := p.flatMap_right Tr.sy
    simpa using this
  have hn := hp.nodup_iff.1 h.nod
  have hsx : ∀ s ∈ a.sy ++ b.sy, s < c.length := fun s hs => by
    rcases List.mem_append.1 hs with hs | hs
    · exact h.sy a (p.symm.subset List.mem_cons_self) s hs
    · exact h.sy b (p.symm.subset (List.mem_cons_of_mem _ List.mem_cons_self)) s hs
  refine ⟨h.ap.step hs0, fun rf hr => h.fin rf (.step hs0 hr), by rw [bump_length]; exact h.len, fun t ht s hs => ?_, ?_, ?_, ?_, fun s => ?_⟩
  · rcases List.mem_cons.1 (q.subset ht) with rfl | ht
    · exact hsx s hs
    · exact h.sy t (p.symm.subset (List.mem_cons_of_mem _ (List.mem_cons_of_mem _ ht))) s hs
  · refine ((q.flatMap_right Tr.sy).nodup_iff).2 ?_
    rw [List.flatMap_cons]; exact hn
  · have h1 := h.cnt
    rw [hp.length_eq] at h1
    rw [(q.flatMap_right Tr.sy).length_eq, List.flatMap_cons]
    exact h1
  · have h1 := (p.map Tr.w).sum_nat
    have h2 := (q.map Tr.w).sum_nat
    have h3 := h.wsum
    simp only [List.map_cons, List.sum_cons] at h1 h2
    have e : (joinT a b).w = a.w + b.w := rfl
    omega
  · rw [show (joinT a b).sy = a.sy ++ b.sy from rfl, getD_bump _ _ _ (List.nodup_append.1 hn).1 (fun s hs => by rw [h.len]; exact hsx s hs)]
    have := h.dep s
    split <;> omega
theorem tr0_bounds {c : List Nat} (hn : c.length ≤ 300) (hm : ∀ s ∈ c, s ≤ 1000000) : (∀ t ∈ tr0 c, ∀ s ∈ t.sy, s < c.length) ∧ ((tr0 c).flatMap Tr.sy).Nodup ∧ ((tr0 c).map Tr.w).sum ≤ 300000000 ∧ (tr0 c).length ≤ 300 ∧ ((tr0 c).flatMap Tr.sy).length ≤ 300 := by
  refine ⟨fun t ht s hs => ?_, ?_, ?_, ?_, ?_⟩
  · obtain ⟨x, hx, rfl⟩ := List.mem_map.1 ht
    obtain rfl : s = x := by simpa using hs
    exact seen_lt hx
  · unfold tr0
    rw [List.flatMap_map]
    simp only [List.flatMap_singleton']
    exact List.Pairwise.filter _ List.nodup_range
  · have : ∀ l : List Tr, (∀ t ∈ l, t.w ≤ 1000000) → (l.map Tr.w).sum ≤ l.length * 1000000 := by
      intro l
      induction l with
      | nil => simp
      | cons t l ih =>
        intro h
        have := ih (fun x hx => h x (List.mem_cons_of_mem _ hx))
        have := h t List.mem_cons_self
        simp only [List.map_cons, List.sum_cons, List.length_cons]
        omega
    have h1 := this (tr0 c) (fun t ht => by
      obtain ⟨x, hx, rfl⟩ := List.mem_map.1 ht
      show c.getD x 0 ≤ _
      rw [getD_nat (seen_lt hx)]
      exact hm _ (List.getElem_mem _))
    have h2 : (tr0 c).length ≤ 300 := by unfold tr0; rw [List.length_map]; exact Nat.le_trans (seen_len c) hn
    omega
  · unfold tr0; rw [List.length_map]; exact Nat.le_trans (seen_len c) hn
  · unfold tr0
    rw [List.flatMap_map]
    simp only [List.flatMap_singleton']
    exact Nat.le_trans (seen_len c) hn
theorem LpAt.start {c : List Nat} (hn : c.length ≤ 300) (hm : ∀ s ∈ c, s ≤ 1000000) (h : (tr0 c).length ≠ 1) : LpAt c (List.replicate c.length 0) (tr0 c) := by
  obtain ⟨h1, h2, h3, h4, h5⟩ := tr0_bounds hn hm
  exact ⟨Apart.start c, fun rf hr => lens_other h hr, by simp, h1, h2, h5, h3, fun s => by rw [getD_rep]; omega⟩
theorem LpAt.one {c : List Nat} (hn : c.length ≤ 300) (hm : ∀ s ∈ c, s ≤ 1000000) {t : Tr} (h : tr0 c = [t]) : LpAt c ((List.replicate c.length 0).set t.l 1) (tr0 c) ∧ t.l < c.length := by
  obtain ⟨h1, h2, h3, h4, h5⟩ := tr0_bounds hn hm
  refine ⟨⟨Apart.start c, fun rf hr => ?_, by simp, h1, h2, h5, h3, fun s => ?_⟩, ?_⟩
  · cases hr with
    | done _ _ _ => exact lens_one h rfl
    | step hs _ => have := (hstep_len hs).1; rw [h] at this; simp at this
  · rw [h]
    have : ((List.replicate c.length 0).set t.l 1).getD s 0 ≤ 1 := by
      simp only [List.getD_eq_getElem?_getD, List.getElem?_set, List.getElem?_replicate, List.length_replicate]
      split
      · split <;> simp
      · split <;> simp
    simp only [List.length_cons, List.length_nil]
    omega
  · unfold tr0 at h
    obtain ⟨s, hs, rfl⟩ := List.map_eq_singleton_iff.1 h
    exact seen_lt (by rw [hs]; simp)
end Go.Pw
namespace Go.Proofs.Ytfjbdbdjhkmifaa
open Go.RowKit Go.Pw
def natV (l : List Nat) : List Value := l.map fun s : Nat => Value.int .i64 (s : Int)
/-- ints that came in -/
def Nats (w : World) (v : Value) (l : List Nat) : Prop := Rd w 1 v l.length (natV l)
theorem SyOwn.new (w : World) (base s : Nat) (hb : base ≤ w.heap.size) : SyOwn (w.alloc (.cells #[.int .i64 (s : Int)] 3)) base (.slice (some ⟨w.heap.size, 0, none⟩) 1 1) [s] :=
  ⟨rfl, .inr ⟨w.heap.size, 1, _, rfl, hb, heap_alloc_new _ _, Nat.le_refl _, by unfold maxLen; omega, rfl, rfl⟩⟩
theorem three_new (w : World) (a b c : Value) (t : TypeId) : ∀ (j : Nat) (u : Value), [a, b, c][j]? = some u → (w.alloc (.cells #[a, b, c] t)).cell? (Addr.add ⟨w.heap.size, 0, none⟩ j) = some u
  | 0, u, h => by simp at h; subst h; simp [Addr.add, World.cell?_alloc_new]
  | 1, u, h => by simp at h; subst h; simp [Addr.add, World.cell?_alloc_new]
  | 2, u, h => by simp at h; subst h; simp [Addr.add, World.cell?_alloc_new]
  | j + 3, u, h => by simp at h
theorem SyOwn.below {w w' : World} {base : Nat} {u : Value} {l : List Nat} (h : SyOwn w base u l) (hb : Below w.heap.size w w') : SyOwn w' base u l := own_below h hb
theorem TrAt.below {w w' : World} {T base : Nat} {v : Value} {ts : List Tr} (h : TrAt w T base v ts) (hb : Below w.heap.size w w') : TrAt w' T base v ts := by
  obtain ⟨us, h1, h2, h3⟩ := h
  exact ⟨us, h1, own_below h2 hb, fun i u t e1 e2 => (h3 i u t e1 e2).below hb⟩
theorem BoxAt.below {w w' : World} {b : Nat} {v : Value} (h : BoxAt w b v) (hb : Below w.heap.size w w') : BoxAt w' b v := (hb.block b h.lt).trans h
theorem made_nats (n : Nat) : madeCells #[Value.int .i64 0] n = (natV (List.replicate n 0)).toArray := by
  apply Array.ext
  · simp [madeCells, natV]
  · intro i h1 h2
    simp [madeCells, natV, Nat.mod_one]
/-- the lengths in memory -/
def OutAt (w : World) (O : Nat) (r : List Nat) : Prop := w.heap[O]? = some (.cells (natV r).toArray 3 (0, 0))
theorem OutAt.lt {w : World} {O : Nat} {r : List Nat} (h : OutAt w O r) : O < w.heap.size := (Array.getElem?_eq_some_iff.1 h).1
theorem OutAt.below {w w' : World} {O : Nat} {r : List Nat} (h : OutAt w O r) (hb : Below w.heap.size w w') : OutAt w' O r := (hb.block O h.lt).trans h
/-- a tree is put behind the others: the box, the row, what they lead to -/
theorem push_tree {T base : Nat} {w w1 w2 : World} {tv tv2 u : Value} {ts : List Tr} {t : Tr} {us : List Value} {ob : Obj} (hus : us.length = ts.length) (hown : w.ownsRow base T 3 tv ts.length (trCells ts us))
    (hsy : ∀ (i : Nat) (u : Value) (t : Tr), us[i]? = some u → ts[i]? = some t → SyOwn w base u t.sy) (hT : T ≠ 3) (hw1 : Below w.heap.size w w1) (hu : SyOwn w1 base u t.sy) (hz : w.heap.size ≤ w1.heap.size)
    (ho2 : w2.ownsRow base T 3 tv2 (ts.length + 1) (trCells ts us ++ [.int .i64 (t.w : Int), .int .i64 (t.l : Int), u])) (hg : (w1.alloc ob).grownBy w2 tv.ownBlock) :
    TrAt w2 T base tv2 (ts ++ [t]) := by
  have key : ∀ {v : Value} {l : List Nat}, SyOwn w1 base v l → SyOwn w2 base v l := fun {v l} h => own_offG h fun x hx => by
    obtain ⟨cur, hc⟩ := own_cellsG h hx
    have hlt := (Array.getElem?_eq_some_iff.1 hc).1
    rw [hg.block x (by simp; omega) (fun e => by
      obtain ⟨cur2, hc2⟩ := own_cellsG (own_below hown hw1) e.symm
      rw [hc] at hc2
      injection hc2 with hc2
      injection hc2 with _ hc2
      exact hT hc2.symm), heap_alloc_old _ _ hlt]
  refine ⟨us ++ [u], by simp [hus], ?_, fun i x t' e1 e2 => ?_⟩
  · rw [List.length_append, trCells_append _ _ _ _ hus]
    exact ho2
  · by_cases hi : i < us.length
    · rw [List.getElem?_append_left hi] at e1
      rw [List.getElem?_append_left (by omega)] at e2
      exact key ((hsy i x t' e1 e2).below hw1)
    · rw [List.getElem?_append_right (by omega)] at e1
      rw [List.getElem?_append_right (by omega)] at e2
      have h0 : i - us.length = 0 := by
        have := (List.getElem?_eq_some_iff.1 e1).1
        simp at this
        omega
      rw [h0] at e1
      rw [← hus, h0] at e2
      simp at e1 e2
      subst e1 e2
      exact key hu
/-- the memory of lengths -/
structure LnAt (w wr : World) (r : List Nat) (tv : Value) (ts : List Tr) : Prop where
  out : OutAt wr w.heap.size r
  box : BoxAt wr (w.heap.size + 1) tv
  trs : TrAt wr 135 (w.heap.size + 1) tv ts
  bel : Below w.heap.size w wr
  siz : w.heap.size + 2 ≤ wr.heap.size
theorem LnAt.below {w wr w' : World} {r : List Nat} {tv : Value} {ts : List Tr} (h : LnAt w wr r tv ts) (hb : Below wr.heap.size wr w') : LnAt w w' r tv ts :=
  ⟨h.out.below hb, h.box.below hb, h.trs.below hb, h.bel.trans (hb.mono h.bel.size), Nat.le_trans h.siz hb.size⟩
theorem LnAt.push {w wr w1 w5 : World} {r : List Nat} {tv tv2 u : Value} {ts : List Tr} {t : Tr} {us : List Value} {ob : Obj} (h : LnAt w wr r tv ts) (hus : us.length = ts.length) (hown : wr.ownsRow (w.heap.size + 1) 135 3 tv ts.length (trCells ts us))
    (hsy : ∀ (i : Nat) (u : Value) (t : Tr), us[i]? = some u → ts[i]? = some t → SyOwn wr (w.heap.size + 1) u t.sy) (hw1 : Below wr.heap.size wr w1) (hu : SyOwn w1 (w.heap.size + 1) u t.sy)
    (ho2 : w5.ownsRow (w.heap.size + 1) 135 3 tv2 (ts.length + 1) (trCells ts us ++ [.int .i64 (t.w : Int), .int .i64 (t.l : Int), u])) (hg : (w1.alloc ob).grownBy w5 tv.ownBlock) :
    BoxAt w5 (w.heap.size + 1) tv ∧ LnAt w (w5.setCell ⟨w.heap.size + 1, 0, none⟩ tv2) r tv2 (ts ++ [t]) := by
  have hz1 := hw1.size
  have hs := h.siz
  have hbx1 := h.box.below hw1
  have hou1 := h.out.below hw1
  have hown1 := own_below hown hw1
  have hbx5 : BoxAt w5 (w.heap.size + 1) tv := (hg.block _ (by simp; omega) (own_typeG hown1 hbx1 (by decide)).symm).trans ((heap_alloc_old _ _ (by omega)).trans hbx1)
  have hou5 : OutAt w5 w.heap.size r := (hg.block _ (by simp; omega) (own_typeG hown1 hou1 (by decide)).symm).trans ((heap_alloc_old _ _ (by omega)).trans hou1)
  have htr5 := push_tree hus hown hsy (by decide) hw1 hu hz1 ho2 hg
  have hk : ∀ k, k ≠ w.heap.size + 1 → (w5.setCell ⟨w.heap.size + 1, 0, none⟩ tv2).heap[k]? = w5.heap[k]? := fun k hk => heap_setCell_other _ _ _ _ hk
  refine ⟨hbx5, (hk _ (by omega)).trans hou5, ?_, ?_, ?_, ?_⟩
  · have hb := hbx5
    unfold BoxAt at hb ⊢
    simp [World.setCell, Array.getElem?_modify, hb]
  · obtain ⟨us2, e1, e2, e3⟩ := htr5
    exact ⟨us2, e1, own_offG e2 fun g hg => hk g (fun e => own_typeG e2 hbx5 (by decide) (by rw [hg, e])), fun i x t' q1 q2 => own_offG (e3 i x t' q1 q2) fun g hg => hk g (fun e => own_typeG (e3 i x t' q1 q2) hbx5 (by decide) (by rw [hg, e]))⟩
  · exact (((h.bel.trans (hw1.mono h.bel.size)).alloc (by have := h.bel.size; omega) ob).grown hg (by simp; omega) (fun x hx => Nat.le_trans (Nat.le_add_right _ 1) (own_ge hown x hx))).setCell (p := ⟨w.heap.size + 1, 0, none⟩) (by show w.heap.size ≤ w.heap.size + 1; omega) _
  · have := hg.size
    simp at this
    simp [World.setCell]; omega
theorem LnAt.took {w wr w' : World} {r : List Nat} {tv tv' : Value} {ts ts' : List Tr} (h : LnAt w wr r tv ts) (hbx : BoxAt w' (w.heap.size + 1) tv') (htr : TrAt w' 135 (w.heap.size + 1) tv' ts') (hb : Below (w.heap.size + 1) wr w') (ho : OffTr wr w' (w.heap.size + 1)) : LnAt w w' r tv' ts' :=
  ⟨(ho _ _ _ _ (by omega) h.out (by decide)).trans h.out, hbx, htr, h.bel.trans (hb.mono (by omega)), Nat.le_trans h.siz hb.size⟩
/-- a length one more -/
theorem OutAt.bump {w : World} {O : Nat} {r : List Nat} (h : OutAt w O r) (s x : Nat) : OutAt (w.setCell ⟨O, s, none⟩ (.int .i64 (x : Int))) O (r.set s x) := by
  unfold OutAt at h ⊢
  have e : natV (r.set s x) = (natV r).set s (.int .i64 (x : Int)) := by simp [natV, List.map_set]
  rw [e]
  simp [World.setCell, Array.getElem?_modify, h]
theorem OutAt.cells {w : World} {O : Nat} {r : List Nat} (h : OutAt w O r) (s : Nat) (hs : s < r.length) : w.cell? ⟨O, s, none⟩ = some (.int .i64 ((r.getD s 0 : Nat) : Int)) ∧ w.frozen? ⟨O, s, none⟩ = false := by
  unfold OutAt at h
  refine ⟨?_, by simp [World.frozen?, h]⟩
  simp [World.cell?, h, natV, hs, getD_nat hs]
theorem LnAt.set {w wr : World} {r : List Nat} {tv : Value} {ts : List Tr} (h : LnAt w wr r tv ts) (s x : Nat) : LnAt w (wr.setCell ⟨w.heap.size, s, none⟩ (.int .i64 (x : Int))) (r.set s x) tv ts := by
  have hk : ∀ k, k ≠ w.heap.size → (wr.setCell ⟨w.heap.size, s, none⟩ (.int .i64 (x : Int))).heap[k]? = wr.heap[k]? := fun k hk => heap_setCell_other _ _ _ _ hk
  obtain ⟨us, e1, e2, e3⟩ := h.trs
  refine ⟨h.out.bump s x, (hk _ (by omega)).trans h.box, ⟨us, e1, own_offG e2 fun g hg => hk g (fun e => by have := own_ge e2 g hg; omega), fun i u t q1 q2 => own_offG (e3 i u t q1 q2) fun g hg => hk g (fun e => by have := own_ge (e3 i u t q1 q2) g hg; omega)⟩, h.bel.setCell (p := ⟨w.heap.size, s, none⟩) (Nat.le_refl _) _, by have := h.siz; simpa [World.setCell] using this⟩
theorem SyOwn.rd {w : World} {base : Nat} {u : Value} {l : List Nat} (h : SyOwn w base u l) : Rd w 1 u l.length (natV l) := Rd.of_own h
theorem rd_pair (w : World) (x y : Value) (t : TypeId) (o : Obj) : Rd (w.alloc (.cells #[x, y] t)) 1 (.slice (some ⟨w.heap.size, 0, none⟩) 2 2) 2 [x, y] := by
  refine ⟨rfl, _, 2, rfl, Nat.le_refl _, by unfold maxLen; omega, fun _ => ⟨w.heap.size, 0, rfl, by simp, fun j u hu => ?_⟩⟩
  rw [World.cell?_alloc_new]
  simpa using hu
/-- the symbols of two trees, one list behind the other -/
theorem concat_two {W : World} {base : Nat} {v ua ub : Value} {x y : List Nat} (hv : Rd W 1 v 2 [ua, ub]) (ha : SyOwn W base ua x) (hb : SyOwn W base ub y) (hx : x.length ≤ 1000) (hy : y.length ≤ 1000) (hbase : base ≤ W.heap.size) :
    Calls Try.prog 81 #[v] W fun e w' => ∃ U c, e = .returned (.slice U (x.length + y.length) c) ∧ SyOwn w' base (.slice U (x.length + y.length) c) (x ++ y) ∧ Below W.heap.size W w' := by
  refine (concatI_any v ua ub x.length y.length (natV x) (natV y) W hv ha.rd hb.rd (fun z hz => by obtain ⟨s, _, rfl⟩ := List.mem_map.1 hz; rfl) (fun z hz => by obtain ⟨s, _, rfl⟩ := List.mem_map.1 hz; rfl) (by omega) (by omega)).mono ?_
  rintro e w' ⟨v', rfl, ho, hbl⟩
  obtain ⟨U, c, rfl⟩ := own_formI ho
  have e1 : (x ++ y).length = x.length + y.length := List.length_append
  refine ⟨U, c, rfl, ?_, hbl⟩
  unfold SyOwn
  rw [e1, List.map_append]
  exact own_mono ho hbase
set_option maxHeartbeats 4000000 in
set_option maxRecDepth 100000 in
theorem lengths_any (v : Value) (c : List Nat) (w : World) (h : Nats w v c) (hn : c.length ≤ 300) (hm : ∀ s ∈ c, s ≤ 1000000) :
    Calls Try.prog 54 #[v] w fun e w' => ∃ r, LensOf c r ∧ e = .returned (.slice (some ⟨w.heap.size, 0, none⟩) c.length c.length) ∧ OutAt w' w.heap.size r ∧ Below w.heap.size w w' := by
  obtain ⟨hl, A, cap, rfl, hcap, hmax, hx⟩ := h
  unfold maxLen at hmax
  have HX := hide hx
  clear hx hl
  obtain ⟨ip, hip, hpz, hps, hpb⟩ := info_parts info_tree
  have hout0 : OutAt (w.alloc (.cells (madeCells #[.int .i64 0] c.length) 3)) w.heap.size (List.replicate c.length 0) := by
    unfold OutAt
    rw [made_nats]
    exact heap_alloc_new _ _
  have hmk := run_make_row' (P := Try.prog) 52 3 (.int .i64 0) 8 Try.underlying52 info_int rfl .i64 .i64 c.length (by omega) (by omega)
  go_enter Try.func54, Try.ntmps54
  go_wp2_with fail
  have hln0 : LnAt w ((w.alloc (.cells (madeCells #[.int .i64 0] c.length) 3)).alloc (.cells #[.slice none 0 0] 133)) (List.replicate c.length 0) (.slice none 0 0) (tr0To c 0) :=
    ⟨(heap_alloc_old _ _ (by simp)).trans hout0, by unfold BoxAt; simpa using heap_alloc_new (w.alloc (.cells (madeCells #[.int .i64 0] c.length) 3)) (.cells #[.slice none 0 0] 133), ⟨[], rfl, World.ownsRow_nil _ _ _ _, fun i u t e => by simp at e⟩, ((Below.refl _ _).alloc (Nat.le_refl _) _).alloc (by simp) _, by simp⟩
  have HLN0 := hide hln0
  clear hout0 hmk hln0
  go_loopw [18] (fun i wr => ∃ (k : Nat) (tv : Value), k ≤ c.length ∧ i = .int .i64 (k : Int) ∧ Hid (LnAt w wr (List.replicate c.length 0) tv (tr0To c k))) (fun i _ => c.length - (intOf i).toNat)
  case atStart => exact ⟨0, _, Nat.zero_le _, rfl, HLN0⟩
  case round =>
    obtain ⟨k, tv, hk, rfl, hln⟩ := hrel
    by_cases hlt : k < c.length
    · obtain ⟨b, o, rfl, hb, hj⟩ := HX.out (by omega)
      have cc : wr.cell? ⟨b, o + k, none⟩ = some (.int .i64 ((c[k] : Nat) : Int)) := (hln.out.bel.cell (p := ⟨b, o + k, none⟩) hb).trans (hj k _ (by simp [natV, hlt]))
      clear hj
      have hst := tr0To_step c k
      rw [getD_nat hlt] at hst
      have hcm := hm _ (List.getElem_mem hlt)
      obtain ⟨ck, hck⟩ : ∃ x, c[k] = x := ⟨_, rfl⟩
      rw [hck] at cc hst hcm
      clear hck
      by_cases h0 : 0 < ck
      · rw [if_pos h0] at hst
        have h0' : (0 : Int) < (ck : Int) := by omega
        have HST := hide hst
        obtain ⟨us, hus, hown, hsy⟩ := hln.out.trs
        have hsl := tr0To_len c k
        obtain ⟨TA, tc, rfl⟩ := own_formI hown
        obtain ⟨x0, x1⟩ := hln.out.box.cell
        obtain ⟨ts, hts⟩ : ∃ ts, tr0To c k = ts := ⟨_, rfl⟩
        rw [hts] at hln hown hus hsy HST hsl x0
        have bw1 := (Below.refl wr.heap.size wr).alloc (Nat.le_refl _) (.cells #[.int .i64 (k : Int)] 3)
        have bw2 := bw1.alloc (by simp) (.cells #[.int .i64 (ck : Int), .int .i64 (k : Int), .slice (some ⟨wr.heap.size, 0, none⟩) 1 1] 135)
        have HOWN := hide (own_below hown bw2)
        have HPU : Hid (∀ tv2 w5, w5.ownsRow (w.heap.size + 1) 135 3 tv2 (ts.length + 1) (trCells ts us ++ [.int .i64 (ck : Int), .int .i64 (k : Int), .slice (some ⟨wr.heap.size, 0, none⟩) 1 1]) → ((wr.alloc (.cells #[.int .i64 (k : Int)] 3)).alloc (.cells #[.int .i64 (ck : Int), .int .i64 (k : Int), .slice (some ⟨wr.heap.size, 0, none⟩) 1 1] 135)).grownBy w5 (Value.slice TA ts.length tc).ownBlock →
            BoxAt w5 (w.heap.size + 1) (.slice TA ts.length tc) ∧ LnAt w (w5.setCell ⟨w.heap.size + 1, 0, none⟩ tv2) (List.replicate c.length 0) tv2 (ts ++ [⟨ck, k, [k]⟩])) := hide (fun tv2 w5 h1 h2 => hln.out.push (t := ⟨ck, k, [k]⟩) hus hown hsy bw1 (SyOwn.new wr _ k (by have := hln.out.siz; omega)) h1 h2)
        have hsz := hln.out.siz
        clear hst hown hsy hts bw1 bw2 hln
        go_wp2_with (at_builtin; refine wpList_append_own_at _ rfl _ _ 133 rfl (w.heap.size + 1) 135 ip _ 3 40 Try.underlying133 hip hpz hps hpb rfl (by decide) _ ts.length (trCells ts us) rfl HOWN.out ⟨wr.heap.size + 1, 0, none⟩ 1 1 [.int .i64 (ck : Int), .int .i64 (k : Int), .slice (some ⟨wr.heap.size, 0, none⟩) 1 1] (by rfl) rfl (fun j u hu => by have := three_new (wr.alloc (.cells #[.int .i64 (k : Int)] 3)) (.int .i64 (ck : Int)) (.int .i64 (k : Int)) (.slice (some ⟨wr.heap.size, 0, none⟩) 1 1) 135 j u hu; simpa using this) (by simp [Value.oneCell']) (by unfold maxLen; omega) (by omega) (by simp; omega) ?_; intro vv w5 hown5 hgrow5 hnil5 hat5; obtain ⟨VA, vc, rfl⟩ := own_formI hown5; have HP5 := hide (HPU.out _ _ hown5 hgrow5); obtain ⟨b0, b1⟩ := HP5.out.1.cell; clear hown5 hgrow5 hnil5 hat5)
        go_roundw
        case rel => exact ⟨k + 1, _, by omega, by go_num, by rw [HST.out]; exact HP5.out.2⟩
        case measure => simp [intOf]; omega
      · rw [if_neg h0] at hst
        have h0' : ¬ ((0 : Int) < (ck : Int)) := by omega
        have h0'' : decide ((0 : Int) < (ck : Int)) = false := by simpa using h0'
        rw [← hst] at hln
        clear hst
        go_wp2_with fail
        go_roundw
        case rel => exact ⟨k + 1, tv, by omega, by go_num, hln⟩
        case measure => simp [intOf]; omega
    · obtain rfl : k = c.length := by omega
      have hln2 : Hid (LnAt w wr (List.replicate c.length 0) tv (tr0 c)) := hln
      obtain ⟨us, hus, hown, hsy⟩ := hln2.out.trs
      have hb300 := (tr0_bounds hn hm).2.2.2.1
      by_cases hone : (tr0 c).length = 1
      · obtain ⟨t, ht⟩ : ∃ t, tr0 c = [t] := List.length_eq_one_iff.1 hone
        obtain ⟨hlp, htl⟩ := LpAt.one hn hm ht
        have HLP := hide hlp
        rw [ht] at hown hus hln2
        obtain ⟨g, tc, rfl, hg, hgz, hgc, hgm⟩ := own_slice hown (by simp)
        obtain ⟨u, hu⟩ : ∃ u, us = [u] := List.length_eq_one_iff.1 hus
        subst hu
        have cl := own_cellsAt hown 1 (.int .i64 (t.l : Int)) rfl
        obtain ⟨o0, o1⟩ := hln2.out.out.cells t.l (by simpa using htl)
        obtain ⟨x0, x1⟩ := hln2.out.box.cell
        simp only [List.length_cons, List.length_nil, Nat.zero_add] at x0
        have htl2 : (t.l : Int) < (c.length : Int) := by omega
        have htl3 : t.l < c.length := htl
        have hset : Hid (LnAt w (wr.setCell ⟨w.heap.size, t.l, none⟩ (.int .i64 1)) ((List.replicate c.length 0).set t.l 1) (.slice (some ⟨g, 0, none⟩) 1 tc) [t]) := hide (hln2.out.set t.l 1)
        have HLEN : Hid (LensOf c ((List.replicate c.length 0).set t.l 1)) := hide (hlp.fin _ (.done _ _ (by rw [ht]; simp)))
        have hx2 := hset.out.box.cell
        try simp only [List.length_cons, List.length_nil, Nat.zero_add] at hx2
        obtain ⟨y0, y1⟩ := hx2
        clear hln hown hsy hus hgm hlp ht hone hgc
        go_wp2_with fail
        refine wp_loop_rounds 1 ?_
        rw [rounds_succ]
        go_wp2_with fail
        go_ret
        exact ⟨_, HLEN.out, rfl, hset.out.out, hset.out.bel⟩
      · have hlp0 := LpAt.start hn hm hone
        have hone' : ¬ ((((tr0 c).length : Nat) : Int) = 1) := by omega
        have hone2 : ((((tr0 c).length : Nat) : Int) == 1) = false := by simp; omega
        obtain ⟨TA, tc, rfl⟩ := own_formI hown
        obtain ⟨x0, x1⟩ := hln2.out.box.cell
        have HLP := hide hlp0
        clear hln hown hsy hus hlp0 us
        go_wp2_with fail
        clear x0 x1 hone hone' hone2
        go_loopg [] (tr0 c).length (fun g wr => ∃ (r : List Nat) (tv : Value) (ts : List Tr), Hid (LnAt w wr r tv ts) ∧ Hid (LpAt c r ts) ∧ ts.length = g ∧ g ≤ 300)
        case atStart => exact ⟨_, _, _, hln2, HLP, rfl, hb300⟩
        case round =>
          obtain ⟨r, tv, ts, hln, hlp, htl, h300⟩ := hrel
          have HTL := hide htl
          obtain ⟨x0, x1⟩ := hln.out.box.cell
          obtain ⟨us, hus, hown, hsy⟩ := hln.out.trs
          obtain ⟨VA, vc, rfl⟩ := own_formI hown
          rw [htl] at x0
          by_cases h1 : 1 < gk
          · have h1' : (1 : Int) < (gk : Int) := by omega
            have hl1 := least_any (w.heap.size + 1) (w.heap.size + 1) _ ts wr hln.out.box (Nat.le_refl _) hln.out.trs (by omega) hlp.out.ap (by omega) (by have := hln.out.siz; omega)
            have HL1 := hide hl1
            have hrl := own_lt hown
            have HRL := hide hrl
            clear hl1 hus hown hsy hrl htl
            go_wp2_with fail
            refine HL1.out.mono ?_
            rintro e w1 ⟨p, a, q, ua, tv1, hts, hla, rfl, hua, hbx1, htr1, hbe1, hof1, hkp1⟩
            have hln1 := hide (hln.out.took hbx1 htr1 hbe1 hof1)
            have HSP := hide (show ts = p ++ a :: q ∧ Least a (p ++ q) from ⟨hts, hla⟩)
            have hpq : (p ++ q).length + 1 = gk := by
              have := congrArg List.length hts
              rw [HTL.out] at this
              simp at this ⊢
              omega
            have HUA := hide hua
            obtain ⟨UA, uc, rfl⟩ := own_formI hua
            clear hts hla hua hbx1 htr1 hbe1 hof1 hkp1 x0 x1
            go_wp2_with fail
            have bA := (Below.refl w1.heap.size w1).alloc (Nat.le_refl _) (.cells #[.int .i64 (a.w : Int), .int .i64 (a.l : Int), .slice UA a.sy.length uc] 135)
            have hln2 := hide (hln1.out.below bA)
            have htc2 : Hid (TreeCell (w1.alloc (.cells #[.int .i64 (a.w : Int), .int .i64 (a.l : Int), .slice UA a.sy.length uc] 135)) w1.heap.size (.int .i64 (a.w : Int)) (.int .i64 (a.l : Int)) (.slice UA a.sy.length uc)) := hide (heap_alloc_new _ _)
            have hua2 := hide (HUA.out.below bA)
            obtain ⟨us1, _, hown1, _⟩ := hln1.out.trs
            have hrl1 := own_lt hown1
            have HRL1 := hide hrl1
            have hz2 : (w1.alloc (.cells #[.int .i64 (a.w : Int), .int .i64 (a.l : Int), .slice UA a.sy.length uc] 135)).heap.size = w1.heap.size + 1 := by simp
            have hsz1 := hln1.out.siz
            obtain ⟨w2, hw2⟩ : ∃ w2, w2 = w1.alloc (.cells #[.int .i64 (a.w : Int), .int .i64 (a.l : Int), .slice UA a.sy.length uc] 135) := ⟨_, rfl⟩
            rw [← hw2] at hln2 htc2 hua2 hz2 ⊢
            clear hw2 bA hrl1 hown1
            have hl2 := least_any (w.heap.size + 1) (w.heap.size + 1) _ (p ++ q) w2 hln2.out.box (Nat.le_refl _) hln2.out.trs (by omega) (Apart.cut (by rw [← HSP.out.1]; exact hlp.out.ap)) (by omega) (by omega)
            refine hl2.mono ?_
            rintro e w3 ⟨p2, b, q2, ub, tv2, hts2, hlb, rfl, hub, hbx2, htr2, hbe2, hof2, hkp2⟩
            have hln3 := hide (hln2.out.took hbx2 htr2 hbe2 hof2)
            have HST := hide (two_least HSP.out.1 HSP.out.2 hts2 hlb)
            have htc3 : Hid (TreeCell w3 w1.heap.size (.int .i64 (a.w : Int)) (.int .i64 (a.l : Int)) (.slice UA a.sy.length uc)) := hide ((hkp2 _ (by omega) (by omega) (fun e => by have := HRL1.out _ e; omega)).trans htc2.out)
            have hua3 := hide (hua2.out.off hof2 (own_typeG hua2.out hln2.out.box (by decide)))
            have hpq2 : (p2 ++ q2).length + 2 = gk := by
              have := congrArg List.length hts2
              simp at this hpq ⊢
              omega
            have HUB := hide hub
            obtain ⟨UB, ub1, rfl⟩ := own_formI hub
            have hB8 : w1.heap.size < w3.heap.size := by have := hbe2.size; omega
            clear hl2 hts2 hlb hub hbx2 htr2 hbe2 hof2 hkp2 htc2 hua2 HUA HSP hln1 hln2 HL1 HRL HRL1
            have bB := (Below.refl w3.heap.size w3).alloc (Nat.le_refl _) (.cells #[.int .i64 (b.w : Int), .int .i64 (b.l : Int), .slice UB b.sy.length ub1] 135)
            have hln4 := hide (hln3.out.below bB)
            have htc4 : Hid (TreeCell (w3.alloc (.cells #[.int .i64 (b.w : Int), .int .i64 (b.l : Int), .slice UB b.sy.length ub1] 135)) w1.heap.size (.int .i64 (a.w : Int)) (.int .i64 (a.l : Int)) (.slice UA a.sy.length uc)) := hide ((bB.block _ hB8).trans htc3.out)
            have htd4 : Hid (TreeCell (w3.alloc (.cells #[.int .i64 (b.w : Int), .int .i64 (b.l : Int), .slice UB b.sy.length ub1] 135)) w3.heap.size (.int .i64 (b.w : Int)) (.int .i64 (b.l : Int)) (.slice UB b.sy.length ub1)) := hide (heap_alloc_new _ _)
            have hua4 := hide (hua3.out.below bB)
            have hub4 := hide (HUB.out.below bB)
            have hz4 : (w3.alloc (.cells #[.int .i64 (b.w : Int), .int .i64 (b.l : Int), .slice UB b.sy.length ub1] 135)).heap.size = w3.heap.size + 1 := by simp
            go_upto_region 15 with fail
            obtain ⟨w4, hw4⟩ : ∃ w4, w4 = w3.alloc (.cells #[.int .i64 (b.w : Int), .int .i64 (b.l : Int), .slice UB b.sy.length ub1] 135) := ⟨_, rfl⟩
            rw [← hw4] at hln4 htc4 htd4 hua4 hub4 hz4 ⊢
            clear hw4 bB hln3 htc3 hua3 HUB
            go_cut [10] from 51 to 68 (fun x wx => ∃ (NB : Nat) (u : Value), x = .pointer (some ⟨NB, 0, none⟩) ∧ TreeCell wx NB (.int .i64 (((joinT a b).w : Nat) : Int)) (.int .i64 (((joinT a b).l : Nat) : Int)) u ∧ SyOwn wx (w.heap.size + 1) u (joinT a b).sy ∧ Below w4.heap.size w4 wx ∧ w4.heap.size ≤ NB)
            case first =>
              obtain ⟨⟨a0, a1, a2⟩, _⟩ := htc4.out.cells
              obtain ⟨⟨b0, b1, b2⟩, _⟩ := htd4.out.cells
              have hmem := HST.out
              have hsum : a.w + b.w ≤ 300000000 ∧ a.sy.length ≤ 1000 ∧ b.sy.length ≤ 1000 := by
                obtain ⟨a', b', l', pp, _, _, ej, _⟩ := hmem
                have q1 := (pp.map Tr.w).sum_nat
                have q2 := (pp.flatMap_right Tr.sy).length_eq
                have q3 := hlp.out.wsum
                have q4 := hlp.out.cnt
                simp only [List.map_cons, List.sum_cons] at q1
                simp only [List.flatMap_cons, List.length_append] at q2
                have q5 : a.w + b.w = a'.w + b'.w := congrArg Tr.w ej
                have q6 := congrArg (fun t => t.sy.length) ej
                simp only [joinT, List.length_append] at q6
                omega
              have hwab : IntKind.i64.wrap ((a.w : Int) + (b.w : Int)) = (a.w : Int) + (b.w : Int) := by rw [IntKind.wrap_i64]; omega
              have hwj : (a.w : Int) + (b.w : Int) = (((joinT a b).w : Nat) : Int) := (Int.natCast_add _ _).symm
              have hlj : min (a.l : Int) (b.l : Int) = (((joinT a b).l : Nat) : Int) := by show _ = ((min a.l b.l : Nat) : Int); omega
              obtain ⟨JW, hJW⟩ : ∃ x : Int, (((joinT a b).w : Nat) : Int) = x := ⟨_, rfl⟩
              obtain ⟨JL, hJL⟩ : ∃ x : Int, (((joinT a b).l : Nat) : Int) = x := ⟨_, rfl⟩
              rw [hJW] at hwj
              rw [hJL] at hlj
              rw [hwj] at hwab
              have HJ := hide (show (((joinT a b).w : Nat) : Int) = JW ∧ (((joinT a b).l : Nat) : Int) = JL from ⟨hJW, hJL⟩)
              obtain ⟨OB, hOB⟩ : ∃ o : Obj, o = .cells #[.slice UA a.sy.length uc, .slice UB b.sy.length ub1] 52 := ⟨_, rfl⟩
              obtain ⟨Z, hZ⟩ : ∃ o : Obj, o = .cells #[.int .i64 0, .int .i64 0, .slice none 0 0] 135 := ⟨_, rfl⟩
              have hbz : w.heap.size + 1 ≤ w4.heap.size := by have := hln4.out.siz; omega
              have n1 : Below w4.heap.size w4 (w4.alloc OB).drew := ((Below.refl w4.heap.size w4).alloc (Nat.le_refl _) OB).drew
              have n2 : Below w4.heap.size w4 ((w4.alloc OB).alloc Z).drew := (((Below.refl w4.heap.size w4).alloc (Nat.le_refl _) OB).alloc (by simp) Z).drew
              have n3 : Below w4.heap.size w4 ((w4.alloc Z).alloc OB).drew := (((Below.refl w4.heap.size w4).alloc (Nat.le_refl _) Z).alloc (by simp) OB).drew
              have r1 : Rd (w4.alloc OB) 1 (.slice (some ⟨w3.heap.size + 1, 0, none⟩) 2 2) 2 [.slice UA a.sy.length uc, .slice UB b.sy.length ub1] := by rw [hOB, ← hz4]; exact rd_pair w4 _ _ _ Z
              have r3 : Rd ((w4.alloc Z).alloc OB) 1 (.slice (some ⟨w3.heap.size + 1 + 1, 0, none⟩) 2 2) 2 [.slice UA a.sy.length uc, .slice UB b.sy.length ub1] := by
                have := rd_pair (w4.alloc Z) (.slice UA a.sy.length uc) (.slice UB b.sy.length ub1) 52 Z
                rw [hOB, ← hz4]
                simpa using this
              have r2 : Rd ((w4.alloc OB).alloc Z) 1 (.slice (some ⟨w3.heap.size + 1, 0, none⟩) 2 2) 2 [.slice UA a.sy.length uc, .slice UB b.sy.length ub1] := r1.below ((Below.refl _ _).alloc (Nat.le_refl _) Z)
              have HC1 := hide (concat_two (W := (w4.alloc OB).drew) (base := w.heap.size + 1) (v := .slice (some ⟨w3.heap.size + 1, 0, none⟩) 2 2) r1 (hua4.out.below n1) (hub4.out.below n1) hsum.2.1 hsum.2.2 (by have := n1.size; omega))
              have HC2 := hide (concat_two (W := ((w4.alloc OB).alloc Z).drew) (base := w.heap.size + 1) (v := .slice (some ⟨w3.heap.size + 1, 0, none⟩) 2 2) r2 (hua4.out.below n2) (hub4.out.below n2) hsum.2.1 hsum.2.2 (by have := n2.size; omega))
              have HC3 := hide (concat_two (W := ((w4.alloc Z).alloc OB).drew) (base := w.heap.size + 1) (v := .slice (some ⟨w3.heap.size + 1 + 1, 0, none⟩) 2 2) r3 (hua4.out.below n3) (hub4.out.below n3) hsum.2.1 hsum.2.2 (by have := n3.size; omega))
              have g2 : Hid (TreeCell ((w4.alloc OB).alloc Z).drew (w3.heap.size + 1 + 1) (.int .i64 0) (.int .i64 0) (.slice none 0 0)) := hide (by
                unfold TreeCell
                rw [hZ, ← hz4]
                show ((w4.alloc OB).alloc (.cells #[.int .i64 0, .int .i64 0, .slice none 0 0] 135)).heap[w4.heap.size + 1]? = _
                have := heap_alloc_new (w4.alloc OB) (.cells #[.int .i64 0, .int .i64 0, .slice none 0 0] 135)
                rw [show (w4.alloc OB).heap.size = w4.heap.size + 1 by simp] at this
                exact this)
              have g3 : Hid (TreeCell ((w4.alloc Z).alloc OB).drew (w3.heap.size + 1) (.int .i64 0) (.int .i64 0) (.slice none 0 0)) := hide (by
                unfold TreeCell
                rw [hZ, ← hz4]
                exact (heap_alloc_old _ _ (by simp)).trans (heap_alloc_new _ _))
              have N1 := hide n1
              have N2 := hide n2
              have N3 := hide n3
              rw [hOB] at HC1 N1
              rw [hOB, hZ] at HC2 HC3 g2 g3 N2 N3
              have hB9 : w3.heap.size < w4.heap.size := by omega
              have hB8' : w1.heap.size < w4.heap.size := by omega
              clear n1 n2 n3 r1 r2 r3 hOB hZ OB Z hmem hsum hJW hJL
              have ne1a : ¬ (w1.heap.size = w3.heap.size + 1) := by omega
              have ne1b : ¬ (w3.heap.size + 1 = w1.heap.size) := by omega
              have ne2a : ¬ (w1.heap.size = w3.heap.size + 1 + 1) := by omega
              have ne2b : ¬ (w3.heap.size + 1 + 1 = w1.heap.size) := by omega
              have ne3a : ¬ (w3.heap.size = w3.heap.size + 1) := by omega
              have ne3b : ¬ (w3.heap.size + 1 = w3.heap.size) := by omega
              have ne4a : ¬ (w3.heap.size = w3.heap.size + 1 + 1) := by omega
              have ne4b : ¬ (w3.heap.size + 1 + 1 = w3.heap.size) := by omega
              go_region_held3 (fun w' => w'.cell? ⟨w1.heap.size, 0, none⟩ = some (.int .i64 (a.w : Int)) ∧ w'.cell? ⟨w1.heap.size, 1, none⟩ = some (.int .i64 (a.l : Int)) ∧ w'.cell? ⟨w1.heap.size, 2, none⟩ = some (.slice UA a.sy.length uc) ∧ w'.cell? ⟨w3.heap.size, 0, none⟩ = some (.int .i64 (b.w : Int)) ∧ w'.cell? ⟨w3.heap.size, 1, none⟩ = some (.int .i64 (b.l : Int)) ∧ w'.cell? ⟨w3.heap.size, 2, none⟩ = some (.slice UB b.sy.length ub1)) (go_keep)
                (first
                  | (go_at_call 81; (with_reducible refine (HC1.out).mono ?_); rintro e w5 ⟨U, un, rfl, hu5, hb5⟩; have EB : Hid (Below w4.heap.size w4 w5) := hide (N1.out.trans (hb5.mono N1.out.size)); have HU5 := hide hu5; clear hu5 hb5; have q0 := (EB.out.cell (p := ⟨w1.heap.size, 0, none⟩) hB8').trans a0; have q1 := (EB.out.cell (p := ⟨w1.heap.size, 1, none⟩) hB8').trans a1; have q2 := (EB.out.cell (p := ⟨w1.heap.size, 2, none⟩) hB8').trans a2; have q3 := (EB.out.cell (p := ⟨w3.heap.size, 0, none⟩) hB9).trans b0; have q4 := (EB.out.cell (p := ⟨w3.heap.size, 1, none⟩) hB9).trans b1; have q5 := (EB.out.cell (p := ⟨w3.heap.size, 2, none⟩) hB9).trans b2)
                  | (go_at_call 81; (with_reducible refine (HC2.out).mono ?_); rintro e w5 ⟨U, un, rfl, hu5, hb5⟩; have EB : Hid (Below w4.heap.size w4 w5) := hide (N2.out.trans (hb5.mono N2.out.size)); have G : Hid (TreeCell w5 (w3.heap.size + 1 + 1) (.int .i64 0) (.int .i64 0) (.slice none 0 0)) := hide ((hb5.block _ (Array.getElem?_eq_some_iff.1 g2.out).1).trans g2.out); have HU5 := hide hu5; clear hu5 hb5; obtain ⟨⟨k0, k1, k2⟩, kf⟩ := G.out.cells; have f0 := kf 0; have f1 := kf 1; have f2 := kf 2; clear kf; have q0 := (EB.out.cell (p := ⟨w1.heap.size, 0, none⟩) hB8').trans a0; have q1 := (EB.out.cell (p := ⟨w1.heap.size, 1, none⟩) hB8').trans a1; have q2 := (EB.out.cell (p := ⟨w1.heap.size, 2, none⟩) hB8').trans a2; have q3 := (EB.out.cell (p := ⟨w3.heap.size, 0, none⟩) hB9).trans b0; have q4 := (EB.out.cell (p := ⟨w3.heap.size, 1, none⟩) hB9).trans b1; have q5 := (EB.out.cell (p := ⟨w3.heap.size, 2, none⟩) hB9).trans b2)
                  | (go_at_call 81; (with_reducible refine (HC3.out).mono ?_); rintro e w5 ⟨U, un, rfl, hu5, hb5⟩; have EB : Hid (Below w4.heap.size w4 w5) := hide (N3.out.trans (hb5.mono N3.out.size)); have G : Hid (TreeCell w5 (w3.heap.size + 1) (.int .i64 0) (.int .i64 0) (.slice none 0 0)) := hide ((hb5.block _ (Array.getElem?_eq_some_iff.1 g3.out).1).trans g3.out); have HU5 := hide hu5; clear hu5 hb5; obtain ⟨⟨k0, k1, k2⟩, kf⟩ := G.out.cells; have f0 := kf 0; have f1 := kf 1; have f2 := kf 2; clear kf; have q0 := (EB.out.cell (p := ⟨w1.heap.size, 0, none⟩) hB8').trans a0; have q1 := (EB.out.cell (p := ⟨w1.heap.size, 1, none⟩) hB8').trans a1; have q2 := (EB.out.cell (p := ⟨w1.heap.size, 2, none⟩) hB8').trans a2; have q3 := (EB.out.cell (p := ⟨w3.heap.size, 0, none⟩) hB9).trans b0; have q4 := (EB.out.cell (p := ⟨w3.heap.size, 1, none⟩) hB9).trans b1; have q5 := (EB.out.cell (p := ⟨w3.heap.size, 2, none⟩) hB9).trans b2)
                  | (go_at_call 81; go_loud (show False)))
              all_goals
                (rename (World.cell? _ _ = _ ∧ _) => hh; clear hh)
                go_wp2_with fail
                go_meet
                case rel =>
                  have HTS : SyOwn w5 (w.heap.size + 1) (.slice U (a.sy.length + b.sy.length) un) (joinT a b).sy := HU5.out
                  rw [HJ.out.1, HJ.out.2]
                  first
                    | (refine ⟨w5.heap.size, .slice U (a.sy.length + b.sy.length) un, by with_reducible rfl, ?_, ?_, ?_, ?_⟩
                       · exact heap_alloc_new _ _
                       · exact HTS.below ((Below.refl _ _).alloc (Nat.le_refl _) _)
                       · exact EB.out.alloc EB.out.size _
                       · exact EB.out.size)
                    | (refine ⟨w3.heap.size + 1, .slice U (a.sy.length + b.sy.length) un, by with_reducible rfl, ?_, ?_, ?_, by omega⟩
                       · exact TreeCell.set G.out _ _ _
                       · refine own_offG HTS (fun x hx => ?_)
                         have h := own_typeG HTS G.out (by decide)
                         have h2 : x ≠ w3.heap.size + 1 := fun e => h (by rw [hx, e])
                         rw [heap_setCell_other _ _ _ _ h2, heap_setCell_other _ _ _ _ h2, heap_setCell_other _ _ _ _ h2]
                       · exact ((EB.out.setCell (p := ⟨w3.heap.size + 1, 0, none⟩) (by show w4.heap.size ≤ w3.heap.size + 1; omega) _).setCell (p := ⟨w3.heap.size + 1, 1, none⟩) (by show w4.heap.size ≤ w3.heap.size + 1; omega) _).setCell (p := ⟨w3.heap.size + 1, 2, none⟩) (by show w4.heap.size ≤ w3.heap.size + 1; omega) _)
                    | (refine ⟨w3.heap.size + 1 + 1, .slice U (a.sy.length + b.sy.length) un, by with_reducible rfl, ?_, ?_, ?_, by omega⟩
                       · exact TreeCell.set G.out _ _ _
                       · refine own_offG HTS (fun x hx => ?_)
                         have h := own_typeG HTS G.out (by decide)
                         have h2 : x ≠ w3.heap.size + 1 + 1 := fun e => h (by rw [hx, e])
                         rw [heap_setCell_other _ _ _ _ h2, heap_setCell_other _ _ _ _ h2, heap_setCell_other _ _ _ _ h2]
                       · exact ((EB.out.setCell (p := ⟨w3.heap.size + 1 + 1, 0, none⟩) (by show w4.heap.size ≤ w3.heap.size + 1 + 1; omega) _).setCell (p := ⟨w3.heap.size + 1 + 1, 1, none⟩) (by show w4.heap.size ≤ w3.heap.size + 1 + 1; omega) _).setCell (p := ⟨w3.heap.size + 1 + 1, 2, none⟩) (by show w4.heap.size ≤ w3.heap.size + 1 + 1; omega) _)
            case rest =>
              --[R
              obtain ⟨NB, u, rfl, htcx, hsyx, hbx, hNB⟩ := hcut
              have hlpx := hlp.out.step HST.out
              have hlnx := hide (hln4.out.below hbx)
              have hszx := hln4.out.siz
              have HTCX := hide htcx
              have HSYX := hide hsyx
              obtain ⟨U, uu, rfl⟩ := own_formI hsyx
              obtain ⟨⟨t0, t1, t2⟩, _⟩ := htcx.cells
              have hxin : joinT a b ∈ (p2 ++ q2) ++ [joinT a b] := List.mem_append_right _ (by simp)
              have HSLT : Hid (∀ s ∈ (joinT a b).sy, s < c.length) := hide (fun s hs => hlpx.sy _ hxin s hs)
              have hnod0 : (joinT a b).sy.Nodup := by
                have h := hlpx.nod
                rw [List.flatMap_append] at h
                have h2 := (List.nodup_append.1 h).2.1
                simpa using h2
              have HNOD := hide hnod0
              have HRL0 := hide hlp.out.len
              have HDEP := hide hlp.out.dep
              have HLPX := hide hlpx
              have hlx : ((p2 ++ q2) ++ [joinT a b]).length + 1 = gk := by
                rw [List.length_append]
                simp only [List.length_cons, List.length_nil]
                omega
              obtain ⟨sy, hsy⟩ : ∃ l, (joinT a b).sy = l := ⟨_, rfl⟩
              rw [hsy] at HSYX HSLT HNOD t2 HTCX HLPX
              have hsyl : sy.length ≤ 1000 := by
                have h := hlpx.cnt
                rw [List.flatMap_append, List.length_append] at h
                simp only [List.flatMap_cons, List.flatMap_nil, List.append_nil, hsy] at h
                omega
              clear htcx hsyx hbx hlpx hnod0 hxin htc4 htd4 hua4 hub4 hln4
              go_wp2_with fail
              clear t0 t1 t2
              go_loopw [71] (fun i wr => ∃ j : Nat, j ≤ sy.length ∧ i = .int .i64 (j : Int) ∧ Hid (LnAt w wr (bump r (sy.take j)) tv2 (p2 ++ q2)) ∧ Hid (TreeCell wr NB (.int .i64 (((joinT a b).w : Nat) : Int)) (.int .i64 (((joinT a b).l : Nat) : Int)) (.slice U sy.length uu)) ∧ Hid (SyOwn wr (w.heap.size + 1) (.slice U sy.length uu) sy)) (fun i _ => sy.length - (intOf i).toNat)
              case atStart => exact ⟨0, Nat.zero_le _, rfl, hlnx, HTCX, HSYX⟩
              case round =>
                obtain ⟨j, hj, rfl, hlj, htj, hsj⟩ := hrel
                by_cases hjl : j < sy.length
                · obtain ⟨gu, gc, eu, hgu, hguz, _, _⟩ := own_slice hsj.out (by omega)
                  injection eu with e1 _ e3
                  subst e1 e3
                  obtain ⟨s, hs⟩ : ∃ s, sy[j] = s := ⟨_, rfl⟩
                  have cs : wr.cell? ⟨gu, j, none⟩ = some (.int .i64 (s : Int)) := own_cellsAt hsj.out j _ (by simp [hjl, hs])
                  have hsm : s ∈ sy := by rw [← hs]; exact List.getElem_mem hjl
                  have hsl := HSLT.out s hsm
                  have hrl : (bump r (sy.take j)).length = c.length := by rw [bump_length]; exact HRL0.out
                  obtain ⟨o0, o1⟩ := hlj.out.out.cells s (by rw [hrl]; exact hsl)
                  have htk : sy.take (j + 1) = sy.take j ++ [s] := by rw [List.take_succ_eq_append_getElem hjl, hs]
                  have hval : (bump r (sy.take j)).getD s 0 ≤ 1000 := by
                    rw [getD_bump _ _ _ (List.Sublist.nodup (List.take_sublist j sy) HNOD.out) (fun t ht => by rw [HRL0.out]; exact HSLT.out t (List.mem_of_mem_take ht))]
                    have := HDEP.out s
                    split <;> omega
                  obtain ⟨x, hx⟩ : ∃ x, (bump r (sy.take j)).getD s 0 = x := ⟨_, rfl⟩
                  rw [hx] at o0 hval
                  have hw1' : IntKind.i64.wrap ((x : Int) + 1) = (x : Int) + 1 := by rw [IntKind.wrap_i64]; omega
                  have hsl2 : (s : Int) < (c.length : Int) := by omega
                  have HL2 : Hid (LnAt w (wr.setCell ⟨w.heap.size, s, none⟩ (.int .i64 ((x : Int) + 1))) (bump r (sy.take (j + 1))) tv2 (p2 ++ q2)) := hide (by
                    rw [htk, bump_snoc, bump1, hx]
                    exact hlj.out.set s (x + 1))
                  have HT2 : Hid (TreeCell (wr.setCell ⟨w.heap.size, s, none⟩ (.int .i64 ((x : Int) + 1))) NB (.int .i64 (((joinT a b).w : Nat) : Int)) (.int .i64 (((joinT a b).l : Nat) : Int)) (.slice (some ⟨gu, 0, none⟩) sy.length uu)) := hide ((heap_setCell_other _ _ _ _ (by show NB ≠ w.heap.size; omega)).trans htj.out)
                  have HS2 : Hid (SyOwn (wr.setCell ⟨w.heap.size, s, none⟩ (.int .i64 ((x : Int) + 1))) (w.heap.size + 1) (.slice (some ⟨gu, 0, none⟩) sy.length uu) sy) := hide (own_offG hsj.out fun y hy => heap_setCell_other _ _ _ _ (by have := own_ge hsj.out y hy; show y ≠ w.heap.size; omega))
                  clear hs hsm hrl htk hx hlj htj hsj
                  go_wp2_with fail
                  go_roundw
                  case rel => exact ⟨j + 1, by omega, by go_num, HL2, HT2, HS2⟩
                  case measure => simp [intOf]; omega
                · obtain rfl : j = sy.length := by omega
                  have hlj' : Hid (LnAt w wr (bump r sy) tv2 (p2 ++ q2)) := by
                    have h := hlj
                    rw [List.take_length] at h
                    exact h
                  obtain ⟨us2, hus2, hown2, hsy2⟩ := hlj'.out.trs
                  obtain ⟨VA2, vc2, rfl⟩ := own_formI hown2
                  obtain ⟨x0, x1⟩ := hlj'.out.box.cell
                  obtain ⟨⟨t0, t1, t2⟩, _⟩ := htj.out.cells
                  have HOWN2 := hide (own_below hown2 ((Below.refl _ _).alloc (Nat.le_refl _) (.cells #[.int .i64 (((joinT a b).w : Nat) : Int), .int .i64 (((joinT a b).l : Nat) : Int), .slice U sy.length uu] 135)))
                  have HPU : Hid (∀ tv3 w9, w9.ownsRow (w.heap.size + 1) 135 3 tv3 ((p2 ++ q2).length + 1) (trCells (p2 ++ q2) us2 ++ [.int .i64 (((joinT a b).w : Nat) : Int), .int .i64 (((joinT a b).l : Nat) : Int), .slice U sy.length uu]) → (wr.alloc (.cells #[.int .i64 (((joinT a b).w : Nat) : Int), .int .i64 (((joinT a b).l : Nat) : Int), .slice U sy.length uu] 135)).grownBy w9 (Value.slice VA2 (p2 ++ q2).length vc2).ownBlock →
                      BoxAt w9 (w.heap.size + 1) (.slice VA2 (p2 ++ q2).length vc2) ∧ LnAt w (w9.setCell ⟨w.heap.size + 1, 0, none⟩ tv3) (bump r sy) tv3 ((p2 ++ q2) ++ [joinT a b])) := hide (fun tv3 w9 h1 h2 => hlj'.out.push (t := joinT a b) hus2 hown2 hsy2 (Below.refl _ _) (by unfold SyOwn; rw [hsy]; exact hsj.out) h1 h2)
                  have hszr := hlj'.out.siz
                  have hpl : (p2 ++ q2).length ≤ 300 := by omega
                  obtain ⟨PQ, hPQ⟩ : ∃ l, p2 ++ q2 = l := ⟨_, rfl⟩
                  rw [hPQ] at x0 HOWN2 HPU hus2 hpl hlx HLPX
                  rw [hsy] at *
                  obtain ⟨TW, hTW⟩ : ∃ n : Int, (((joinT a b).w : Nat) : Int) = n := ⟨_, rfl⟩
                  obtain ⟨TL, hTL⟩ : ∃ n : Int, (((joinT a b).l : Nat) : Int) = n := ⟨_, rfl⟩
                  rw [hTW] at t0 HOWN2 HPU
                  rw [hTL] at t1 HOWN2 HPU
                  clear hown2 hsy2 hlj hlj' htj hsj hPQ hTW hTL hus2
                  go_wp2_with (at_builtin; refine wpList_append_own_at _ rfl _ _ 133 rfl (w.heap.size + 1) 135 ip _ 3 40 Try.underlying133 hip hpz hps hpb rfl (by decide) _ PQ.length (trCells PQ us2) rfl HOWN2.out ⟨wr.heap.size, 0, none⟩ 1 1 [.int .i64 TW, .int .i64 TL, .slice U sy.length uu] (by rfl) rfl (three_new _ _ _ _ _) (by simp [Value.oneCell']) (by unfold maxLen; omega) (by omega) (by simp; omega) ?_; intro vv w9 hown9 hgrow9 hnil9 hat9; obtain ⟨VA9, vc9, rfl⟩ := own_formI hown9; have HP9 := hide (HPU.out _ _ hown9 hgrow9); obtain ⟨z0, z1⟩ := HP9.out.1.cell; clear hown9 hgrow9 hnil9 hat9)
                  go_roundg (PQ ++ [joinT a b]).length
                  case measure => omega
                  case rel => exact ⟨_, _, _, hide HP9.out.2, HLPX, rfl, by omega⟩
              --R]
          · have h1' : ¬ ((1 : Int) < (gk : Int)) := by omega
            have h1'' : decide ((1 : Int) < (gk : Int)) = false := by simpa using h1'
            have HLEN : Hid (LensOf c r) := hide (hlp.out.fin _ (.done _ _ (by omega)))
            go_wp2_with fail
            go_ret
            exact ⟨_, HLEN.out, rfl, hln.out.out, hln.out.bel⟩
end Go.Proofs.Ytfjbdbdjhkmifaa
