/- Pieces of a merge that a call builds. Plain lemmas; no program in sight. -/
import Derived.Test.YtfjbdbdjhkmifaaPiece
set_option linter.unusedVariables false
set_option linter.unusedSimpArgs false
namespace Go.Pw
open Go.RowKit

def PcSit (w : World) (lo : Nat) (u : PcV) (v : Value) : Prop := Sits w lo u.lines v ∧ Sits w lo u.base v ∧ Sits w lo u.a v ∧ Sits w lo u.b v
def Under (M : Nat) (x : Value) : Prop := ∀ g, x.ownBlock = some g → g < M
def PcUnder (M : Nat) (u : PcV) : Prop := Under M u.lines ∧ Under M u.base ∧ Under M u.a ∧ Under M u.b
def NoBlk (x : Value) : Prop := x.ownBlock = none
/-- the last piece's sure lines, which more lines may be put behind -/
def LastOwn (w : World) (tS lo : Nat) (ps : List Pc) (vs : List PcV) : Prop :=
  ∀ A p B u, ps = A ++ [p] → vs = B ++ [u] → p.conf = false → ∃ M, lo ≤ M ∧ M ≤ w.heap.size ∧ w.ownsRow M tS 1 u.lines p.lines.length (p.lines.map Value.string) ∧ (∀ x ∈ B, PcUnder M x) ∧ NoBlk u.base ∧ NoBlk u.a ∧ NoBlk u.b
def PcElems (w : World) (lo : Nat) (v : Value) (ps : List Pc) (vs : List PcV) : Prop :=
  ∀ (i : Nat) (p : Pc) (u : PcV), ps[i]? = some p → vs[i]? = some u → PcRd w p u ∧ PcSit w lo u v
/-- A slice of pieces that the call itself builds: its row lies from block base on, what it leads to from block lo on. -/
def PcsOwn (w : World) (tP tS base lo : Nat) (v : Value) (ps : List Pc) : Prop :=
  ∃ vs : List PcV, vs.length = ps.length ∧ w.ownsRow base tP 5 v ps.length (pcCells ps vs) ∧ PcElems w lo v ps vs ∧ LastOwn w tS lo ps vs
section
variable {w w' : World} {tP tS base lo : Nat} {v : Value} {ps : List Pc}
theorem PcsOwn.nil (w : World) (tP tS base lo : Nat) : PcsOwn w tP tS base lo (.slice none 0 0) [] :=
  ⟨[], rfl, World.ownsRow_nil _ _ _ _, fun i p u e => by simp at e, fun A p B u e => by simp at e⟩
theorem PcSit.more {u : PcV} (h : PcSit w lo u v) (hz : w.heap.size ≤ w'.heap.size) : PcSit w' lo u v := ⟨h.1.more hz, h.2.1.more hz, h.2.2.1.more hz, h.2.2.2.more hz⟩
theorem PcElems.below {vs : List PcV} (h : PcElems w lo v ps vs) (hb : Below w.heap.size w w') : PcElems w' lo v ps vs := fun i p u e1 e2 => ⟨(h i p u e1 e2).1.below hb, (h i p u e1 e2).2.more hb.size⟩
theorem LastOwn.below {vs : List PcV} (h : LastOwn w tS lo ps vs) (hb : Below w.heap.size w w') : LastOwn w' tS lo ps vs := fun A p B u e1 e2 e3 => by
  obtain ⟨M, h1, h1', h2, h3⟩ := h A p B u e1 e2 e3
  exact ⟨M, h1, Nat.le_trans h1' hb.size, own_below h2 hb, h3⟩
theorem PcsOwn.below (h : PcsOwn w tP tS base lo v ps) (hb : Below w.heap.size w w') : PcsOwn w' tP tS base lo v ps := by
  obtain ⟨vs, h1, h2, h3, h4⟩ := h
  exact ⟨vs, h1, own_below h2 hb, h3.below hb, h4.below hb⟩
theorem PcsOwn.read (h : PcsOwn w tP tS base lo v ps) : Pieces w v ps := by
  obtain ⟨vs, h1, h2, h3, _⟩ := h
  exact ⟨vs, h1, .of_own h2, fun i p u e1 e2 => (h3 i p u e1 e2).1⟩
/-- a reading is kept while another block is written -/
theorem Rd.set_other {size n : Nat} {x : Value} {xs : List Value} (h : Rd w size x n xs) {p : Addr} (hp : x.ownBlock ≠ some p.block) (u : Value) : Rd (w.setCell p u) size x n xs := by
  obtain ⟨h1, A, cap, rfl, hc, hm, hx⟩ := h
  refine ⟨h1, A, cap, rfl, hc, hm, fun hn => ?_⟩
  obtain ⟨b, o, rfl, hb, hj⟩ := hx hn
  have hne : b ≠ p.block := fun e => hp (by rw [← e]; rfl)
  exact ⟨b, o, rfl, by simpa [World.setCell] using hb, fun j u' hu => (World.cell?_of_block (w := w) (Below.heap_setCell w p u b hne)).trans (hj j u' hu)⟩
theorem Strs.set_other {x : Value} {l : List ByteArray} (h : Strs w x l) {p : Addr} (hp : x.ownBlock ≠ some p.block) (u : Value) : Strs (w.setCell p u) x l := ⟨h.1.set_other hp u, h.2⟩
theorem PcRd.set_other {p : Pc} {u : PcV} (h : PcRd w p u) {a : Addr} (h1 : u.lines.ownBlock ≠ some a.block) (h2 : u.base.ownBlock ≠ some a.block) (h3 : u.a.ownBlock ≠ some a.block) (h4 : u.b.ownBlock ≠ some a.block) (x : Value) : PcRd (w.setCell a x) p u :=
  ⟨h.1.set_other h1 x, h.2.1.set_other h2 x, h.2.2.1.set_other h3 x, h.2.2.2.set_other h4 x⟩
theorem own_set_other {e size n : Nat} {x : Value} {xs : List Value} {B : Nat} (h : w.ownsRow B e size x n xs) {a : Addr} (ha : x.ownBlock ≠ some a.block) (u : Value) : (w.setCell a u).ownsRow B e size x n xs := by
  refine ⟨h.1, ?_⟩
  rcases h.2 with h2 | ⟨g, cap, cur, rfl, hg, hh, r⟩
  · exact .inl h2
  · exact .inr ⟨g, cap, cur, rfl, hg, (Below.heap_setCell _ _ _ _ (fun e => ha (by rw [← e]; rfl))).trans hh, r⟩
/-- a cell below all that the pieces hold is written -/
theorem PcsOwn.set_low (h : PcsOwn w tP tS base lo v ps) {a : Addr} (ha : a.block < lo) (hb : a.block < base) (x : Value) : PcsOwn (w.setCell a x) tP tS base lo v ps := by
  obtain ⟨vs, h1, h2, h3, h4⟩ := h
  have ne : ∀ y, Sits w lo y v → y.ownBlock ≠ some a.block := fun y hy e => by have := (hy _ e).1; omega
  refine ⟨vs, h1, own_set_other h2 (fun e => by have := own_ge h2 _ e; omega) x, fun i p u e1 e2 => ?_, fun A p B u e1 e2 e3 => ?_⟩
  · obtain ⟨r, s⟩ := h3 i p u e1 e2
    exact ⟨r.set_other (ne _ s.1) (ne _ s.2.1) (ne _ s.2.2.1) (ne _ s.2.2.2) x, s.more (by simp [World.setCell])⟩
  · obtain ⟨M, q1, q1', q2, q3⟩ := h4 A p B u e1 e2 e3
    exact ⟨M, q1, by simpa [World.setCell] using q1', own_set_other q2 (fun e => by have := own_ge q2 _ e; omega) x, q3⟩

theorem pcCells_snoc : ∀ (ps : List Pc) (vs : List PcV), vs.length = ps.length → ∀ (p : Pc) (u : PcV), pcCells (ps ++ [p]) (vs ++ [u]) = pcCells ps vs ++ [.bool p.conf, u.lines, u.base, u.a, u.b]
  | [], [], _, p, u => rfl
  | q :: ps, x :: vs, e, p, u => by simp at e; simp [pcCells, pcCells_snoc ps vs e p u]
  | [], v :: vs, e, _, _ => by simp at e
  | g :: hs, [], e, _, _ => by simp at e
/-- a piece more, appended: world w holds the pieces, w1 what the new piece's slices read as, w3 comes behind the append -/
theorem PcsOwn.push {w1 w3 : World} {v' : Value} {ob : Obj} {p : Pc} {u : PcV} {vs : List PcV} (hvs : vs.length = ps.length) (hown : w.ownsRow base tP 5 v ps.length (pcCells ps vs)) (hel : PcElems w lo v ps vs)
    (hb : Below w.heap.size w w1) (hrd : PcRd w1 p u) (hsit : PcSit w1 lo u v) (hlast : p.conf = false → ∃ M, lo ≤ M ∧ M ≤ w1.heap.size ∧ w1.ownsRow M tS 1 u.lines p.lines.length (p.lines.map Value.string) ∧ (∀ x ∈ vs, PcUnder M x) ∧ NoBlk u.base ∧ NoBlk u.a ∧ NoBlk u.b)
    (hown3 : w3.ownsRow base tP 5 v' (ps.length + 1) (pcCells ps vs ++ [.bool p.conf, u.lines, u.base, u.a, u.b])) (hg : (w1.alloc ob).grownBy w3 v.ownBlock) (hat : v'.ownBlock = v.ownBlock ∨ v'.ownBlock = some (w1.alloc ob).heap.size) :
    PcsOwn w3 tP tS base lo v' (ps ++ [p]) := by
  have ba : Below w1.heap.size w1 (w1.alloc ob) := (Below.refl _ _).alloc (Nat.le_refl _) ob
  have hza : (w1.alloc ob).heap.size = w1.heap.size + 1 := by simp
  have hz3 := hg.size
  have key : ∀ (l : List ByteArray) (x : Value), Strs w1 x l → Sits w1 lo x v → Strs w3 x l ∧ Sits w3 lo x v' := by
    intro l x hx hs
    refine ⟨(hx.below ba).grown hg (fun g e => (hs g e).2.2), fun g e => ⟨(hs g e).1, by have := (hs g e).2.1; omega, ?_⟩⟩
    rcases hat with q | q
    · rw [q]; exact (hs g e).2.2
    · rw [q]; have := (hs g e).2.1; intro e2; injection e2 with e2; omega
  have keyP : ∀ (q : Pc) (x : PcV), PcRd w1 q x → PcSit w1 lo x v → PcRd w3 q x ∧ PcSit w3 lo x v' := by
    intro q x hr hs
    have a := key _ _ hr.1 hs.1
    have b := key _ _ hr.2.1 hs.2.1
    have c := key _ _ hr.2.2.1 hs.2.2.1
    have d := key _ _ hr.2.2.2 hs.2.2.2
    exact ⟨⟨a.1, b.1, c.1, d.1⟩, a.2, b.2, c.2, d.2⟩
  refine ⟨vs ++ [u], by simp [hvs], by rw [pcCells_snoc ps vs hvs p u]; simpa using hown3, fun i q x e1 e2 => ?_, fun A q B x e1 e2 e3 => ?_⟩
  · by_cases hi : i < ps.length
    · rw [List.getElem?_append_left hi] at e1
      rw [List.getElem?_append_left (by omega)] at e2
      have := hel.below hb i q x e1 e2
      exact keyP q x this.1 this.2
    · have hi' : i = ps.length := by
        have := (List.getElem?_eq_some_iff.1 e1).1
        simp at this; omega
      subst hi'
      rw [List.getElem?_append_right (Nat.le_refl _)] at e1
      rw [List.getElem?_append_right (by omega), hvs] at e2
      simp at e1 e2
      subst e1 e2
      exact keyP _ _ hrd hsit
  · obtain ⟨rfl, h2⟩ := List.append_inj' e1 rfl
    obtain ⟨rfl, k2⟩ := List.append_inj' e2 rfl
    simp at h2 k2
    subst h2 k2
    obtain ⟨M, q1, q1', q2, q3, q4⟩ := hlast e3
    refine ⟨M, q1, by omega, (q2.alloc ob).kept hg ?_, q3, q4⟩
    cases hx : u.lines.ownBlock with
    | none => exact .inl rfl
    | some g => refine .inr (fun e => ?_); exact (hsit.1 g hx).2.2 e.symm

/-- the last piece's value in the pieces' row -/
theorem pcCells_last (A : List Pc) (B : List PcV) (h : B.length = A.length) (p : Pc) (u : PcV) : (pcCells (A ++ [p]) (B ++ [u]))[A.length * 5]? = some (.bool p.conf) ∧ (pcCells (A ++ [p]) (B ++ [u]))[A.length * 5 + 1]? = some u.lines := by
  rw [pcCells_snoc A B h, List.getElem?_append_right (by rw [pcCells_length A B h]; omega), List.getElem?_append_right (by rw [pcCells_length A B h]; omega), pcCells_length A B h]
  simp
theorem pcCells_lastSet (A : List Pc) (B : List PcV) (h : B.length = A.length) (p q : Pc) (u : PcV) (x : Value) (hc : q.conf = p.conf) : (pcCells (A ++ [p]) (B ++ [u])).set (A.length * 5 + 1) x = pcCells (A ++ [q]) (B ++ [{u with lines := x}]) := by
  rw [pcCells_snoc A B h, pcCells_snoc A B h, List.set_append_right _ _ (by rw [pcCells_length A B h]; omega), pcCells_length A B h, show A.length * 5 + 1 - A.length * 5 = 1 by omega, hc]
  rfl
/-- rows of different types lie in different blocks -/
theorem own_types {e1 e2 s1 s2 n1 n2 b1 b2 : Nat} {x y : Value} {xs ys : List Value} (h : w.ownsRow b1 e1 s1 x n1 xs) (k : w.ownsRow b2 e2 s2 y n2 ys) (he : e1 ≠ e2) {g : Nat} (hx : x.ownBlock = some g) : y.ownBlock ≠ some g := by
  intro hy
  rcases h.2 with ⟨rfl, _⟩ | ⟨g1, c1, cur1, rfl, _, hh1, _⟩
  · simp [Value.ownBlock] at hx
  rcases k.2 with ⟨rfl, _⟩ | ⟨g2, c2, cur2, rfl, _, hh2, _⟩
  · simp [Value.ownBlock] at hy
  simp [Value.ownBlock] at hx hy
  subst hx hy
  rw [hh1] at hh2
  simp at hh2
  exact he hh2.2
/-- more sure lines behind the last piece's -/
theorem PcsOwn.more {w1 : World} {A : List Pc} {B : List PcV} {p : Pc} {u : PcV} {g cap M : Nat} {x : Value} {m : List ByteArray} (hT : tP ≠ tS) (hBA : B.length = A.length) (hconf : p.conf = false)
    (hown : w.ownsRow base tP 5 (.slice (some ⟨g, 0, none⟩) (A.length + 1) cap) (A.length + 1) (pcCells (A ++ [p]) (B ++ [u]))) (hel : PcElems w lo (.slice (some ⟨g, 0, none⟩) (A.length + 1) cap) (A ++ [p]) (B ++ [u]))
    (hM : lo ≤ M) (hMw : M ≤ w.heap.size) (hl : w.ownsRow M tS 1 u.lines p.lines.length (p.lines.map Value.string)) (hu : ∀ y ∈ B, PcUnder M y) (n1 : NoBlk u.base) (n2 : NoBlk u.a) (n3 : NoBlk u.b)
    (hl1 : w1.ownsRow M tS 1 x (p.lines ++ m).length ((p.lines ++ m).map Value.string)) (hg1 : w.grownBy w1 u.lines.ownBlock) (hz : ∀ s ∈ p.lines ++ m, s.size ≤ maxLen) :
    PcsOwn (w1.setCell ⟨g, A.length * 5 + 1, none⟩ x) tP tS base lo (.slice (some ⟨g, 0, none⟩) (A.length + 1) cap) (A ++ [⟨false, p.lines ++ m, p.base, p.a, p.b⟩]) := by
  have hgb : (Value.slice (some ⟨g, 0, none⟩) (A.length + 1) cap).ownBlock = some g := rfl
  have hne : u.lines.ownBlock ≠ some g := own_types hown hl hT hgb
  have hown1 : w1.ownsRow base tP 5 (.slice (some ⟨g, 0, none⟩) (A.length + 1) cap) (A.length + 1) (pcCells (A ++ [p]) (B ++ [u])) := hown.kept hg1 (.inr (fun e => hne (by rw [← e]; rfl)))
  have hnx : x.ownBlock ≠ some g := own_types hown1 hl1 hT hgb
  have hst := (hown1.stored (A.length * 5 + 1) x).1
  rw [pcCells_lastSet A B hBA p ⟨false, p.lines ++ m, p.base, p.a, p.b⟩ u x hconf.symm] at hst
  have hz1 := hg1.size
  have hzs : (w1.setCell ⟨g, A.length * 5 + 1, none⟩ x).heap.size = w1.heap.size := by simp [World.setCell]
  have key : ∀ (l : List ByteArray) (y : Value), Strs w y l → Sits w lo y (.slice (some ⟨g, 0, none⟩) (A.length + 1) cap) → (∀ k, y.ownBlock = some k → u.lines.ownBlock ≠ some k) →
      Strs (w1.setCell ⟨g, A.length * 5 + 1, none⟩ x) y l ∧ Sits (w1.setCell ⟨g, A.length * 5 + 1, none⟩ x) lo y (.slice (some ⟨g, 0, none⟩) (A.length + 1) cap) := by
    intro l y hy hs hd
    refine ⟨(hy.grown hg1 hd).set_other (fun e => (hs g e).2.2 rfl) x, fun k e => ⟨(hs k e).1, by rw [hzs]; have := (hs k e).2.1; omega, (hs k e).2.2⟩⟩
  have hlin : Strs (w1.setCell ⟨g, A.length * 5 + 1, none⟩ x) x (p.lines ++ m) ∧ Sits (w1.setCell ⟨g, A.length * 5 + 1, none⟩ x) lo x (.slice (some ⟨g, 0, none⟩) (A.length + 1) cap) := by
    refine ⟨Strs.set_other (w := w1) (l := p.lines ++ m) ⟨Rd.of_own hl1, hz⟩ hnx x, fun k e => ⟨Nat.le_trans hM (own_ge hl1 k e), by rw [hzs]; exact own_lt hl1 k e, fun e2 => hnx (by rw [e]; exact e2.symm)⟩⟩
  refine ⟨B ++ [{u with lines := x}], by simp [hBA], by simpa using hst, fun i q y e1 e2 => ?_, fun A' q B' y e1 e2 e3 => ?_⟩
  · by_cases hi : i < A.length
    · rw [List.getElem?_append_left hi] at e1
      rw [List.getElem?_append_left (by omega)] at e2
      obtain ⟨r, s⟩ := hel i q y (by rw [List.getElem?_append_left hi]; exact e1) (by rw [List.getElem?_append_left (by omega)]; exact e2)
      have hy := hu y (List.mem_of_getElem? e2)
      have nb : ∀ z, Under M z → ∀ k, z.ownBlock = some k → u.lines.ownBlock ≠ some k := fun z hz k e e2 => by have := hz k e; have := own_ge hl k e2; omega
      have a := key _ _ r.1 s.1 (nb _ hy.1)
      have b := key _ _ r.2.1 s.2.1 (nb _ hy.2.1)
      have c := key _ _ r.2.2.1 s.2.2.1 (nb _ hy.2.2.1)
      have d := key _ _ r.2.2.2 s.2.2.2 (nb _ hy.2.2.2)
      exact ⟨⟨a.1, b.1, c.1, d.1⟩, a.2, b.2, c.2, d.2⟩
    · have hi' : i = A.length := by
        have := (List.getElem?_eq_some_iff.1 e1).1
        simp at this; omega
      subst hi'
      obtain ⟨r, s⟩ := hel A.length p u (by simp) (by rw [List.getElem?_append_right (by omega), hBA]; simp)
      rw [List.getElem?_append_right (Nat.le_refl _)] at e1
      rw [List.getElem?_append_right (by omega), hBA] at e2
      simp at e1 e2
      subst e1 e2
      have nn : ∀ z, NoBlk z → ∀ k, z.ownBlock = some k → u.lines.ownBlock ≠ some k := fun z hz k e => by rw [hz] at e; cases e
      have b := key _ _ r.2.1 s.2.1 (nn _ n1)
      have c := key _ _ r.2.2.1 s.2.2.1 (nn _ n2)
      have d := key _ _ r.2.2.2 s.2.2.2 (nn _ n3)
      exact ⟨⟨hlin.1, b.1, c.1, d.1⟩, hlin.2, b.2, c.2, d.2⟩
  · obtain ⟨rfl, h2⟩ := List.append_inj' e1 rfl
    obtain ⟨rfl, k2⟩ := List.append_inj' e2 rfl
    simp at h2 k2
    subst h2 k2
    exact ⟨M, hM, by rw [hzs]; omega, own_set_other hl1 hnx x, hu, n1, n2, n3⟩
end
end Go.Pw
