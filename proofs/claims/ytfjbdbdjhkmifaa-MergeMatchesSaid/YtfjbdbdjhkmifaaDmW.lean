/- (merger).sure and the reference's closure: sure lines are added. -/
import Derived.Test.YtfjbdbdjhkmifaaDmV
import Derived.Test.YtfjbdbdjhkmifaaDmQ
import Derived.Test.YtfjbdbdjhkmifaaHConcat
import Derived.Test.YtfjbdbdjhkmifaaSort
import Derived.Deep.RegionLaw
set_option linter.unusedVariables false
set_option linter.unusedSimpArgs false
namespace Go.Proofs.Ytfjbdbdjhkmifaa
open Go.RowKit Go.Pw
theorem info_piece : (Try.prog.info? 73).map (fun i => (i.zero, i.size, i.bytes)) = some (some (.agg #[.bool false, .slice none 0 0, .slice none 0 0, .slice none 0 0, .slice none 0 0]), 5, 104) := by kernel_rfl
theorem clone_own (v : Value) (l : List ByteArray) (w : World) (h : Strs w v l) (hl : l.length * 16 ≤ 140737488355328) (h0 : l ≠ []) :
    Calls Try.prog 32 #[v] w fun e w' => ∃ A c, e = .returned (.slice A l.length c) ∧ w'.ownsRow w.heap.size 9 1 (.slice A l.length c) l.length (l.map Value.string) ∧ Below w.heap.size w w' := by
  obtain ⟨⟨_, A, cap, rfl, hcap, hmax, hx⟩, hsz⟩ := h
  have h0' : 0 < l.length := List.length_pos_iff.2 h0
  obtain ⟨b, o, rfl, hb, hj⟩ := hx h0'
  refine (Try.slices_Clone_string b o l.length cap l w (Nat.le_refl _) hl (fun j hj' => hj j _ (by simp [hj']))).mono ?_
  rintro e w' ⟨v', rfl, hown, _, hbl⟩
  rw [List.take_length] at hown
  obtain ⟨A', c', rfl⟩ := own_form hown
  exact ⟨A', c', rfl, hown, hbl⟩
theorem five_new (w : World) (a b c d e : Value) (t : TypeId) : ∀ (j : Nat) (u : Value), [a, b, c, d, e][j]? = some u → (w.alloc (.cells #[a, b, c, d, e] t)).cell? (Addr.add ⟨w.heap.size, 0, none⟩ j) = some u
  | 0, u, h => by simp at h; subst h; simp [Addr.add, World.cell?_alloc_new]
  | 1, u, h => by simp at h; subst h; simp [Addr.add, World.cell?_alloc_new]
  | 2, u, h => by simp at h; subst h; simp [Addr.add, World.cell?_alloc_new]
  | 3, u, h => by simp at h; subst h; simp [Addr.add, World.cell?_alloc_new]
  | 4, u, h => by simp at h; subst h; simp [Addr.add, World.cell?_alloc_new]
  | j + 5, u, h => by simp at h

/-- a block with one cell that holds pieces -/
structure MgEnv (w : World) (M N : Nat) (v : Value) (ps : List Pc) : Prop where
  cell : w.cell? ⟨M, 0, none⟩ = some v
  free : w.frozen? ⟨M, 0, none⟩ = false
  lt : M < N
  le : N ≤ w.heap.size
  own : PcsOwn w 73 9 N N v ps
theorem MgEnv.below {w w' : World} {M N : Nat} {v : Value} {ps : List Pc} (h : MgEnv w M N v ps) (hb : Below w.heap.size w w') : MgEnv w' M N v ps := by
  have hl : M < w.heap.size := Nat.lt_of_lt_of_le h.lt h.le
  exact ⟨(hb.cell (p := ⟨M, 0, none⟩) hl).trans h.cell, (hb.frozen (p := ⟨M, 0, none⟩) hl).trans h.free, h.lt, Nat.le_trans h.le hb.size, h.own.below hb⟩
theorem noBlk_nil : NoBlk (.slice none 0 0) := rfl
theorem sits_nil (w : World) (lo : Nat) (v : Value) : Sits w lo (.slice none 0 0) v := fun g hg => by simp [Value.ownBlock] at hg
theorem strs_nil (w : World) : Strs w (.slice none 0 0) [] := ⟨Rd.nil _ _, by simp⟩

/-- blocks of other types than the pieces' are as they were -/
def OffT (w w' : World) (M : Nat) : Prop := ∀ (k : Nat) (cs : Array Value) (t : TypeId) (z : Nat × Nat), k ≠ M → w.heap[k]? = some (.cells cs t z) → t ≠ 73 → t ≠ 9 → w'.heap[k]? = w.heap[k]?
theorem OffT.refl (w : World) (M : Nat) : OffT w w M := fun _ _ _ _ _ _ _ _ => rfl
theorem own_type {w : World} {base e size n : Nat} {v : Value} {xs : List Value} (h : w.ownsRow base e size v n xs) {k : Nat} {cs : Array Value} {t : TypeId} {z : Nat × Nat} (hk : w.heap[k]? = some (.cells cs t z)) (ht : t ≠ e) : v.ownBlock ≠ some k := by
  intro he
  rcases h.2 with ⟨rfl, _⟩ | ⟨g, cap, cur, rfl, _, hh, _⟩
  · simp [Value.ownBlock] at he
  · simp [Value.ownBlock] at he
    subst he
    rw [hh] at hk
    injection hk with hk
    injection hk with _ hk
    exact ht hk.symm

/-- a new sure piece -/
theorem MgEnv.fresh {w w1 w3 : World} {M N : Nat} {v v' : Value} {ps : List Pc} {ob : Obj} {A : Option Addr} {c : Nat} {l : List ByteArray} {vs : List PcV} (h : MgEnv w M N v ps) (hvs : vs.length = ps.length) (hown : w.ownsRow N 73 5 v ps.length (pcCells ps vs)) (hel : PcElems w N v ps vs)
    (hb : Below w.heap.size w w1) (hl : w1.ownsRow w.heap.size 9 1 (.slice A l.length c) l.length (l.map Value.string)) (hz : ∀ s ∈ l, s.size ≤ maxLen)
    (hown3 : w3.ownsRow N 73 5 v' (ps.length + 1) (pcCells ps vs ++ [.bool false, .slice A l.length c, .slice none 0 0, .slice none 0 0, .slice none 0 0])) (hg : (w1.alloc ob).grownBy w3 v.ownBlock) (hat : v'.ownBlock = v.ownBlock ∨ v'.ownBlock = some (w1.alloc ob).heap.size) :
    MgEnv (w3.setCell ⟨M, 0, none⟩ v') M N v' (ps ++ [⟨false, l, [], [], []⟩]) ∧ But N M w (w3.setCell ⟨M, 0, none⟩ v') ∧ OffT w (w3.setCell ⟨M, 0, none⟩ v') M := by
  have hlt := h.lt
  have hle := h.le
  have huge := own_ge hown
  have hbs := hb.size
  have ba : Below w.heap.size w (w1.alloc ob) := hb.alloc hbs ob
  have b3 : Below N w w3 := (ba.mono hle).grown hg (by have := ba.size; omega) huge
  have hvM : v.ownBlock ≠ some M := fun e => by have := huge M e; omega
  have c3 : w3.cell? ⟨M, 0, none⟩ = some v := (b3.cell (p := ⟨M, 0, none⟩) hlt).trans h.cell
  have f3 : w3.frozen? ⟨M, 0, none⟩ = false := (b3.frozen (p := ⟨M, 0, none⟩) hlt).trans h.free
  have hp := PcsOwn.push (tS := 9) (p := ⟨false, l, [], [], []⟩) (u := ⟨.slice A l.length c, .slice none 0 0, .slice none 0 0, .slice none 0 0⟩) hvs hown hel hb ⟨⟨Rd.of_own hl, hz⟩, strs_nil _, strs_nil _, strs_nil _⟩
    ⟨fun g hg' => ⟨by have := own_ge hl g hg'; omega, own_lt hl g hg', fun e => by have := own_ge hl g hg'; have := own_lt hown g e; omega⟩, sits_nil _ _ _, sits_nil _ _ _, sits_nil _ _ _⟩
    (fun _ => ⟨w.heap.size, hle, hbs, hl, fun x hx => by
      obtain ⟨i, hi⟩ := List.mem_iff_getElem?.1 hx
      have hil := (List.getElem?_eq_some_iff.1 hi).1
      obtain ⟨_, s1, s2, s3, s4⟩ := hel i (ps[i]'(by omega)) x (List.getElem?_eq_getElem _) hi
      exact ⟨fun g hg' => (s1 g hg').2.1, fun g hg' => (s2 g hg').2.1, fun g hg' => (s3 g hg').2.1, fun g hg' => (s4 g hg').2.1⟩, noBlk_nil, noBlk_nil, noBlk_nil⟩) hown3 hg hat
  refine ⟨⟨World.cell?_setCell_same _ _ _ c3, by simpa using f3, hlt, by simpa [World.setCell] using Nat.le_trans hle b3.size, hp.set_low hlt hlt v'⟩, (But.of_below b3 (Nat.le_refl _)).setCell 0 v', fun k cs t z h1 h2 h3 h4 => ?_⟩
  have hk := (Array.getElem?_eq_some_iff.1 h2).1
  exact (Below.heap_setCell _ _ _ _ (by simpa using h1)).trans ((hg.block k (by have := ba.size; omega) (fun e => own_type hown h2 h3 e.symm)).trans (ba.block k hk))
/-- a piece for what both sides changed -/
theorem MgEnv.clash {w w1 w3 : World} {M N : Nat} {v v' : Value} {ps : List Pc} {ob : Obj} {vs : List PcV} {u1 u2 u3 : Value} {l1 l2 l3 : List ByteArray} (h : MgEnv w M N v ps) (hvs : vs.length = ps.length) (hown : w.ownsRow N 73 5 v ps.length (pcCells ps vs)) (hel : PcElems w N v ps vs)
    (hb : Below w.heap.size w w1) (s1 : Strs w1 u1 l1) (s2 : Strs w1 u2 l2) (s3 : Strs w1 u3 l3) (t1 : Sits w1 N u1 v) (t2 : Sits w1 N u2 v) (t3 : Sits w1 N u3 v)
    (hown3 : w3.ownsRow N 73 5 v' (ps.length + 1) (pcCells ps vs ++ [.bool true, .slice none 0 0, u1, u2, u3])) (hg : (w1.alloc ob).grownBy w3 v.ownBlock) (hat : v'.ownBlock = v.ownBlock ∨ v'.ownBlock = some (w1.alloc ob).heap.size) :
    MgEnv (w3.setCell ⟨M, 0, none⟩ v') M N v' (ps ++ [⟨true, [], l1, l2, l3⟩]) ∧ But N M w (w3.setCell ⟨M, 0, none⟩ v') ∧ OffT w (w3.setCell ⟨M, 0, none⟩ v') M := by
  have hlt := h.lt
  have hle := h.le
  have huge := own_ge hown
  have hbs := hb.size
  have ba : Below w.heap.size w (w1.alloc ob) := hb.alloc hbs ob
  have b3 : Below N w w3 := (ba.mono hle).grown hg (by have := ba.size; omega) huge
  have c3 : w3.cell? ⟨M, 0, none⟩ = some v := (b3.cell (p := ⟨M, 0, none⟩) hlt).trans h.cell
  have f3 : w3.frozen? ⟨M, 0, none⟩ = false := (b3.frozen (p := ⟨M, 0, none⟩) hlt).trans h.free
  have hp := PcsOwn.push (tS := 9) (p := ⟨true, [], l1, l2, l3⟩) (u := ⟨.slice none 0 0, u1, u2, u3⟩) hvs hown hel hb ⟨strs_nil _, s1, s2, s3⟩ ⟨sits_nil _ _ _, t1, t2, t3⟩ (fun h => by cases h) hown3 hg hat
  refine ⟨⟨World.cell?_setCell_same _ _ _ c3, by simpa using f3, hlt, by simpa [World.setCell] using Nat.le_trans hle b3.size, hp.set_low hlt hlt v'⟩, (But.of_below b3 (Nat.le_refl _)).setCell 0 v', fun k cs t z h1 h2 h3 h4 => ?_⟩
  have hk := (Array.getElem?_eq_some_iff.1 h2).1
  exact (Below.heap_setCell _ _ _ _ (by simpa using h1)).trans ((hg.block k (by have := ba.size; omega) (fun e => own_type hown h2 h3 e.symm)).trans (ba.block k hk))
/-- more sure lines -/
theorem MgEnv.more {w w1 : World} {M N g cap : Nat} {x : Value} {A : List Pc} {q : Pc} {B : List PcV} {u : PcV} {m : List ByteArray} (h : MgEnv w M N (.slice (some ⟨g, 0, none⟩) (A.length + 1) cap) (A ++ [q])) (hBA : B.length = A.length) (hconf : q.conf = false)
    (hown : w.ownsRow N 73 5 (.slice (some ⟨g, 0, none⟩) (A.length + 1) cap) (A.length + 1) (pcCells (A ++ [q]) (B ++ [u]))) (hel : PcElems w N (.slice (some ⟨g, 0, none⟩) (A.length + 1) cap) (A ++ [q]) (B ++ [u]))
    {L : Nat} (hM : N ≤ L) (hLw : L ≤ w.heap.size) (hl : w.ownsRow L 9 1 u.lines q.lines.length (q.lines.map Value.string)) (hu : ∀ y ∈ B, PcUnder L y) (n1 : NoBlk u.base) (n2 : NoBlk u.a) (n3 : NoBlk u.b)
    (hl2 : w1.ownsRow L 9 1 x (q.lines ++ m).length ((q.lines ++ m).map Value.string)) (hg1 : w.grownBy w1 u.lines.ownBlock) (hz : ∀ s ∈ q.lines ++ m, s.size ≤ maxLen) :
    MgEnv (w1.setCell ⟨g, A.length * 5 + 1, none⟩ x) M N (.slice (some ⟨g, 0, none⟩) (A.length + 1) cap) (A ++ [⟨false, q.lines ++ m, q.base, q.a, q.b⟩]) ∧ But N M w (w1.setCell ⟨g, A.length * 5 + 1, none⟩ x) ∧ OffT w (w1.setCell ⟨g, A.length * 5 + 1, none⟩ x) M := by
  have hlt := h.lt
  have hle := h.le
  have huge := own_ge hown g rfl
  have b1 : Below N w w1 := (Below.refl N w).grown hg1 hle (fun k e => by have := own_ge hl k e; omega)
  have b2 : Below N w (w1.setCell ⟨g, A.length * 5 + 1, none⟩ x) := b1.setCell huge x
  refine ⟨⟨(b2.cell (p := ⟨M, 0, none⟩) hlt).trans h.cell, (b2.frozen (p := ⟨M, 0, none⟩) hlt).trans h.free, hlt, Nat.le_trans hle b2.size, ?_⟩, But.of_below b2 (Nat.le_refl _), fun k cs t z h1 h2 h3 h4 => ?_⟩
  rotate_left
  · have hk := (Array.getElem?_eq_some_iff.1 h2).1
    have hkg : k ≠ g := fun e => own_type hown h2 h3 (by rw [e]; rfl)
    exact (Below.heap_setCell _ _ _ _ (by simpa using hkg)).trans (hg1.block k hk (fun e => own_type hl h2 h4 e.symm))
  exact PcsOwn.more (by decide) hBA hconf hown hel hM hLw hl hu n1 n2 n3 hl2 hg1 hz
end Go.Proofs.Ytfjbdbdjhkmifaa
