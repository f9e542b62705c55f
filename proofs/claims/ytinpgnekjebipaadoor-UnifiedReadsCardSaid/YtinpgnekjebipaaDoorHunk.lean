/- Hunks in memory. Plain lemmas; no program in sight. -/
import Derived.Test.YtinpgnekjebipaaDoorMem
import Derived.Deep.AppendLies
import Derived.Maps.AppendAt
set_option linter.unusedVariables false
set_option linter.unusedSimpArgs false
namespace Go.Pw
open Go.RowKit

/-- a hunk as data -/
structure Hk where
  frm : Int
  to_ : Int
  old : List ByteArray
  new : List ByteArray

def inI64 (n : Int) : Prop := -9223372036854775808 ≤ n ∧ n ≤ 9223372036854775807
def Hk.ok (h : Hk) : Prop := inI64 h.frm ∧ inI64 h.to_

/-- the cells of hunks, their slices' values given -/
def hkCells : List Hk → List (Value × Value) → List Value
  | h :: hs, v :: vs => .int .i64 h.frm :: .int .i64 h.to_ :: v.1 :: v.2 :: hkCells hs vs
  | _, _ => []
theorem hkCells_length : ∀ (hs : List Hk) (vs : List (Value × Value)), vs.length = hs.length → (hkCells hs vs).length = hs.length * 4
  | [], [], _ => rfl
  | h :: hs, v :: vs, e => by simp at e; simp [hkCells, hkCells_length hs vs e]; omega
  | [], v :: vs, e => by simp at e
  | h :: hs, [], e => by simp at e
theorem hkCells_snoc : ∀ (hs : List Hk) (vs : List (Value × Value)), vs.length = hs.length → ∀ (h : Hk) (o n : Value), hkCells (hs ++ [h]) (vs ++ [(o, n)]) = hkCells hs vs ++ [.int .i64 h.frm, .int .i64 h.to_, o, n]
  | [], [], _, h, o, n => rfl
  | g :: hs, v :: vs, e, h, o, n => by simp at e; simp [hkCells, hkCells_snoc hs vs e h o n]
  | [], v :: vs, e, _, _, _ => by simp at e
  | g :: hs, [], e, _, _, _ => by simp at e
theorem hkCells_at : ∀ (hs : List Hk) (vs : List (Value × Value)) (i : Nat) (h : Hk) (v : Value × Value), hs[i]? = some h → vs[i]? = some v → vs.length = hs.length →
    (hkCells hs vs)[4 * i]? = some (.int .i64 h.frm) ∧ (hkCells hs vs)[4 * i + 1]? = some (.int .i64 h.to_) ∧ (hkCells hs vs)[4 * i + 2]? = some v.1 ∧ (hkCells hs vs)[4 * i + 3]? = some v.2
  | h :: hs, v :: vs, 0, _, _, e1, e2, _ => by simp at e1 e2; subst e1 e2; simp [hkCells]
  | h :: hs, v :: vs, i + 1, g, u, e1, e2, e => by
    have := hkCells_at hs vs i g u (by simpa using e1) (by simpa using e2) (by simpa using e)
    rw [show 4 * (i + 1) = 4 * i + 1 + 1 + 1 + 1 by omega]
    simpa [hkCells] using this
  | [], _, _, _, _, e1, _, _ => by simp at e1
  | h :: hs, [], _, _, _, _, e2, _ => by simp at e2

/-- A slice of hunks that reads as the list hs. -/
def Hunks (w : World) (v : Value) (hs : List Hk) : Prop :=
  ∃ vs : List (Value × Value), vs.length = hs.length ∧ Rd w 4 v hs.length (hkCells hs vs) ∧ (∀ h ∈ hs, h.ok) ∧
    ∀ (i : Nat) (h : Hk) (o n : Value), hs[i]? = some h → vs[i]? = some (o, n) → Strs w o h.old ∧ Strs w n h.new
theorem Hunks.below {w w' : World} {v : Value} {hs : List Hk} (h : Hunks w v hs) (hb : Below w.heap.size w w') : Hunks w' v hs := by
  obtain ⟨vs, h1, h2, h3, h4⟩ := h
  exact ⟨vs, h1, h2.below hb, h3, fun i h o n e1 e2 => ⟨(h4 i h o n e1 e2).1.below hb, (h4 i h o n e1 e2).2.below hb⟩⟩

/-- the slice value o lies, if anywhere, in a block from lo on that there is, other than v's -/
def Sits (w : World) (lo : Nat) (o v : Value) : Prop := ∀ g, o.ownBlock = some g → lo ≤ g ∧ g < w.heap.size ∧ v.ownBlock ≠ some g
theorem Sits.more {w w' : World} {lo : Nat} {o v : Value} (h : Sits w lo o v) (hz : w.heap.size ≤ w'.heap.size) : Sits w' lo o v := fun g hg => ⟨(h g hg).1, Nat.lt_of_lt_of_le (h g hg).2.1 hz, (h g hg).2.2⟩
def HunkElems (w : World) (lo : Nat) (v : Value) (hs : List Hk) (vs : List (Value × Value)) : Prop :=
  ∀ (i : Nat) (h : Hk) (o n : Value), hs[i]? = some h → vs[i]? = some (o, n) → (Strs w o h.old ∧ Sits w lo o v) ∧ (Strs w n h.new ∧ Sits w lo n v)

/-- A slice of hunks that the call itself builds: its row lies from block base on, what it leads to from block lo on. -/
def HunksOwn (w : World) (tH base lo : Nat) (v : Value) (hs : List Hk) : Prop :=
  ∃ vs : List (Value × Value), vs.length = hs.length ∧ w.ownsRow base tH 4 v hs.length (hkCells hs vs) ∧ (∀ h ∈ hs, h.ok) ∧ HunkElems w lo v hs vs
theorem HunksOwn.nil (w : World) (tH base lo : Nat) : HunksOwn w tH base lo (.slice none 0 0) [] :=
  ⟨[], rfl, World.ownsRow_nil _ _ _ _, by simp, fun i h o n e => by simp at e⟩
theorem Rd.of_own {w : World} {base : Nat} {e : TypeId} {size : Nat} {v : Value} {n : Nat} {xs : List Value} (h : w.ownsRow base e size v n xs) : Rd w size v n xs := by
  refine ⟨h.1, ?_⟩
  rcases h.2 with ⟨rfl, rfl⟩ | ⟨g, cap, cur, rfl, hg, hh, hn, hm, hs, hx⟩
  · exact ⟨none, 0, rfl, Nat.le_refl _, Nat.zero_le _, fun h => absurd h (by omega)⟩
  · refine ⟨_, cap, rfl, hn, hm, fun _ => ⟨g, 0, rfl, ?_, fun j u hu => ?_⟩⟩
    · obtain ⟨hlt, _⟩ := Array.getElem?_eq_some_iff.1 hh
      exact hlt
    · simp only [World.cell?, hh, Nat.zero_add]
      rw [← hx, List.getElem?_take] at hu
      split at hu
      · simpa using hu
      · cases hu
theorem HunksOwn.read {w : World} {tH base lo : Nat} {v : Value} {hs : List Hk} (h : HunksOwn w tH base lo v hs) : Hunks w v hs := by
  obtain ⟨vs, h1, h2, h3, h4⟩ := h
  exact ⟨vs, h1, .of_own h2, h3, fun i h o n e1 e2 => ⟨(h4 i h o n e1 e2).1.1, (h4 i h o n e1 e2).2.1⟩⟩
theorem own_below {w w' : World} {base : Nat} {e : TypeId} {size : Nat} {v : Value} {n : Nat} {xs : List Value} (h : w.ownsRow base e size v n xs) (hb : Below w.heap.size w w') : w'.ownsRow base e size v n xs := by
  refine ⟨h.1, ?_⟩
  rcases h.2 with h2 | ⟨g, cap, cur, hv, hg, hh, r⟩
  · exact .inl h2
  · obtain ⟨hlt, _⟩ := Array.getElem?_eq_some_iff.1 hh
    exact .inr ⟨g, cap, cur, hv, hg, (hb.block g hlt).trans hh, r⟩
theorem HunksOwn.below {w w' : World} {tH base lo : Nat} {v : Value} {hs : List Hk} (h : HunksOwn w tH base lo v hs) (hb : Below w.heap.size w w') : HunksOwn w' tH base lo v hs := by
  obtain ⟨vs, h1, h2, h3, h4⟩ := h
  exact ⟨vs, h1, own_below h2 hb, h3, fun i h o n e1 e2 => ⟨⟨(h4 i h o n e1 e2).1.1.below hb, (h4 i h o n e1 e2).1.2.more hb.size⟩, (h4 i h o n e1 e2).2.1.below hb, (h4 i h o n e1 e2).2.2.more hb.size⟩⟩
/-- a reading is kept while another block is written -/
theorem Rd.grown {w w' : World} {size n : Nat} {v : Value} {xs : List Value} {row : Option Nat} (h : Rd w size v n xs) (hg : w.grownBy w' row) (ha : ∀ g, v.ownBlock = some g → row ≠ some g) : Rd w' size v n xs := by
  obtain ⟨h1, A, cap, rfl, hc, hm, hx⟩ := h
  refine ⟨h1, A, cap, rfl, hc, hm, fun hn => ?_⟩
  obtain ⟨b, o, rfl, hb, hj⟩ := hx hn
  exact ⟨b, o, rfl, Nat.lt_of_lt_of_le hb hg.size, fun j u hu => (World.cell?_of_block (w := w) (hg.block b hb (fun e => ha b rfl e.symm))).trans (hj j u hu)⟩
theorem Strs.grown {w w' : World} {v : Value} {l : List ByteArray} {row : Option Nat} (h : Strs w v l) (hg : w.grownBy w' row) (ha : ∀ g, v.ownBlock = some g → row ≠ some g) : Strs w' v l := ⟨h.1.grown hg ha, h.2⟩
theorem Strs.alloc {w : World} {v : Value} {l : List ByteArray} (h : Strs w v l) (o : Obj) : Strs (w.alloc o) v l := h.below ((Below.refl _ _).alloc (Nat.le_refl _) o)
theorem Rd.lt {w : World} {size n : Nat} {v : Value} {xs : List Value} (h : Rd w size v n xs) (hn : 0 < n) : ∀ g, v.ownBlock = some g → g < w.heap.size := by
  obtain ⟨h1, A, cap, rfl, hc, hm, hx⟩ := h
  obtain ⟨b, o, rfl, hb, hj⟩ := hx hn
  intro g hg
  simp [Value.ownBlock] at hg
  omega
/-- where a slice value lies: in no block, or in one that there is -/
def Lies (w : World) (v : Value) : Prop := ∀ g, v.ownBlock = some g → g < w.heap.size
/-- a reading is kept while a block below is written -/
theorem Rd.set_low {w : World} {size n lo : Nat} {v : Value} {xs : List Value} (h : Rd w size v n xs) (hl : ∀ g, v.ownBlock = some g → lo ≤ g) {p : Addr} (hp : p.block < lo) (u : Value) : Rd (w.setCell p u) size v n xs := by
  obtain ⟨h1, A, cap, rfl, hc, hm, hx⟩ := h
  refine ⟨h1, A, cap, rfl, hc, hm, fun hn => ?_⟩
  obtain ⟨b, o, rfl, hb, hj⟩ := hx hn
  have hlo := hl b rfl
  exact ⟨b, o, rfl, by simpa [World.setCell] using hb, fun j u' hu => (World.cell?_of_block (w := w) (Below.heap_setCell w p u b (by omega))).trans (hj j u' hu)⟩
theorem Strs.set_low {w : World} {lo : Nat} {v : Value} {l : List ByteArray} (h : Strs w v l) (hl : ∀ g, v.ownBlock = some g → lo ≤ g) {p : Addr} (hp : p.block < lo) (u : Value) : Strs (w.setCell p u) v l := ⟨h.1.set_low hl hp u, h.2⟩
theorem HunksOwn.set_low {w : World} {tH base lo : Nat} {v : Value} {hs : List Hk} (h : HunksOwn w tH base lo v hs) {p : Addr} (hp : p.block < lo) (hp2 : p.block < base) (u : Value) : HunksOwn (w.setCell p u) tH base lo v hs := by
  obtain ⟨vs, h1, h2, h3, h4⟩ := h
  refine ⟨vs, h1, ownsRow_setCell_below h2 hp2 u, h3, fun i h o n e1 e2 => ?_⟩
  obtain ⟨⟨a1, a2⟩, b1, b2⟩ := h4 i h o n e1 e2
  exact ⟨⟨a1.set_low (fun g hg => (a2 g hg).1) hp u, a2.more (by simp [World.setCell])⟩, b1.set_low (fun g hg => (b2 g hg).1) hp u, b2.more (by simp [World.setCell])⟩
/-- one hunk more, appended -/
theorem HunksOwn.push {w w' : World} {tH base lo : Nat} {v v' : Value} {hs : List Hk} {vs : List (Value × Value)} {h : Hk} (hok' : ∀ h ∈ hs, h.ok) (hok : h.ok) {o n : Value} (ho : Strs w o h.old) (hn : Strs w n h.new)
    (so : Sits w lo o v) (sn : Sits w lo n v) (hvs : vs.length = hs.length) (hel : HunkElems w lo v hs vs)
    (hown : w'.ownsRow base tH 4 v' (hs.length + 1) (hkCells hs vs ++ [.int .i64 h.frm, .int .i64 h.to_, o, n])) (hg : w.grownBy w' v.ownBlock) (hat : v'.ownBlock = v.ownBlock ∨ v'.ownBlock = some w.heap.size) : HunksOwn w' tH base lo v' (hs ++ [h]) := by
  have key : ∀ (l : List ByteArray) (x : Value), Strs w x l → Sits w lo x v → Strs w' x l ∧ Sits w' lo x v' := by
    intro l x hx hl
    refine ⟨hx.grown hg (fun g hg' => (hl g hg').2.2), fun g hg' => ⟨(hl g hg').1, Nat.lt_of_lt_of_le (hl g hg').2.1 hg.size, ?_⟩⟩
    rcases hat with e | e
    · rw [e]; exact (hl g hg').2.2
    · rw [e]; have := (hl g hg').2.1; intro e2; injection e2 with e2; omega
  refine ⟨vs ++ [(o, n)], by simp [hvs], by rw [hkCells_snoc hs vs hvs h o n]; simpa using hown, ?_, ?_⟩
  · intro x hx
    rcases List.mem_append.1 hx with hx | hx
    · exact hok' x hx
    · simp at hx; subst hx; exact hok
  · intro i h' o' n' e1 e2
    by_cases hi : i < hs.length
    · rw [List.getElem?_append_left hi] at e1
      rw [List.getElem?_append_left (by omega)] at e2
      obtain ⟨⟨a1, a2⟩, b1, b2⟩ := hel i h' o' n' e1 e2
      exact ⟨key _ _ a1 a2, key _ _ b1 b2⟩
    · have hi' : i = hs.length := by
        have := (List.getElem?_eq_some_iff.1 e1).1
        simp at this; omega
      subst hi'
      rw [List.getElem?_append_right (Nat.le_refl _)] at e1
      rw [List.getElem?_append_right (by omega), hvs] at e2
      simp at e1 e2
      obtain ⟨rfl, rfl⟩ := e2
      subst e1
      exact ⟨key _ _ ho so, key _ _ hn sn⟩
theorem Strs.one {w : World} {v : Value} {l : List ByteArray} (h : Strs w v l) : v.oneCell' = true := by
  obtain ⟨⟨_, A, cap, rfl, _⟩, _⟩ := h; rfl
theorem four_new (w : World) (a b c d : Value) (t : TypeId) : ∀ (j : Nat) (u : Value), [a, b, c, d][j]? = some u → (w.alloc (.cells #[a, b, c, d] t)).cell? (Addr.add ⟨w.heap.size, 0, none⟩ j) = some u
  | 0, u, h => by simp at h; subst h; simp [Addr.add, World.cell?_alloc_new]
  | 1, u, h => by simp at h; subst h; simp [Addr.add, World.cell?_alloc_new]
  | 2, u, h => by simp at h; subst h; simp [Addr.add, World.cell?_alloc_new]
  | 3, u, h => by simp at h; subst h; simp [Addr.add, World.cell?_alloc_new]
  | j + 4, u, h => by simp at h
theorem Strs.len {w : World} {A : Option Addr} {n cap : Nat} {l : List ByteArray} (h : Strs w (.slice A n cap) l) : n = l.length := by
  obtain ⟨⟨_, _, _, e, _⟩, _⟩ := h; injection e
theorem Strs.drew {w : World} {v : Value} {l : List ByteArray} (h : Strs w v l) : Strs w.drew v l := h
theorem own_lt {w : World} {base : Nat} {e : TypeId} {size : Nat} {v : Value} {n : Nat} {xs : List Value} (h : w.ownsRow base e size v n xs) : ∀ k, v.ownBlock = some k → k < w.heap.size := by
  intro k hk
  rcases h.2 with ⟨rfl, _⟩ | ⟨g, cap, cur, rfl, hg, hh, _⟩
  · simp [Value.ownBlock] at hk
  · simp [Value.ownBlock] at hk
    obtain ⟨hlt, _⟩ := Array.getElem?_eq_some_iff.1 hh
    omega
theorem frozen_alloc {w : World} {p : Addr} {c : Array Value} {t : TypeId} (h : w.frozen? p = false) : (w.alloc (.cells c t)).frozen? p = false := by
  rcases Nat.lt_or_ge p.block w.heap.size with hl | hl
  · exact (((Below.refl w.heap.size w).alloc (Nat.le_refl _) _).frozen hl).trans h
  · unfold World.frozen? World.alloc
    simp only [Array.getElem?_push]
    by_cases e : p.block = w.heap.size
    · simp [e]
    · rw [if_neg e, Array.getElem?_eq_none hl]
theorem grown_cell {w w' : World} {row : Option Nat} {p : Addr} (hg : w.grownBy w' row) (hl : p.block < w.heap.size) (hne : row ≠ some p.block) : w'.cell? p = w.cell? p := World.cell?_of_block (w := w) (hg.block _ hl (fun e => hne e.symm))
theorem grown_frozen {w w' : World} {row : Option Nat} {p : Addr} (hg : w.grownBy w' row) (hl : p.block < w.heap.size) (hne : row ≠ some p.block) : w'.frozen? p = w.frozen? p := World.frozen?_of_block (w := w) (hg.block _ hl (fun e => hne e.symm))
end Go.Pw
