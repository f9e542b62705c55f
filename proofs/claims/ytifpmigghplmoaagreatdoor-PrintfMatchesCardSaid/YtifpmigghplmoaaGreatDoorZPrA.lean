/- Words for memory that the walks of this seat use: what a slice value reads as. Plain lemmas; no program in sight. -/
import Derived.WalkKit
import Derived.Deep.Draws
import Derived.Deep.OwnRows
import Derived.Lib.Strings
import Derived.Test.YtifpmigghplmoaaGreatDoorProg
import Derived.WalkLawsBesides
import Derived.WalkSpells
import Derived.LoopTactic
import Derived.RegionTactic
import Derived.Deep.RegionHeld3
import Derived.Outline
import Derived.Deep.QuietTactic
import Derived.BigQuiet
import Derived.Lib.Bytealg
import Derived.Lib.Small
/- Mem -/
set_option linter.unusedVariables false
set_option linter.unusedSimpArgs false
namespace Go.Pw
open Go.RowKit

theorem hide {p : Prop} (h : p) : Hid p := h
theorem ret_bool {a b : Bool} (h : a = b) : Ending.returned (.bool a) = .returned (.bool b) := by rw [h]
theorem ret_int {k : IntKind} {a b : Int} (h : a = b) : Ending.returned (.int k a) = .returned (.int k b) := by rw [h]

theorem below_drewN {B : Nat} {a w : World} (h : Below B a w) (n : Nat) : Below B a (w.drewN n) := ⟨h.os, h.tape, h.output, h.size, h.block⟩
theorem bytes_eq {x y : ByteArray} (h : (x.toList == y.toList) = true) : x = y := by
  have h1 : x.data.toList = y.data.toList := by rw [← Lib.toList_data, ← Lib.toList_data]; exact eq_of_beq h
  obtain ⟨⟨l⟩⟩ := x
  obtain ⟨⟨m⟩⟩ := y
  simp at h1
  subst h1
  rfl
theorem bytes_ne {x y : ByteArray} (h : (x.toList == y.toList) = false) : ¬ x = y := by
  intro e; subst e; simp at h

/-- The slice value v of n elements of 'size' cells reads the cells xs. -/
def Rd (w : World) (size : Nat) (v : Value) (n : Nat) (xs : List Value) : Prop :=
  xs.length = n * size ∧ ∃ A cap, v = .slice A n cap ∧ n ≤ cap ∧ cap ≤ maxLen ∧
    (0 < n → ∃ b o, A = some ⟨b, o, none⟩ ∧ b < w.heap.size ∧ ∀ j u, xs[j]? = some u → w.cell? ⟨b, o + j, none⟩ = some u)

section
variable {w w' : World} {size n : Nat} {v : Value} {xs : List Value}
theorem Rd.keep (h : Rd w size v n xs) (hz : w.heap.size ≤ w'.heap.size) (hk : ∀ p : Addr, p.block < w.heap.size → w'.cell? p = w.cell? p) : Rd w' size v n xs := by
  obtain ⟨h1, A, cap, rfl, hc, hm, hx⟩ := h
  refine ⟨h1, A, cap, rfl, hc, hm, fun hn => ?_⟩
  obtain ⟨b, o, rfl, hb, hj⟩ := hx hn
  exact ⟨b, o, rfl, by omega, fun j u hu => (hk ⟨b, o + j, none⟩ hb).trans (hj j u hu)⟩
theorem Rd.below (h : Rd w size v n xs) (hb : Below w.heap.size w w') : Rd w' size v n xs := h.keep hb.size fun _ hp => hb.cell hp
theorem Rd.nil (w : World) (size : Nat) : Rd w size (.slice none 0 0) 0 [] := ⟨by simp, none, 0, rfl, Nat.le_refl _, Nat.zero_le _, fun h => absurd h (by omega)⟩
end

/-- A slice of strings that reads as the list l. -/
def Strs (w : World) (v : Value) (l : List ByteArray) : Prop := Rd w 1 v l.length (l.map Value.string) ∧ ∀ s ∈ l, s.size ≤ maxLen
theorem Strs.below {w w' : World} {v : Value} {l : List ByteArray} (h : Strs w v l) (hb : Below w.heap.size w w') : Strs w' v l := ⟨h.1.below hb, h.2⟩
theorem Strs.drewN {w : World} {v : Value} {l : List ByteArray} (h : Strs w v l) (n : Nat) : Strs (w.drewN n) v l := h
theorem sliced_rd {w : World} {size n cap lo hi : Nat} {A : Option Addr} {xs : List Value} (h : Rd w size (.slice A n cap) n xs) (h1 : lo ≤ hi) (h2 : hi ≤ n) :
    Rd w size (sliced A lo hi cap size) (hi - lo) ((xs.drop (lo * size)).take ((hi - lo) * size)) := by
  obtain ⟨hl, A', cap', hv, hc, hm, hx⟩ := h
  injection hv with e1 e2 e3
  subst e1 e3
  refine ⟨?_, _, _, rfl, by omega, by omega, fun hn => ?_⟩
  · rw [List.length_take, List.length_drop, hl, ← Nat.sub_mul]
    exact Nat.min_eq_left (Nat.mul_le_mul_right _ (by omega))
  · obtain ⟨b, o, rfl, hb, hj⟩ := hx (by omega)
    rw [if_neg (by omega)]
    refine ⟨b, o + lo * size, ?_, hb, fun j u hu => ?_⟩
    · simp only [Option.map_some, Addr.add]
      split
      · rename_i h0; rw [h0]; rfl
      · rfl
    · have := hj (lo * size + j) u (by
        rw [List.getElem?_take] at hu
        split at hu
        · rwa [List.getElem?_drop] at hu
        · cases hu)
      rw [← Nat.add_assoc] at this
      exact this
theorem Strs.sliced {w : World} {cap lo hi : Nat} {A : Option Addr} {l : List ByteArray} (h : Strs w (.slice A l.length cap) l) (h1 : lo ≤ hi) (h2 : hi ≤ l.length) :
    Strs w (Go.sliced A lo hi cap 1) ((l.drop lo).take (hi - lo)) := by
  have := sliced_rd h.1 h1 h2
  refine ⟨?_, fun s hs => h.2 s (List.mem_of_mem_drop (List.mem_of_mem_take hs))⟩
  simp only [Nat.mul_one] at this
  rw [← List.map_drop, ← List.map_take] at this
  have e : ((l.drop lo).take (hi - lo)).length = hi - lo := by simp; omega
  rw [e]
  exact this
theorem Strs.from_ {w : World} {cap lo : Nat} {A : Option Addr} {l : List ByteArray} (h : Strs w (.slice A l.length cap) l) (h1 : lo ≤ l.length) :
    Strs w (Go.sliced A lo l.length cap 1) (l.drop lo) := by
  have := h.sliced h1 (Nat.le_refl _)
  rwa [List.take_of_length_le (by simp)] at this
/-- A slice of slices of strings. -/
def StrsL (w : World) (v : Value) (ls : List (List ByteArray)) : Prop := ∃ vs : List Value, vs.length = ls.length ∧ Rd w 1 v ls.length vs ∧ ∀ (i : Nat) u l, vs[i]? = some u → ls[i]? = some l → Strs w u l
theorem StrsL.below {w w' : World} {v : Value} {l : List (List ByteArray)} (h : StrsL w v l) (hb : Below w.heap.size w w') : StrsL w' v l := by
  obtain ⟨vs, h1, h2, h3⟩ := h
  exact ⟨vs, h1, h2.below hb, fun i u l hu hl => (h3 i u l hu hl).below hb⟩

theorem take_snoc (s : ByteArray) (k : Nat) (h : k < s.size) : s.data.toList.take (k + 1) = s.data.toList.take k ++ [s[k]] := by
  rw [List.take_succ_eq_append_getElem (by simpa using h)]; rfl
theorem drop_byte (s : ByteArray) (k : Nat) (h : k < s.size) : s.data.toList.drop k = s[k] :: s.data.toList.drop (k + 1) := by
  rw [List.drop_eq_getElem_cons (by simpa using h)]; rfl

/-- A table of n rows of m integers that the call made: the rows' values in block N, row i in block N + 1 + i; so far k rows are made. -/
def GridTo (w : World) (tS tI N n m k : Nat) : Prop :=
  w.heap.size = N + 1 + k ∧ w.rowIs N tS n (fun i => if i < k then .slice (some ⟨N + 1 + i, 0, none⟩) m m else .slice none 0 0) ∧ ∀ i, i < k → w.rowIs (N + 1 + i) tI m (fun _ => .int .i64 0)
def Grid (w : World) (tS tI N n m : Nat) (T : Nat → Nat → Int) : Prop :=
  w.rowIs N tS n (fun i => .slice (some ⟨N + 1 + i, 0, none⟩) m m) ∧ ∀ i, i < n → w.rowIs (N + 1 + i) tI m (fun j => .int .i64 (T i j))
theorem GridTo.start (w : World) (tS tI n m : Nat) : GridTo (w.alloc (.cells (madeCells #[.slice none 0 0] n) tS)) tS tI w.heap.size n m 0 := by
  refine ⟨by simp, ?_, fun i hi => absurd hi (by omega)⟩
  exact (World.rowIs_made w (.slice none 0 0) n tS).congr (fun i hi => by simp)
theorem GridTo.step {w : World} {tS tI N n m k : Nat} (h : GridTo w tS tI N n m k) :
    GridTo ((w.setCell ⟨N, k, none⟩ (.slice (some ⟨w.heap.size, 0, none⟩) m m)).alloc (.cells (madeCells #[.int .i64 0] m) tI)) tS tI N n m (k + 1) := by
  obtain ⟨h1, h2, h3⟩ := h
  refine ⟨by simp [World.setCell, h1]; omega, ?_, fun i hi => ?_⟩
  · refine ((h2.set k (.slice (some ⟨w.heap.size, 0, none⟩) m m)).alloc _).congr fun i hi => ?_
    by_cases e : i = k
    · subst e; simp [h1]
    · simp only [e, if_false]
      by_cases e2 : i < k
      · rw [if_pos e2, if_pos (by omega)]
      · rw [if_neg e2, if_neg (by omega)]
  · by_cases e : i = k
    · subst e
      have := World.rowIs_made (w.setCell ⟨N, i, none⟩ (.slice (some ⟨w.heap.size, 0, none⟩) m m)) (.int .i64 0) m tI
      have e3 : (w.setCell ⟨N, i, none⟩ (.slice (some ⟨w.heap.size, 0, none⟩) m m)).heap.size = N + 1 + i := by simp [World.setCell, h1]
      rw [e3] at this
      exact this
    · exact ((h3 i (by omega)).setOther (by simp; omega) _).alloc _
theorem GridTo.lt {w : World} {tS tI N n m k : Nat} (h : GridTo w tS tI N n m k) : N < w.heap.size := h.2.1.lt
theorem GridTo.cell {w : World} {tS tI N n m k : Nat} (h : GridTo w tS tI N n m k) (hk : k < n) : w.cell? ⟨N, k, none⟩ = some (.slice none 0 0) := by
  have := h.2.1.cell hk
  simpa using this
theorem GridTo.frozen {w : World} {tS tI N n m k : Nat} (h : GridTo w tS tI N n m k) : w.frozen? ⟨N, k, none⟩ = false := h.2.1.frozen k
theorem GridTo.done {w : World} {tS tI N n m : Nat} (h : GridTo w tS tI N n m n) : Grid w tS tI N n m (fun _ _ => 0) :=
  ⟨h.2.1.congr fun i hi => by rw [if_pos hi], h.2.2⟩

section
variable {w : World} {tS tI N n m i j : Nat} {T U : Nat → Nat → Int}
theorem Grid.row (h : Grid w tS tI N n m T) (hi : i < n) : w.cell? ⟨N, i, none⟩ = some (.slice (some ⟨N + 1 + i, 0, none⟩) m m) := h.1.cell hi
theorem Grid.cell (h : Grid w tS tI N n m T) (hi : i < n) (hj : j < m) : w.cell? ⟨N + 1 + i, j, none⟩ = some (.int .i64 (T i j)) := (h.2 i hi).cell hj
theorem Grid.frozen (h : Grid w tS tI N n m T) (hi : i < n) : w.frozen? ⟨N + 1 + i, j, none⟩ = false := (h.2 i hi).frozen j
theorem Grid.lt (h : Grid w tS tI N n m T) (hi : i < n) : N + 1 + i < w.heap.size := (h.2 i hi).lt
theorem Grid.drew (h : Grid w tS tI N n m T) : Grid w.drew tS tI N n m T := h
theorem Grid.drewN (h : Grid w tS tI N n m T) (k : Nat) : Grid (w.drewN k) tS tI N n m T := h
theorem Grid.congr (h : Grid w tS tI N n m T) (e : ∀ i j, i < n → j < m → T i j = U i j) : Grid w tS tI N n m U :=
  ⟨h.1, fun i hi => (h.2 i hi).congr fun j hj => by rw [e i j hi hj]⟩
theorem Grid.set (h : Grid w tS tI N n m T) (i j : Nat) (x : Int) : Grid (w.setCell ⟨N + 1 + i, j, none⟩ (.int .i64 x)) tS tI N n m (fun r c => if r = i ∧ c = j then x else T r c) := by
  refine ⟨h.1.setOther (by simp; omega) _, fun r hr => ?_⟩
  by_cases e : r = i
  · subst e
    refine ((h.2 r hr).set j (.int .i64 x)).congr fun c hc => ?_
    by_cases e2 : c = j <;> simp [e2]
  · exact ((h.2 r hr).setOther (by simp; omega) _).congr fun c hc => by dsimp only; rw [if_neg (fun h => e h.1)]
theorem Grid.below {w' : World} {B : Nat} (h : Grid w tS tI N n m T) (hb : Below B w w') (hB : N + 1 + n ≤ B) : Grid w' tS tI N n m T :=
  ⟨h.1.of_block (hb.block _ (by omega)), fun i hi => (h.2 i hi).of_block (hb.block _ (by omega))⟩
end

/-- the first number that is not 0 -/
def firstNZ : List Int → Int
  | [] => 0
  | x :: xs => if x = 0 then firstNZ xs else x
section
variable {α : Type} {f : α → Int} {l : List α} {k : Nat}
theorem fnz_step (f : α → Int) (hk : k < l.length) : firstNZ ((l.drop k).map f) = if f l[k] = 0 then firstNZ ((l.drop (k + 1)).map f) else f l[k] := by
  rw [List.drop_eq_getElem_cons hk]; rfl
theorem fnz_hit {r : Int} (h : Hid (r = firstNZ ((l.drop k).map f))) (hk : k < l.length) {e : Int} (he : f l[k] = e) (hne : e ≠ 0) : e = r := by
  rw [h.out, fnz_step f hk, he, if_neg hne]
theorem fnz_miss {r : Int} (h : Hid (r = firstNZ ((l.drop k).map f))) (hk : k < l.length) (he : f l[k] = 0) : Hid (r = firstNZ ((l.drop (k + 1)).map f)) := by
  have := h.out
  rw [fnz_step f hk, he, if_pos rfl] at this
  exact this
theorem fnz_end {r : Int} (h : Hid (r = firstNZ ((l.drop k).map f))) (hk : ¬ k < l.length) : 0 = r := by
  rw [h.out, List.drop_of_length_le (by omega)]; rfl
end

/-- the cells of pairs of integers -/
def pairCells : List (Nat × Nat) → List Value
  | [] => []
  | p :: ps => .int .i64 (p.1 : Int) :: .int .i64 (p.2 : Int) :: pairCells ps
theorem two_new (w : World) (x y : Value) (t : TypeId) : ∀ (j : Nat) (u : Value), [x, y][j]? = some u → (w.alloc (.cells #[x, y] t)).cell? (Addr.add ⟨w.heap.size, 0, none⟩ j) = some u
  | 0, u, h => by simp at h; subst h; simp [Addr.add, World.cell?_alloc_new]
  | 1, u, h => by simp at h; subst h; simp [Addr.add, World.cell?_alloc_new]
  | j + 2, u, h => by simp at h
theorem pairCells_snoc (l : List (Nat × Nat)) (a b : Nat) : pairCells (l ++ [(a, b)]) = pairCells l ++ [.int .i64 (a : Int), .int .i64 (b : Int)] := by
  induction l with
  | nil => rfl
  | cons x l ih => simp [pairCells, ih]
theorem own_ge {w : World} {base : Nat} {e : TypeId} {size : Nat} {v : Value} {n : Nat} {xs : List Value} (h : w.ownsRow base e size v n xs) : ∀ k, v.ownBlock = some k → base ≤ k := by
  intro k hk
  rcases h.2 with ⟨rfl, _⟩ | ⟨g, cap, cur, rfl, hg, _⟩
  · simp [Value.ownBlock] at hk
  · simp [Value.ownBlock] at hk; omega
theorem own_mono {w : World} {base base' : Nat} {e : TypeId} {size : Nat} {v : Value} {n : Nat} {xs : List Value} (h : w.ownsRow base e size v n xs) (hb : base' ≤ base) : w.ownsRow base' e size v n xs := by
  refine ⟨h.1, ?_⟩
  rcases h.2 with h2 | ⟨g, cap, cur, hv, hg, r⟩
  · exact .inl h2
  · exact .inr ⟨g, cap, cur, hv, by omega, r⟩
/-- behind a new block and an append to an own row: what lay below the row's base is as it was -/
theorem below_append {w w' : World} {base : Nat} {e : TypeId} {size : Nat} {v : Value} {n : Nat} {xs : List Value} {o : Obj} (h : w.ownsRow base e size v n xs) (hb : base ≤ w.heap.size) (hg : (w.alloc o).grownBy w' v.ownBlock) : Below base w w' :=
  ((Below.refl base w).alloc hb o).grown hg (by simp; omega) (own_ge h)
end Go.Pw

/- InsP -/
/- Plain: an insertion sort of a part of a list, as slices.SortStableFunc does it with few elements. -/
set_option linter.unusedVariables false
namespace Go.Pw
variable {α : Type}

/-- two places of a list exchanged -/
def swapL (l : List α) (i j : Nat) : List α := match l[i]?, l[j]? with
  | some x, some y => (l.set i y).set j x
  | _, _ => l
theorem swapL_length (l : List α) (i j : Nat) : (swapL l i j).length = l.length := by
  unfold swapL; split <;> simp
theorem swapL_eq (l : List α) (i j : Nat) (hi : i < l.length) (hj : j < l.length) : swapL l i j = (l.set i l[j]).set j l[i] := by
  unfold swapL; rw [List.getElem?_eq_getElem hi, List.getElem?_eq_getElem hj]
/-- the element at a place sinks; n: how far it may -/
def sinkL (lt : α → α → Bool) : Nat → Nat → List α → List α
  | 0, _, l => l
  | n + 1, j, l => match l[j]?, l[j - 1]? with
    | some x, some y => if lt x y then sinkL lt n (j - 1) (swapL l j (j - 1)) else l
    | _, _ => l
theorem sinkL_length (lt : α → α → Bool) : ∀ n j (l : List α), (sinkL lt n j l).length = l.length
  | 0, _, _ => rfl
  | n + 1, j, l => by
    unfold sinkL
    split
    · split
      · rw [sinkL_length lt n, swapL_length]
      · rfl
    · rfl
theorem sinkL_step (lt : α → α → Bool) (n j : Nat) (l : List α) (hj : j < l.length) : sinkL lt (n + 1) j l = if lt l[j] (l[j - 1]'(by omega)) then sinkL lt n (j - 1) (swapL l j (j - 1)) else l := by
  have h1 : j - 1 < l.length := by omega
  rw [sinkL, List.getElem?_eq_getElem hj, List.getElem?_eq_getElem h1]
/-- the part from a on, of so many elements, is sorted by insertion -/
def insL (lt : α → α → Bool) (a : Nat) : Nat → List α → List α
  | 0, l => l
  | n + 1, l => sinkL lt n (a + n) (insL lt a n l)
theorem insL_length (lt : α → α → Bool) (a : Nat) : ∀ n (l : List α), (insL lt a n l).length = l.length
  | 0, _ => rfl
  | n + 1, l => by rw [insL, sinkL_length, insL_length lt a n]
theorem mem_swapL {l : List α} {i j : Nat} {x : α} (h : x ∈ swapL l i j) : x ∈ l := by
  unfold swapL at h
  split at h
  · rename_i y z h1 h2
    have m1 := List.mem_of_getElem? h1
    have m2 := List.mem_of_getElem? h2
    rcases List.mem_or_eq_of_mem_set h with h | h
    · rcases List.mem_or_eq_of_mem_set h with h | h
      · exact h
      · subst h; exact m2
    · subst h; exact m1
  · exact h
theorem mem_sinkL {lt : α → α → Bool} {x : α} : ∀ {n j : Nat} {l : List α}, x ∈ sinkL lt n j l → x ∈ l
  | 0, _, _, h => h
  | n + 1, j, l, h => by
    unfold sinkL at h
    split at h
    · split at h
      · exact mem_swapL (mem_sinkL h)
      · exact h
    · exact h
theorem mem_insL {lt : α → α → Bool} {a : Nat} {x : α} : ∀ {n : Nat} {l : List α}, x ∈ insL lt a n l → x ∈ l
  | 0, _, h => h
  | n + 1, l, h => mem_insL (mem_sinkL h)
end Go.Pw

/- Sort -/
set_option linter.unusedVariables false
set_option linter.unusedSimpArgs false
namespace Go.Pw
open Go.RowKit
/-- below N all blocks but one are as they were -/
structure But (N B : Nat) (w w' : World) : Prop where
  os : w'.os = w.os
  tape : w'.tape = w.tape
  output : w'.output = w.output
  size : w.heap.size ≤ w'.heap.size
  block : ∀ k, k < N → k ≠ B → w'.heap[k]? = w.heap[k]?
theorem But.refl (N B : Nat) (w : World) : But N B w w := ⟨rfl, rfl, rfl, Nat.le_refl _, fun _ _ _ => rfl⟩
theorem But.trans {N B : Nat} {a b c : World} (h : But N B a b) (k : But N B b c) : But N B a c :=
  ⟨k.os.trans h.os, k.tape.trans h.tape, k.output.trans h.output, Nat.le_trans h.size k.size, fun i hi hn => (k.block i hi hn).trans (h.block i hi hn)⟩
theorem But.of_below {N B M : Nat} {w w' : World} (h : Below M w w') (hM : N ≤ M) : But N B w w' := ⟨h.os, h.tape, h.output, h.size, fun k hk _ => h.block k (by omega)⟩
theorem But.below {N B M : Nat} {w w' : World} (h : But N B w w') (hM : M ≤ N) (hB : M ≤ B) : Below M w w' := ⟨h.os, h.tape, h.output, h.size, fun k hk => h.block k (by omega) (by omega)⟩
theorem But.drew {N B : Nat} {a w : World} (h : But N B a w) : But N B a w.drew := ⟨h.os, h.tape, h.output, h.size, h.block⟩
theorem But.setCell {N B : Nat} {a w : World} (h : But N B a w) (j : Nat) (u : Value) : But N B a (w.setCell ⟨B, j, none⟩ u) :=
  ⟨h.os, h.tape, h.output, by simpa [World.setCell] using h.size, fun k hk hn => (Below.heap_setCell _ _ _ _ (by simpa using hn)).trans (h.block k hk hn)⟩
theorem But.cell {N B : Nat} {w w' : World} (h : But N B w w') {p : Addr} (hp : p.block < N) (hn : p.block ≠ B) : w'.cell? p = w.cell? p := World.cell?_of_block (w := w) (h.block p.block hp hn)

/-- a row of strings that may be written -/
def RowS (w : World) (B o : Nat) (l : List ByteArray) : Prop := B < w.heap.size ∧ ∀ i s, l[i]? = some s → w.cell? ⟨B, o + i, none⟩ = some (.string s) ∧ w.frozen? ⟨B, o + i, none⟩ = false
theorem RowS.below {w w' : World} {B o M : Nat} {l : List ByteArray} (h : RowS w B o l) (hb : Below M w w') (hM : B < M) : RowS w' B o l :=
  ⟨by have := hb.size; have := h.1; omega, fun i s hs => ⟨(hb.cell (p := ⟨B, o + i, none⟩) hM).trans (h.2 i s hs).1, (hb.frozen (p := ⟨B, o + i, none⟩) hM).trans (h.2 i s hs).2⟩⟩
theorem RowS.drew {w : World} {B o : Nat} {l : List ByteArray} (h : RowS w B o l) : RowS w.drew B o l := h
theorem RowS.set {w : World} {B o i : Nat} {l : List ByteArray} (h : RowS w B o l) (s : ByteArray) (hi : i < l.length) : RowS (w.setCell ⟨B, o + i, none⟩ (.string s)) B o (l.set i s) := by
  refine ⟨by simpa [World.setCell] using h.1, fun k x hx => ?_⟩
  by_cases e : i = k
  · subst e
    rw [List.getElem?_set_self hi] at hx
    injection hx with hx
    subst hx
    obtain ⟨h1, h2⟩ := h.2 i _ (List.getElem?_eq_getElem hi)
    refine ⟨?_, ?_⟩
    · exact World.cell?_setCell_same _ _ _ h1
    · simpa using h2
  · rw [List.getElem?_set_ne e] at hx
    obtain ⟨h1, h2⟩ := h.2 k x hx
    refine ⟨?_, ?_⟩
    · exact (World.cell?_setCell_other _ _ _ _ (by intro h; injection h with _ h _; omega)).trans h1
    · simpa using h2
end Go.Pw
namespace Go.Proofs.YtifpmigghplmoaaGreatDoor
open Go.RowKit Go.Pw

set_option maxHeartbeats 2000000 in
set_option maxRecDepth 100000 in
theorem insertion_any (cf : ByteArray → ByteArray → Int) (sv : Value) (N B o cap a b : Nat) (l : List ByteArray) (w : World) (hB : B < N) (hN : N ≤ w.heap.size) (hrow : RowS w B o l) (hab : a ≤ b) (hle : b ≤ l.length) (hcap : l.length ≤ cap) (hc2 : l.length ≤ 140737488355328)
    (hsz : ∀ s ∈ l, s.size ≤ 65536)
    (hcmp : ∀ (x y : ByteArray) (w1 : World), x.size ≤ 65536 → y.size ≤ 65536 → But N B w w1 → Calls Tryz.prog 68 #[sv, .string x, .string y] w1 fun e w2 => e = .returned (.int .i64 (cf x y)) ∧ Below w1.heap.size w1 w2) :
    Calls Tryz.prog 140 #[.slice (some ⟨B, o, none⟩) l.length cap, .int .i64 a, .int .i64 (b : Int), .func (.func 68) #[sv] #[]] w
      fun e w' => e = .returned (.tuple #[]) ∧ RowS w' B o (insL (fun x y => decide (cf x y < 0)) a (b - a) l) ∧ But N B w w' := by
  have HC := hide hcmp
  have HZ := hide hsz
  clear hcmp hsz
  go_enter Tryz.func140, Tryz.ntmps140
  go_wp2_with fail
  go_loopw [8] (fun i wr => ∃ m : Nat, a + 1 ≤ m ∧ (m ≤ b ∨ m = a + 1) ∧ i = .int .i64 (m : Int) ∧ RowS wr B o (insL (fun x y => decide (cf x y < 0)) a (m - a) l) ∧ But N B w wr) (fun i _ => b - (intOf i).toNat)
  case atStart => exact ⟨a + 1, by omega, .inr rfl, by go_num, by rw [show a + 1 - a = 1 by omega]; exact hrow, But.refl _ _ _⟩
  case round =>
    obtain ⟨m, hm1, hm2, rfl, hrm, hbut⟩ := hrel
    by_cases hlt : m < b
    · obtain ⟨lm, hlm⟩ : ∃ lm, insL (fun x y => decide (cf x y < 0)) a (m - a) l = lm := ⟨_, rfl⟩
      have hll : lm.length = l.length := by rw [← hlm, insL_length]
      have hmem : ∀ s ∈ lm, s.size ≤ 65536 := fun s hs => HZ.out s (mem_insL (by rw [hlm]; exact hs))
      have HN : Hid (insL (fun x y => decide (cf x y < 0)) a (m + 1 - a) l = sinkL (fun x y => decide (cf x y < 0)) (m - a) m lm) := by
        show _ = _
        rw [show m + 1 - a = (m - a) + 1 by omega, insL, hlm, show a + (m - a) = m by omega]
      rw [hlm] at hrm
      have HLL := hide hll
      have HMM := hide hmem
      clear hlm hll hmem
      go_wp2_with fail
      go_loopw [9] (fun j wr => ∃ (r : Nat) (lr : List ByteArray), a ≤ r ∧ r ≤ m ∧ j = .int .i64 (r : Int) ∧ Hid (lr.length = l.length) ∧ Hid (insL (fun x y => decide (cf x y < 0)) a (m + 1 - a) l = sinkL (fun x y => decide (cf x y < 0)) (r - a) r lr) ∧ Hid (∀ s ∈ lr, s.size ≤ 65536) ∧ RowS wr B o lr ∧ But N B w wr) (fun j _ => (intOf j).toNat)
      case atStart => exact ⟨m, lm, by omega, by omega, rfl, HLL, HN, HMM, hrm, hbut⟩
      case round =>
        obtain ⟨r, lr, hra, hr, rfl, hl1, hn1, hz1, hr1, hb1⟩ := hrel
        by_cases hr0 : a < r
        · have hg : decide (a < r) = true := by simpa using hr0
          have i1 : r < lr.length := by rw [hl1.out]; omega
          have i2 : r - 1 < lr.length := by omega
          have c1 := hr1.2 r _ (List.getElem?_eq_getElem i1)
          have c2 := hr1.2 (r - 1) _ (List.getElem?_eq_getElem i2)
          have z1 := hz1.out _ (List.getElem_mem i1)
          have z2 := hz1.out _ (List.getElem_mem i2)
          have hs1 := sinkL_step (fun x y => decide (cf x y < 0)) (r - 1 - a) r lr i1
          rw [show r - 1 - a + 1 = r - a by omega] at hs1
          obtain ⟨x, hx⟩ : ∃ x, lr[r] = x := ⟨_, rfl⟩
          obtain ⟨y, hy⟩ : ∃ y, lr[r - 1] = y := ⟨_, rfl⟩
          have hsw := swapL_eq lr r (r - 1) i1 i2
          rw [hx, hy] at hs1 hsw
          have HS := hide hs1
          have HSW := hide hsw
          rw [hx] at c1 z1 
          rw [hy] at c2 z2
          clear hx hy hs1 hsw
          obtain ⟨c1, f1⟩ := c1
          obtain ⟨c2, f2⟩ := c2
          have hlB := hr1.1
          have hw1 : IntKind.i64.wrap ((r : Int) - 1) = (r : Int) - 1 := IntWalk.i64_in _ (by omega)
          have hw2 : ((r : Int) - 1).toNat = r - 1 := by omega
          have hw3 : (0 : Int) ≤ (r : Int) - 1 := by omega
          have hw4 : (r : Int) - 1 < (l.length : Int) := by omega
          have hw5 : r < l.length := by omega
          have hw6 : (1 : Int) ≤ (r : Int) := by omega
          have hw7 : 1 ≤ r := by omega
          by_cases hcf : cf x y < 0
          · have hcf' : decide (cf x y < 0) = true := by simpa using hcf
            have HN2 : Hid (insL (fun x y => decide (cf x y < 0)) a (m + 1 - a) l = sinkL (fun x y => decide (cf x y < 0)) (r - 1 - a) (r - 1) ((lr.set r y).set (r - 1) x)) := by
              show _ = _
              rw [hn1.out, HS.out, hcf', if_pos rfl, HSW.out]
            have HL2 : Hid (((lr.set r y).set (r - 1) x).length = l.length) := by show _ = _; simp [hl1.out]
            have HZ2 : Hid (∀ s ∈ (lr.set r y).set (r - 1) x, s.size ≤ 65536) := hide (by
              intro s hs
              rcases List.mem_or_eq_of_mem_set hs with hs | hs
              · rcases List.mem_or_eq_of_mem_set hs with hs | hs
                · exact hz1.out s hs
                · subst hs; exact z2
              · subst hs; exact z1)
            clear hcf
            go_wp2_with fail
            go_region_held3 (fun w' => w'.cell? ⟨B, o + r, none⟩ = some (.string x) ∧ w'.cell? ⟨B, o + (r - 1), none⟩ = some (.string y)) (go_keep) ((go_at_call 68; (with_reducible refine (HC.out x y _ z1 z2 (But.drew hb1)).mono ?_); rintro e w1 ⟨rfl, hbl⟩; have hbl' : Below wr.heap.size wr w1 := ⟨hbl.os, hbl.tape, hbl.output, hbl.size, hbl.block⟩; have q1 : w1.cell? ⟨B, o + r, none⟩ = some (.string x) := (hbl'.cell hlB).trans c1; have q2 : w1.cell? ⟨B, o + (r - 1), none⟩ = some (.string y) := (hbl'.cell hlB).trans c2))
            have hr2 : RowS w1 B o lr := hr1.below hbl' hlB
            have hb2 : But N B w w1 := hb1.trans (But.of_below hbl' (by have := hb1.size; omega))
            have f1' : w1.frozen? ⟨B, o + r, none⟩ = false := (hbl'.frozen hlB).trans f1
            have f2' : w1.frozen? ⟨B, o + (r - 1), none⟩ = false := (hbl'.frozen hlB).trans f2
            clear hbl hbl' c1 c2 f1 f2 hr1 hb1
            have hr3 := (hr2.set y i1).set (i := r - 1) x (by simpa using i2)
            clear hr2
            go_wp2_with fail
            go_region
            all_goals
              go_wp2_with fail
              go_roundw
              case rel => exact ⟨r - 1, (lr.set r y).set (r - 1) x, by omega, by omega, by go_num, HL2, HN2, HZ2, by first | exact hr3 | exact RowS.drew hr3, ((hb2.setCell _ _).setCell _ _).drew⟩
              case measure => simp [intOf]; omega
          · have hcf' : decide (cf x y < 0) = false := by simpa using hcf
            have HN2 : Hid (insL (fun x y => decide (cf x y < 0)) a (m + 1 - a) l = lr) := by
              show _ = _
              rw [hn1.out, HS.out, hcf', if_neg (by simp)]
            clear hcf
            go_wp2_with fail
            go_region_held3 (fun w' => w'.cell? ⟨B, o + r, none⟩ = some (.string x) ∧ w'.cell? ⟨B, o + (r - 1), none⟩ = some (.string y)) (go_keep) ((go_at_call 68; (with_reducible refine (HC.out x y _ z1 z2 (But.drew hb1)).mono ?_); rintro e w1 ⟨rfl, hbl⟩; have hbl' : Below wr.heap.size wr w1 := ⟨hbl.os, hbl.tape, hbl.output, hbl.size, hbl.block⟩; have q1 : w1.cell? ⟨B, o + r, none⟩ = some (.string x) := (hbl'.cell hlB).trans c1; have q2 : w1.cell? ⟨B, o + (r - 1), none⟩ = some (.string y) := (hbl'.cell hlB).trans c2))
            have hr2 : RowS w1 B o lr := hr1.below hbl' hlB
            have hb2 : But N B w w1 := hb1.trans (But.of_below hbl' (by have := hb1.size; omega))
            have f1' : w1.frozen? ⟨B, o + r, none⟩ = false := (hbl'.frozen hlB).trans f1
            have f2' : w1.frozen? ⟨B, o + (r - 1), none⟩ = false := (hbl'.frozen hlB).trans f2
            clear hbl hbl' c1 c2 f1 f2 hr1 hb1
            rw [← HN2.out] at hr2
            go_wp2_with fail
            go_roundw
            case rel => exact ⟨m + 1, by omega, by omega, by go_num, hr2, hb2⟩
            case measure => simp [intOf]; omega
        · have hg : decide (a < r) = false := by simpa using hr0
          have HN2 : Hid (insL (fun x y => decide (cf x y < 0)) a (m + 1 - a) l = lr) := by
            show _ = _
            rw [hn1.out, show r - a = 0 by omega]; rfl
          rw [← HN2.out] at hr1
          go_wp2_with fail
          go_quiet (fail)
          go_wp2_with fail
          go_roundw
          case rel => exact ⟨m + 1, by omega, by omega, by go_num, hr1, ⟨hb1.os, hb1.tape, hb1.output, hb1.size, hb1.block⟩⟩
          case measure => simp [intOf]; omega
    · go_wp2_with fail
      go_end0
      refine ⟨rfl, ?_, hbut⟩
      by_cases hn : b = a
      · obtain rfl : m = a + 1 := by omega
        rw [show a + 1 - a = 1 by omega] at hrm
        rw [show b - a = 0 by omega]
        exact hrm
      · obtain rfl : m = b := by omega
        exact hrm

section
variable (cf : ByteArray → ByteArray → Int) (sv : Value) (N B o cap : Nat) (l : List ByteArray) (w : World) (hB : B < N) (hN : N ≤ w.heap.size) (hrow : RowS w B o l) (hcap : l.length ≤ cap) (hc2 : l.length ≤ 140737488355328)
    (hsz : ∀ s ∈ l, s.size ≤ 65536)
    (hcmp : ∀ (x y : ByteArray) (w1 : World), x.size ≤ 65536 → y.size ≤ 65536 → But N B w w1 → Calls Tryz.prog 68 #[sv, .string x, .string y] w1 fun e w2 => e = .returned (.int .i64 (cf x y)) ∧ Below w1.heap.size w1 w2)
include hB hN hrow hcap hc2 hsz hcmp
set_option maxHeartbeats 1000000 in
set_option maxRecDepth 100000 in
theorem stable_few (h20 : l.length < 20) :
    Calls Tryz.prog 107 #[.slice (some ⟨B, o, none⟩) l.length cap, .int .i64 (l.length : Int), .func (.func 68) #[sv] #[]] w
      fun e w' => e = .returned (.tuple #[]) ∧ RowS w' B o (insL (fun x y => decide (cf x y < 0)) 0 l.length l) ∧ But N B w w' := by
  have HI := hide (insertion_any cf sv N B o cap 0 l.length l w hB hN hrow (Nat.zero_le _) (Nat.le_refl _) hcap hc2 hsz hcmp)
  clear hsz hcmp hrow
  go_enter Tryz.func107, Tryz.ntmps107
  go_wp2_with fail
  refine wp_loop_rounds 1 ?_
  rw [rounds_succ]
  go_wp2_with fail
  refine HI.out.mono ?_
  rintro e w1 ⟨rfl, hr1, hb1⟩
  go_wp2_with fail
  refine wp_loop_rounds 1 ?_
  rw [rounds_succ]
  go_wp2_with fail
  go_end0
  exact ⟨rfl, hr1, hb1⟩
set_option maxHeartbeats 1000000 in
set_option maxRecDepth 100000 in
theorem sortStable_few (h20 : l.length < 20) :
    Calls Tryz.prog 67 #[.slice (some ⟨B, o, none⟩) l.length cap, .func (.func 68) #[sv] #[]] w
      fun e w' => e = .returned (.tuple #[]) ∧ RowS w' B o (insL (fun x y => decide (cf x y < 0)) 0 l.length l) ∧ But N B w w' := by
  have HI := hide (stable_few cf sv N B o cap l w hB hN hrow hcap hc2 hsz hcmp h20)
  clear hsz hcmp hrow
  go_enter Tryz.func67, Tryz.ntmps67
  go_wp2_with fail
  refine HI.out.mono ?_
  rintro e w1 ⟨rfl, hr1, hb1⟩
  go_wp2_with fail
  go_end0
  exact ⟨rfl, hr1, hb1⟩
end
end Go.Proofs.YtifpmigghplmoaaGreatDoor

/- OrdP -/
set_option linter.unusedVariables false
namespace Go.Pw

/-- a byte of a string, by its place -/
def bt (s : ByteArray) (i : Nat) : UInt8 := s.data.toList.getD i 0
theorem bt_eq {s : ByteArray} {i : Nat} (h : i < s.size) : bt s i = s[i] := by
  unfold bt
  have : i < s.data.toList.length := by simpa using h
  rw [List.getD_eq_getElem?_getD, List.getElem?_eq_getElem this]; rfl
def blankB (c : UInt8) : Bool := c == 9 || c == 32
def digB (c : UInt8) : Bool := decide (48 ≤ c.toNat) && decide (c.toNat ≤ 57)

/-- does a field end at a place -/
def fldHit (line sep : ByteArray) (i : Nat) : Bool := if sep.size = 0 then decide (0 < i) && blankB (bt line i) && !blankB (bt line (i - 1)) else bt line i == bt sep 0
/-- the fields that end ahead of a place, and where the next one begins -/
def fldTo (line sep : ByteArray) : Nat → List (Nat × Nat) × Nat
  | 0 => ([], 0)
  | i + 1 => if fldHit line sep i then ((fldTo line sep i).1 ++ [((fldTo line sep i).2, i)], if sep.size = 0 then i else i + 1) else fldTo line sep i
def fldL (line sep : ByteArray) : List (Nat × Nat) := (fldTo line sep line.size).1 ++ [((fldTo line sep line.size).2, line.size)]
theorem fldTo_ok (line sep : ByteArray) : ∀ i, (fldTo line sep i).2 ≤ i ∧ (fldTo line sep i).1.length ≤ i ∧ ∀ p ∈ (fldTo line sep i).1, p.1 ≤ p.2 ∧ p.2 ≤ i
  | 0 => ⟨Nat.le_refl _, Nat.le_refl _, fun p hp => by cases hp⟩
  | i + 1 => by
    obtain ⟨h1, h2, h3⟩ := fldTo_ok line sep i
    unfold fldTo
    split
    · refine ⟨?_, by simp; omega, fun p hp => ?_⟩
      · dsimp only; split <;> omega
      · rcases List.mem_append.1 hp with h | h
        · have := h3 p h; omega
        · simp at h; subst h; exact ⟨h1, by simp⟩
    · exact ⟨by omega, by omega, fun p hp => by have := h3 p hp; omega⟩
theorem fldL_ok (line sep : ByteArray) : (fldL line sep).length ≤ line.size + 1 ∧ 0 < (fldL line sep).length ∧ ∀ p ∈ fldL line sep, p.1 ≤ p.2 ∧ p.2 ≤ line.size := by
  obtain ⟨h1, h2, h3⟩ := fldTo_ok line sep line.size
  unfold fldL
  refine ⟨by simp; omega, by simp, fun p hp => ?_⟩
  rcases List.mem_append.1 hp with h | h
  · exact h3 p h
  · simp at h; subst h; exact ⟨h1, Nat.le_refl _⟩

/-- blanks are passed over -/
def skipF (s : ByteArray) : Nat → Nat → Nat
  | 0, i => i
  | n + 1, i => if blankB (bt s i) then skipF s n (i + 1) else i
theorem skipF_ok (s : ByteArray) : ∀ n i, i ≤ skipF s n i ∧ skipF s n i ≤ i + n
  | 0, i => ⟨Nat.le_refl _, Nat.le_refl _⟩
  | n + 1, i => by
    have := skipF_ok s n (i + 1)
    unfold skipF
    split <;> omega
def begAt (s : ByteArray) (blanks : Bool) (f : Nat × Nat) : Nat := if blanks then skipF s (f.2 - f.1) f.1 else f.1
theorem begAt_ok (s : ByteArray) (b : Bool) (f : Nat × Nat) (h : f.1 ≤ f.2) : f.1 ≤ begAt s b f ∧ begAt s b f ≤ f.2 := by
  have := skipF_ok s (f.2 - f.1) f.1
  unfold begAt
  split <;> omega

/-- a key of an order, as data -/
structure Ky where
  first : Int
  firstB : Int
  last : Int
  lastB : Int
  numeric : Bool
  reverse : Bool
  fold : Bool
  blanks : Bool
/-- an order, as data -/
structure Sp where
  sep : ByteArray
  keys : List Ky
  reverse : Bool
  stable : Bool
  unique : Bool

def keyErr (k : Ky) : Int := if (1 ≤ k.first ∧ k.first ≤ 4096) ∧ (1 ≤ k.firstB ∧ k.firstB ≤ 4096) ∧ (0 ≤ k.last ∧ k.last ≤ 4096) ∧ (0 ≤ k.lastB ∧ k.lastB ≤ 4096) ∧ ¬ (k.last = 0 ∧ k.lastB ≠ 0) then 0 else 3
def Ky.good (k : Ky) : Prop := (1 ≤ k.first ∧ k.first ≤ 4096) ∧ (1 ≤ k.firstB ∧ k.firstB ≤ 4096) ∧ (0 ≤ k.last ∧ k.last ≤ 4096) ∧ (0 ≤ k.lastB ∧ k.lastB ≤ 4096)

def keyFrom (k : Ky) (line sep : ByteArray) : Nat :=
  if k.first ≤ (fldL line sep).length then min (begAt line k.blanks ((fldL line sep).getD (k.first.toNat - 1) (0, 0)) + k.firstB.toNat - 1) ((fldL line sep).getD (k.first.toNat - 1) (0, 0)).2 else line.size
def keyTo (k : Ky) (line sep : ByteArray) : Nat :=
  if 0 < k.last ∧ k.last ≤ (fldL line sep).length then
    (if 0 < k.lastB then min (begAt line k.blanks ((fldL line sep).getD (k.last.toNat - 1) (0, 0)) + k.lastB.toNat) ((fldL line sep).getD (k.last.toNat - 1) (0, 0)).2 else ((fldL line sep).getD (k.last.toNat - 1) (0, 0)).2)
  else line.size
/-- the key of a line -/
def keyOf (k : Ky) (line sep : ByteArray) : ByteArray := if keyTo k line sep < keyFrom k line sep then ⟨#[]⟩ else line.extract (keyFrom k line sep) (keyTo k line sep)

/-- a number: its sign, its digits -/
structure Nm where
  neg : Bool
  whole : List UInt8
  part : List UInt8
def tailZ (l : List UInt8) : List UInt8 := (l.reverse.dropWhile (· == 48)).reverse
def afterSign (l : List UInt8) : List UInt8 := match l with | 45 :: t => t | l => l
def hasSign (l : List UInt8) : Bool := match l with | 45 :: _ => true | _ => false
def partD (l : List UInt8) : List UInt8 := match l with | 46 :: t => t.takeWhile digB | _ => []
def numOf (s : List UInt8) : Nm :=
  ⟨hasSign (s.dropWhile blankB) && !((((afterSign (s.dropWhile blankB)).takeWhile digB).dropWhile (· == 48)) ++ tailZ (partD ((afterSign (s.dropWhile blankB)).dropWhile digB))).isEmpty,
   ((afterSign (s.dropWhile blankB)).takeWhile digB).dropWhile (· == 48),
   tailZ (partD ((afterSign (s.dropWhile blankB)).dropWhile digB))⟩
def cmpNum (a b : Nm) : Int :=
  if a.neg ≠ b.neg then (if a.neg then -1 else 1)
  else if a.neg then -firstNZ [Lib.compareInt a.whole.length b.whole.length, Lib.compareBytes a.whole b.whole, Lib.compareBytes a.part b.part]
  else firstNZ [Lib.compareInt a.whole.length b.whole.length, Lib.compareBytes a.whole b.whole, Lib.compareBytes a.part b.part]
def upB (c : UInt8) : UInt8 := if 97 ≤ c.toNat ∧ c.toNat ≤ 122 then c - 32 else c
def rawCmp (k : Ky) (x y : ByteArray) : Int :=
  if k.numeric then cmpNum (numOf x.data.toList) (numOf y.data.toList)
  else if k.fold then Lib.compareBytes (x.data.toList.map upB) (y.data.toList.map upB)
  else Lib.compareBytes x.data.toList y.data.toList
def keyCmp (sep a b : ByteArray) (k : Ky) : Int := if k.reverse then -rawCmp k (keyOf k a sep) (keyOf k b sep) else rawCmp k (keyOf k a sep) (keyOf k b sep)
def keysCmp (o : Sp) (a b : ByteArray) : Int := firstNZ (o.keys.map (keyCmp o.sep a b))
def wholeCmp (o : Sp) (a b : ByteArray) : Int := if o.reverse then -Lib.compareBytes a.data.toList b.data.toList else Lib.compareBytes a.data.toList b.data.toList
/-- how two lines stand to each other -/
def ordCmp (o : Sp) (a b : ByteArray) : Int :=
  if keysCmp o a b ≠ 0 ∨ (o.keys ≠ [] ∧ (o.stable = true ∨ o.unique = true)) then keysCmp o a b else wholeCmp o a b
def ordErr (o : Sp) : Int :=
  if 1 < o.sep.size ∨ o.sep = ⟨#[10]⟩ then 5 else if 8 < o.keys.length then 2 else firstNZ (o.keys.map keyErr)
end Go.Pw

/- Fields -/
set_option linter.unusedVariables false
set_option linter.unusedSimpArgs false
namespace Go.Proofs.YtifpmigghplmoaaGreatDoor
open Go.RowKit Go.Pw

theorem blank_any (c : UInt8) (w : World) : Calls Tryz.prog 173 #[.int .u8 (c.toNat : Int)] w fun e w' => e = .returned (.bool (blankB c)) ∧ w = w' := by
  have H : Hid (blankB c = (((c.toNat : Int) == 9) || ((c.toNat : Int) == 32))) := by
    show _ = _
    unfold blankB
    rw [Bool.eq_iff_iff]
    simp [← UInt8.toNat_inj]
    omega
  by_cases h : (c.toNat : Int) = 9
  · have h1 : ((c.toNat : Int) == 9) = true := by simpa using h
    rw [h1] at H
    clear h
    go_enter Tryz.func173, Tryz.ntmps173
    go_wp2
    go_ret
    exact ⟨by rw [H.out]; rfl, rfl⟩
  · have h1 : ((c.toNat : Int) == 9) = false := by simpa using h
    rw [h1] at H
    clear h
    go_enter Tryz.func173, Tryz.ntmps173
    go_wp2
    go_ret
    exact ⟨by rw [H.out]; rfl, rfl⟩

theorem info_span : (Tryz.prog.info? 211).map (fun i => (i.zero, i.size, i.bytes)) = some (some (.agg #[.int .i64 0, .int .i64 0]), 2, 16) := by kernel_rfl

theorem hitB {line sep : ByteArray} {i : Nat} (h : fldHit line sep i = true) : fldTo line sep (i + 1) = ((fldTo line sep i).1 ++ [((fldTo line sep i).2, i)], if sep.size = 0 then i else i + 1) := by
  rw [fldTo, if_pos h]
theorem missB {line sep : ByteArray} {i : Nat} (h : fldHit line sep i = false) : fldTo line sep (i + 1) = fldTo line sep i := by
  rw [fldTo, if_neg (by simp [h])]

/-- where the loop of fields stands -/
def FldAt (line sep : ByteArray) (w : World) (v f : Value) (k : Nat) (wr : World) : Prop :=
  f = .int .i64 ((fldTo line sep k).2 : Int) ∧ wr.ownsRow w.heap.size 211 2 v (fldTo line sep k).1.length (pairCells (fldTo line sep k).1) ∧ Below w.heap.size w wr
theorem FldAt.miss {line sep : ByteArray} {w wr : World} {v f : Value} {k : Nat} (h : FldAt line sep w v f k wr) (hm : fldHit line sep k = false) : FldAt line sep w v f (k + 1) wr := by
  unfold FldAt at *
  rw [missB hm]; exact h
theorem FldAt.drewN {line sep : ByteArray} {w wr : World} {v f : Value} {k : Nat} (h : FldAt line sep w v f k wr) (n : Nat) : FldAt line sep w v f k (wr.drewN n) := ⟨h.1, h.2.1, below_drewN h.2.2 n⟩

theorem hit_nil0 (line : ByteArray) : fldHit line ⟨#[]⟩ 0 = false := by
  unfold fldHit; rw [if_pos (by rfl)]; rfl
theorem hit_nil {line : ByteArray} {k : Nat} (h0 : 0 < k) (h : k < line.size) : fldHit line ⟨#[]⟩ k = (blankB line[k] && !blankB (line[k - 1]'(by omega))) := by
  unfold fldHit
  rw [if_pos (by rfl), bt_eq h, bt_eq (show k - 1 < line.size by omega)]
  simp [h0]
theorem hit_sep {line sep : ByteArray} {k : Nat} (hs : 0 < sep.size) (h : k < line.size) : fldHit line sep k = (line[k] == sep[0]) := by
  unfold fldHit
  rw [if_neg (by omega), bt_eq h, bt_eq hs]
theorem fld_len (line sep : ByteArray) (k : Nat) : (fldTo line sep k).1.length ≤ k := (fldTo_ok line sep k).2.1
theorem FldAt.hit {line sep : ByteArray} {w wr w' : World} {v v' : Value} {k : Nat} (hb : Below w.heap.size w wr) (hown : wr.ownsRow w.heap.size 211 2 v (fldTo line sep k).1.length (pairCells (fldTo line sep k).1)) {o : Obj} (hm : fldHit line sep k = true)
    (hown' : w'.ownsRow w.heap.size 211 2 v' ((fldTo line sep k).1.length + 1) (pairCells (fldTo line sep k).1 ++ [.int .i64 ((fldTo line sep k).2 : Int), .int .i64 (k : Int)])) (hg : (wr.alloc o).grownBy w' v.ownBlock) {f : Value} (hf : f = .int .i64 ((if sep.size = 0 then k else k + 1 : Nat) : Int)) : FldAt line sep w v' f (k + 1) w' := by
  unfold FldAt
  rw [hitB hm]
  refine ⟨hf, ?_, hb.trans (below_append hown hb.size hg)⟩
  rw [pairCells_snoc]
  simpa using hown'

theorem fld_end {line sep : ByteArray} {w wr w' : World} {v v' : Value} (hb : Below w.heap.size w wr) (hown : wr.ownsRow w.heap.size 211 2 v (fldTo line sep line.size).1.length (pairCells (fldTo line sep line.size).1)) {o : Obj}
    (hown' : w'.ownsRow w.heap.size 211 2 v' ((fldTo line sep line.size).1.length + 1) (pairCells (fldTo line sep line.size).1 ++ [.int .i64 ((fldTo line sep line.size).2 : Int), .int .i64 (line.size : Int)])) (hg : (wr.alloc o).grownBy w' v.ownBlock) :
    w'.ownsRow w.heap.size 211 2 v' (fldL line sep).length (pairCells (fldL line sep)) ∧ Below w.heap.size w w' := by
  refine ⟨?_, hb.trans (below_append hown hb.size hg)⟩
  unfold fldL
  rw [pairCells_snoc]
  simpa using hown'

set_option maxHeartbeats 2000000 in
set_option maxRecDepth 100000 in
theorem fields_any (line sep : ByteArray) (w : World) (hl : line.size ≤ 1000000) :
    Calls Tryz.prog 169 #[.string line, .string sep] w fun e w' => ∃ v, e = .returned v ∧ w'.ownsRow w.heap.size 211 2 v (fldL line sep).length (pairCells (fldL line sep)) ∧ Below w.heap.size w w' := by
  obtain ⟨ip, hip, hpz, hps, hpb⟩ := info_parts info_span
  by_cases hsep : sep.size = 0
  · obtain rfl : sep = ⟨#[]⟩ := by
      obtain ⟨⟨l⟩⟩ := sep
      simp [ByteArray.size] at hsep
      subst hsep; rfl
    go_enter Tryz.func169, Tryz.ntmps169
    go_wp2_with fail
    go_loopw [5, 6, 10] (fun v f i wr => ∃ k : Nat, k ≤ line.size ∧ i = .int .i64 (k : Int) ∧ FldAt line ⟨#[]⟩ w v f k wr) (fun _ _ i _ => line.size - (intOf i).toNat)
    case atStart => exact ⟨0, by omega, rfl, rfl, World.ownsRow_nil _ _ _ _, Below.refl _ _⟩
    case round =>
      obtain ⟨k, hk, rfl, hat⟩ := hrel
      by_cases hlt : k < line.size
      · by_cases h0 : 0 < k
        · have e1 := hit_nil h0 hlt
          have hlt' : k - 1 < line.size := by omega
          have hw1 : IntKind.i64.wrap ((k : Int) - 1) = (k : Int) - 1 := IntWalk.i64_in _ (by omega)
          have hw2 : ((k : Int) - 1).toNat = k - 1 := by omega
          have hw6 : (1 : Int) ≤ (k : Int) := by omega
          cases hb1 : blankB line[k]
          · rw [hb1] at e1
            have hn := hat.miss e1
            clear hat e1
            go_wp2_with (go_at_call 173; refine (blank_any _ _).mono ?_; rintro e w' ⟨rfl, rfl⟩)
            go_quiet (fail)
            go_wp2_with fail
            go_roundw
            case rel => exact ⟨k + 1, by omega, by go_num, hn.drewN _⟩
            case measure => simp [intOf]; omega
          · cases hb2 : blankB line[k - 1]
            · rw [hb1, hb2] at e1
              have fl := fld_len line ⟨#[]⟩ k
              obtain ⟨rfl, hown, hbw⟩ := hat
              have HT := hide e1
              have HB := hide hbw
              have HO := hide hown
              clear e1 hbw
              go_wp2_with (first | (go_at_call 173; refine (blank_any _ _).mono ?_; rintro e w' ⟨rfl, rfl⟩) | (at_builtin; refine wpList_append_own _ rfl _ _ 208 rfl w.heap.size 211 ip _ 2 16 Tryz.underlying208 hip hpz hps hpb rfl (by decide) _ _ _ rfl (hown.alloc _) ⟨wr.heap.size, 0, none⟩ 1 1 [.int .i64 ((fldTo line ⟨#[]⟩ k).2 : Int), .int .i64 (k : Int)] rfl rfl ?c1 ?c2 ?c3 ?c4 ?c5 ?_))
              case c1 => exact two_new _ _ _ _
              case c2 => intro u hu; simp at hu; rcases hu with rfl | rfl <;> rfl
              case c3 => unfold maxLen; omega
              case c4 => omega
              case c5 => have := HB.out.size; simp; omega
              intro v' w2 hown' hgrow _
              have hn := FldAt.hit HB.out HO.out HT.out hown' hgrow rfl
              clear hown hown' hgrow
              go_wp2_with fail
              go_roundw
              case rel => exact ⟨k + 1, by omega, by go_num, hn⟩
              case measure => simp [intOf]; omega
            · rw [hb1, hb2] at e1
              have hn := hat.miss e1
              clear hat e1
              go_wp2_with (go_at_call 173; refine (blank_any _ _).mono ?_; rintro e w' ⟨rfl, rfl⟩)
              go_quiet (fail)
              go_wp2_with fail
              go_roundw
              case rel => exact ⟨k + 1, by omega, by go_num, hn.drewN _⟩
              case measure => simp [intOf]; omega
        · obtain rfl : k = 0 := by omega
          have hn := hat.miss (hit_nil0 line)
          clear hat
          go_wp2_with fail
          go_quiet (fail)
          go_wp2_with fail
          go_roundw
          case rel => exact ⟨1, by omega, by go_num, hn.drewN _⟩
          case measure => simp [intOf]; omega
      · obtain rfl : k = line.size := by omega
        have fl := fld_len line ⟨#[]⟩ line.size
        obtain ⟨rfl, hown, hbw⟩ := hat
        have HB := hide hbw
        have HO := hide hown
        clear hbw
        go_wp2_with (at_builtin; refine wpList_append_own _ rfl _ _ 208 rfl w.heap.size 211 ip _ 2 16 Tryz.underlying208 hip hpz hps hpb rfl (by decide) _ _ _ rfl (hown.alloc _) ⟨wr.heap.size, 0, none⟩ 1 1 [.int .i64 ((fldTo line ⟨#[]⟩ line.size).2 : Int), .int .i64 (line.size : Int)] rfl rfl ?d1 ?d2 ?d3 ?d4 ?d5 ?_)
        case d1 => exact two_new _ _ _ _
        case d2 => intro u hu; simp at hu; rcases hu with rfl | rfl <;> rfl
        case d3 => unfold maxLen; omega
        case d4 => omega
        case d5 => have := HB.out.size; simp; omega
        intro v' w2 hown' hgrow _
        have hn := fld_end HB.out HO.out hown' hgrow
        clear hown hown' hgrow
        go_wp2_with fail
        go_ret
        exact ⟨v', rfl, hn⟩
  · have hs0 : 0 < sep.size := by omega
    have hse : sep.toList.isEmpty = false := by
      rw [Lib.toList_data]
      cases h : sep.data.toList with
      | nil => have := Lib.size_eq sep; rw [h, List.length_nil] at this; omega
      | cons _ _ => rfl
    go_enter Tryz.func169, Tryz.ntmps169
    go_wp2_with fail
    go_loopw [5, 6, 10] (fun v f i wr => ∃ k : Nat, k ≤ line.size ∧ i = .int .i64 (k : Int) ∧ FldAt line sep w v f k wr) (fun _ _ i _ => line.size - (intOf i).toNat)
    case atStart => exact ⟨0, by omega, rfl, rfl, World.ownsRow_nil _ _ _ _, Below.refl _ _⟩
    case round =>
      obtain ⟨k, hk, rfl, hat⟩ := hrel
      by_cases hlt : k < line.size
      · have e1 := hit_sep hs0 hlt
        cases hb1 : (line[k] == sep[0])
        · rw [hb1] at e1
          have hn := hat.miss e1
          have hd : ((line[k].toNat : Int) == (sep[0].toNat : Int)) = false := by
            simp [← UInt8.toNat_inj] at hb1 ⊢; omega
          clear hat e1 hb1
          go_wp2_with fail
          go_quiet (fail)
          go_wp2_with fail
          go_roundw
          case rel => exact ⟨k + 1, by omega, by go_num, hn.drewN _⟩
          case measure => simp [intOf]; omega
        · rw [hb1] at e1
          have fl := fld_len line sep k
          have hd : ((line[k].toNat : Int) == (sep[0].toNat : Int)) = true := by
            simp [← UInt8.toNat_inj] at hb1 ⊢; omega
          obtain ⟨rfl, hown, hbw⟩ := hat
          have HT := hide e1
          have HB := hide hbw
          have HO := hide hown
          clear e1 hbw hb1
          go_wp2_with fail
          go_quiet (fail)
          go_wp2_with (at_builtin; refine wpList_append_own _ rfl _ _ 208 rfl w.heap.size 211 ip _ 2 16 Tryz.underlying208 hip hpz hps hpb rfl (by decide) _ _ _ rfl ((show (wr.drewN nq).ownsRow _ _ _ _ _ _ from hown).alloc _) ⟨wr.heap.size, 0, none⟩ 1 1 [.int .i64 ((fldTo line sep k).2 : Int), .int .i64 (k : Int)] rfl rfl ?e1 ?e2 ?e3 ?e4 ?e5 ?_)
          case e1 => exact two_new _ _ _ _
          case e2 => intro u hu; simp at hu; rcases hu with rfl | rfl <;> rfl
          case e3 => unfold maxLen; omega
          case e4 => omega
          case e5 => have := HB.out.size; simp; omega
          intro v' w2 hown' hgrow _
          have hn := FldAt.hit (below_drewN HB.out nq) HO.out HT.out hown' hgrow (f := .int .i64 ((k : Int) + 1)) (by rw [if_neg hsep]; go_num)
          clear hown hown' hgrow
          go_wp2_with fail
          go_roundw
          case rel => exact ⟨k + 1, by omega, by go_num, hn⟩
          case measure => simp [intOf]; omega
      · obtain rfl : k = line.size := by omega
        have fl := fld_len line sep line.size
        obtain ⟨rfl, hown, hbw⟩ := hat
        have HB := hide hbw
        have HO := hide hown
        clear hbw
        go_wp2_with (at_builtin; refine wpList_append_own _ rfl _ _ 208 rfl w.heap.size 211 ip _ 2 16 Tryz.underlying208 hip hpz hps hpb rfl (by decide) _ _ _ rfl (hown.alloc _) ⟨wr.heap.size, 0, none⟩ 1 1 [.int .i64 ((fldTo line sep line.size).2 : Int), .int .i64 (line.size : Int)] rfl rfl ?f1 ?f2 ?f3 ?f4 ?f5 ?_)
        case f1 => exact two_new _ _ _ _
        case f2 => intro u hu; simp at hu; rcases hu with rfl | rfl <;> rfl
        case f3 => unfold maxLen; omega
        case f4 => omega
        case f5 => have := HB.out.size; simp; omega
        intro v' w2 hown' hgrow _
        have hn := fld_end HB.out HO.out hown' hgrow
        clear hown hown' hgrow
        go_wp2_with fail
        go_ret
        exact ⟨v', rfl, hn⟩
end Go.Proofs.YtifpmigghplmoaaGreatDoor
