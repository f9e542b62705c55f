/- Words for memory that the walks of this seat use: what a slice value reads as. Plain lemmas; no program in sight. -/
import Derived.WalkKit
import Derived.Deep.Draws
import Derived.Deep.OwnRows
import Derived.Lib.Strings
set_option linter.unusedVariables false
set_option linter.unusedSimpArgs false
namespace Go.Pw
open Go.RowKit

theorem hide {p : Prop} (h : p) : Hid p := h
theorem ret_bool {a b : Bool} (h : a = b) : Ending.returned (.bool a) = .returned (.bool b) := by rw [h]
theorem ret_int {k : IntKind} {a b : Int} (h : a = b) : Ending.returned (.int k a) = .returned (.int k b) := by rw [h]

theorem below_drewN {B : Nat} {a w : World} (h : Below B a w) (n : Nat) : Below B a (w.drewN n) := ⟨h.os, h.tape, h.output, h.size, h.block⟩
theorem bytes_eq {x y : ByteArray} (h : (x.toList == y.toList) = true) : x = y := by
  have h1 : x.data.toList = y.data.toList := by rw [← Lib.toList_data, ← Lib.toList_data]; exact eq_of_beq h
  obtain ⟨⟨l⟩⟩ := x
  obtain ⟨⟨m⟩⟩ := y
  simp at h1
  subst h1
  rfl
theorem bytes_ne {x y : ByteArray} (h : (x.toList == y.toList) = false) : ¬ x = y := by
  intro e; subst e; simp at h

/-- The slice value v of n elements of 'size' cells reads the cells xs. -/
def Rd (w : World) (size : Nat) (v : Value) (n : Nat) (xs : List Value) : Prop :=
  xs.length = n * size ∧ ∃ A cap, v = .slice A n cap ∧ n ≤ cap ∧ cap ≤ maxLen ∧
    (0 < n → ∃ b o, A = some ⟨b, o, none⟩ ∧ b < w.heap.size ∧ ∀ j u, xs[j]? = some u → w.cell? ⟨b, o + j, none⟩ = some u)

section
variable {w w' : World} {size n : Nat} {v : Value} {xs : List Value}
theorem Rd.keep (h : Rd w size v n xs) (hz : w.heap.size ≤ w'.heap.size) (hk : ∀ p : Addr, p.block < w.heap.size → w'.cell? p = w.cell? p) : Rd w' size v n xs := by
  obtain ⟨h1, A, cap, rfl, hc, hm, hx⟩ := h
  refine ⟨h1, A, cap, rfl, hc, hm, fun hn => ?_⟩
  obtain ⟨b, o, rfl, hb, hj⟩ := hx hn
  exact ⟨b, o, rfl, by omega, fun j u hu => (hk ⟨b, o + j, none⟩ hb).trans (hj j u hu)⟩
theorem Rd.below (h : Rd w size v n xs) (hb : Below w.heap.size w w') : Rd w' size v n xs := h.keep hb.size fun _ hp => hb.cell hp
theorem Rd.nil (w : World) (size : Nat) : Rd w size (.slice none 0 0) 0 [] := ⟨by simp, none, 0, rfl, Nat.le_refl _, Nat.zero_le _, fun h => absurd h (by omega)⟩
end

/-- A slice of strings that reads as the list l. -/
def Strs (w : World) (v : Value) (l : List ByteArray) : Prop := Rd w 1 v l.length (l.map Value.string) ∧ ∀ s ∈ l, s.size ≤ maxLen
theorem Strs.below {w w' : World} {v : Value} {l : List ByteArray} (h : Strs w v l) (hb : Below w.heap.size w w') : Strs w' v l := ⟨h.1.below hb, h.2⟩
theorem Strs.drewN {w : World} {v : Value} {l : List ByteArray} (h : Strs w v l) (n : Nat) : Strs (w.drewN n) v l := h
theorem sliced_rd {w : World} {size n cap lo hi : Nat} {A : Option Addr} {xs : List Value} (h : Rd w size (.slice A n cap) n xs) (h1 : lo ≤ hi) (h2 : hi ≤ n) :
    Rd w size (sliced A lo hi cap size) (hi - lo) ((xs.drop (lo * size)).take ((hi - lo) * size)) := by
  obtain ⟨hl, A', cap', hv, hc, hm, hx⟩ := h
  injection hv with e1 e2 e3
  subst e1 e3
  refine ⟨?_, _, _, rfl, by omega, by omega, fun hn => ?_⟩
  · rw [List.length_take, List.length_drop, hl, ← Nat.sub_mul]
    exact Nat.min_eq_left (Nat.mul_le_mul_right _ (by omega))
  · obtain ⟨b, o, rfl, hb, hj⟩ := hx (by omega)
    rw [if_neg (by omega)]
    refine ⟨b, o + lo * size, ?_, hb, fun j u hu => ?_⟩
    · simp only [Option.map_some, Addr.add]
      split
      · rename_i h0; rw [h0]; rfl
      · rfl
    · have := hj (lo * size + j) u (by
        rw [List.getElem?_take] at hu
        split at hu
        · rwa [List.getElem?_drop] at hu
        · cases hu)
      rw [← Nat.add_assoc] at this
      exact this
theorem Strs.sliced {w : World} {cap lo hi : Nat} {A : Option Addr} {l : List ByteArray} (h : Strs w (.slice A l.length cap) l) (h1 : lo ≤ hi) (h2 : hi ≤ l.length) :
    Strs w (Go.sliced A lo hi cap 1) ((l.drop lo).take (hi - lo)) := by
  have := sliced_rd h.1 h1 h2
  refine ⟨?_, fun s hs => h.2 s (List.mem_of_mem_drop (List.mem_of_mem_take hs))⟩
  simp only [Nat.mul_one] at this
  rw [← List.map_drop, ← List.map_take] at this
  have e : ((l.drop lo).take (hi - lo)).length = hi - lo := by simp; omega
  rw [e]
  exact this
theorem Strs.from_ {w : World} {cap lo : Nat} {A : Option Addr} {l : List ByteArray} (h : Strs w (.slice A l.length cap) l) (h1 : lo ≤ l.length) :
    Strs w (Go.sliced A lo l.length cap 1) (l.drop lo) := by
  have := h.sliced h1 (Nat.le_refl _)
  rwa [List.take_of_length_le (by simp)] at this
/-- A slice of slices of strings. -/
def StrsL (w : World) (v : Value) (ls : List (List ByteArray)) : Prop := ∃ vs : List Value, vs.length = ls.length ∧ Rd w 1 v ls.length vs ∧ ∀ (i : Nat) u l, vs[i]? = some u → ls[i]? = some l → Strs w u l
theorem StrsL.below {w w' : World} {v : Value} {l : List (List ByteArray)} (h : StrsL w v l) (hb : Below w.heap.size w w') : StrsL w' v l := by
  obtain ⟨vs, h1, h2, h3⟩ := h
  exact ⟨vs, h1, h2.below hb, fun i u l hu hl => (h3 i u l hu hl).below hb⟩

theorem take_snoc (s : ByteArray) (k : Nat) (h : k < s.size) : s.data.toList.take (k + 1) = s.data.toList.take k ++ [s[k]] := by
  rw [List.take_succ_eq_append_getElem (by simpa using h)]; rfl
theorem drop_byte (s : ByteArray) (k : Nat) (h : k < s.size) : s.data.toList.drop k = s[k] :: s.data.toList.drop (k + 1) := by
  rw [List.drop_eq_getElem_cons (by simpa using h)]; rfl

/-- A table of n rows of m integers that the call made: the rows' values in block N, row i in block N + 1 + i; so far k rows are made. -/
def GridTo (w : World) (tS tI N n m k : Nat) : Prop :=
  w.heap.size = N + 1 + k ∧ w.rowIs N tS n (fun i => if i < k then .slice (some ⟨N + 1 + i, 0, none⟩) m m else .slice none 0 0) ∧ ∀ i, i < k → w.rowIs (N + 1 + i) tI m (fun _ => .int .i64 0)
def Grid (w : World) (tS tI N n m : Nat) (T : Nat → Nat → Int) : Prop :=
  w.rowIs N tS n (fun i => .slice (some ⟨N + 1 + i, 0, none⟩) m m) ∧ ∀ i, i < n → w.rowIs (N + 1 + i) tI m (fun j => .int .i64 (T i j))
theorem GridTo.start (w : World) (tS tI n m : Nat) : GridTo (w.alloc (.cells (madeCells #[.slice none 0 0] n) tS)) tS tI w.heap.size n m 0 := by
  refine ⟨by simp, ?_, fun i hi => absurd hi (by omega)⟩
  exact (World.rowIs_made w (.slice none 0 0) n tS).congr (fun i hi => by simp)
theorem GridTo.step {w : World} {tS tI N n m k : Nat} (h : GridTo w tS tI N n m k) :
    GridTo ((w.setCell ⟨N, k, none⟩ (.slice (some ⟨w.heap.size, 0, none⟩) m m)).alloc (.cells (madeCells #[.int .i64 0] m) tI)) tS tI N n m (k + 1) := by
  obtain ⟨h1, h2, h3⟩ := h
  refine ⟨by simp [World.setCell, h1]; omega, ?_, fun i hi => ?_⟩
  · refine ((h2.set k (.slice (some ⟨w.heap.size, 0, none⟩) m m)).alloc _).congr fun i hi => ?_
    by_cases e : i = k
    · subst e; simp [h1]
    · simp only [e, if_false]
      by_cases e2 : i < k
      · rw [if_pos e2, if_pos (by omega)]
      · rw [if_neg e2, if_neg (by omega)]
  · by_cases e : i = k
    · subst e
      have := World.rowIs_made (w.setCell ⟨N, i, none⟩ (.slice (some ⟨w.heap.size, 0, none⟩) m m)) (.int .i64 0) m tI
      have e3 : (w.setCell ⟨N, i, none⟩ (.slice (some ⟨w.heap.size, 0, none⟩) m m)).heap.size = N + 1 + i := by simp [World.setCell, h1]
      rw [e3] at this
      exact this
    · exact ((h3 i (by omega)).setOther (by simp; omega) _).alloc _
theorem GridTo.lt {w : World} {tS tI N n m k : Nat} (h : GridTo w tS tI N n m k) : N < w.heap.size := h.2.1.lt
theorem GridTo.cell {w : World} {tS tI N n m k : Nat} (h : GridTo w tS tI N n m k) (hk : k < n) : w.cell? ⟨N, k, none⟩ = some (.slice none 0 0) := by
  have := h.2.1.cell hk
  simpa using this
theorem GridTo.frozen {w : World} {tS tI N n m k : Nat} (h : GridTo w tS tI N n m k) : w.frozen? ⟨N, k, none⟩ = false := h.2.1.frozen k
theorem GridTo.done {w : World} {tS tI N n m : Nat} (h : GridTo w tS tI N n m n) : Grid w tS tI N n m (fun _ _ => 0) :=
  ⟨h.2.1.congr fun i hi => by rw [if_pos hi], h.2.2⟩

section
variable {w : World} {tS tI N n m i j : Nat} {T U : Nat → Nat → Int}
theorem Grid.row (h : Grid w tS tI N n m T) (hi : i < n) : w.cell? ⟨N, i, none⟩ = some (.slice (some ⟨N + 1 + i, 0, none⟩) m m) := h.1.cell hi
theorem Grid.cell (h : Grid w tS tI N n m T) (hi : i < n) (hj : j < m) : w.cell? ⟨N + 1 + i, j, none⟩ = some (.int .i64 (T i j)) := (h.2 i hi).cell hj
theorem Grid.frozen (h : Grid w tS tI N n m T) (hi : i < n) : w.frozen? ⟨N + 1 + i, j, none⟩ = false := (h.2 i hi).frozen j
theorem Grid.lt (h : Grid w tS tI N n m T) (hi : i < n) : N + 1 + i < w.heap.size := (h.2 i hi).lt
theorem Grid.drew (h : Grid w tS tI N n m T) : Grid w.drew tS tI N n m T := h
theorem Grid.drewN (h : Grid w tS tI N n m T) (k : Nat) : Grid (w.drewN k) tS tI N n m T := h
theorem Grid.congr (h : Grid w tS tI N n m T) (e : ∀ i j, i < n → j < m → T i j = U i j) : Grid w tS tI N n m U :=
  ⟨h.1, fun i hi => (h.2 i hi).congr fun j hj => by rw [e i j hi hj]⟩
theorem Grid.set (h : Grid w tS tI N n m T) (i j : Nat) (x : Int) : Grid (w.setCell ⟨N + 1 + i, j, none⟩ (.int .i64 x)) tS tI N n m (fun r c => if r = i ∧ c = j then x else T r c) := by
  refine ⟨h.1.setOther (by simp; omega) _, fun r hr => ?_⟩
  by_cases e : r = i
  · subst e
    refine ((h.2 r hr).set j (.int .i64 x)).congr fun c hc => ?_
    by_cases e2 : c = j <;> simp [e2]
  · exact ((h.2 r hr).setOther (by simp; omega) _).congr fun c hc => by dsimp only; rw [if_neg (fun h => e h.1)]
theorem Grid.below {w' : World} {B : Nat} (h : Grid w tS tI N n m T) (hb : Below B w w') (hB : N + 1 + n ≤ B) : Grid w' tS tI N n m T :=
  ⟨h.1.of_block (hb.block _ (by omega)), fun i hi => (h.2 i hi).of_block (hb.block _ (by omega))⟩
end

/-- the first number that is not 0 -/
def firstNZ : List Int → Int
  | [] => 0
  | x :: xs => if x = 0 then firstNZ xs else x
section
variable {α : Type} {f : α → Int} {l : List α} {k : Nat}
theorem fnz_step (f : α → Int) (hk : k < l.length) : firstNZ ((l.drop k).map f) = if f l[k] = 0 then firstNZ ((l.drop (k + 1)).map f) else f l[k] := by
  rw [List.drop_eq_getElem_cons hk]; rfl
theorem fnz_hit {r : Int} (h : Hid (r = firstNZ ((l.drop k).map f))) (hk : k < l.length) {e : Int} (he : f l[k] = e) (hne : e ≠ 0) : e = r := by
  rw [h.out, fnz_step f hk, he, if_neg hne]
theorem fnz_miss {r : Int} (h : Hid (r = firstNZ ((l.drop k).map f))) (hk : k < l.length) (he : f l[k] = 0) : Hid (r = firstNZ ((l.drop (k + 1)).map f)) := by
  have := h.out
  rw [fnz_step f hk, he, if_pos rfl] at this
  exact this
theorem fnz_end {r : Int} (h : Hid (r = firstNZ ((l.drop k).map f))) (hk : ¬ k < l.length) : 0 = r := by
  rw [h.out, List.drop_of_length_le (by omega)]; rfl
end

/-- the cells of pairs of integers -/
def pairCells : List (Nat × Nat) → List Value
  | [] => []
  | p :: ps => .int .i64 (p.1 : Int) :: .int .i64 (p.2 : Int) :: pairCells ps
theorem two_new (w : World) (x y : Value) (t : TypeId) : ∀ (j : Nat) (u : Value), [x, y][j]? = some u → (w.alloc (.cells #[x, y] t)).cell? (Addr.add ⟨w.heap.size, 0, none⟩ j) = some u
  | 0, u, h => by simp at h; subst h; simp [Addr.add, World.cell?_alloc_new]
  | 1, u, h => by simp at h; subst h; simp [Addr.add, World.cell?_alloc_new]
  | j + 2, u, h => by simp at h
theorem pairCells_snoc (l : List (Nat × Nat)) (a b : Nat) : pairCells (l ++ [(a, b)]) = pairCells l ++ [.int .i64 (a : Int), .int .i64 (b : Int)] := by
  induction l with
  | nil => rfl
  | cons x l ih => simp [pairCells, ih]
theorem own_ge {w : World} {base : Nat} {e : TypeId} {size : Nat} {v : Value} {n : Nat} {xs : List Value} (h : w.ownsRow base e size v n xs) : ∀ k, v.ownBlock = some k → base ≤ k := by
  intro k hk
  rcases h.2 with ⟨rfl, _⟩ | ⟨g, cap, cur, rfl, hg, _⟩
  · simp [Value.ownBlock] at hk
  · simp [Value.ownBlock] at hk; omega
theorem own_mono {w : World} {base base' : Nat} {e : TypeId} {size : Nat} {v : Value} {n : Nat} {xs : List Value} (h : w.ownsRow base e size v n xs) (hb : base' ≤ base) : w.ownsRow base' e size v n xs := by
  refine ⟨h.1, ?_⟩
  rcases h.2 with h2 | ⟨g, cap, cur, hv, hg, r⟩
  · exact .inl h2
  · exact .inr ⟨g, cap, cur, hv, by omega, r⟩
/-- behind a new block and an append to an own row: what lay below the row's base is as it was -/
theorem below_append {w w' : World} {base : Nat} {e : TypeId} {size : Nat} {v : Value} {n : Nat} {xs : List Value} {o : Obj} (h : w.ownsRow base e size v n xs) (hb : base ≤ w.heap.size) (hg : (w.alloc o).grownBy w' v.ownBlock) : Below base w w' :=
  ((Below.refl base w).alloc hb o).grown hg (by simp; omega) (own_ge h)
end Go.Pw
