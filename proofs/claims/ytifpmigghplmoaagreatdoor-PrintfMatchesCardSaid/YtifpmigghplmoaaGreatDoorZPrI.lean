/- Plain: the lines of a text, as strings.Split cuts them and as the reference reads them. -/
import Derived.Lib.SplitLaws
import Derived.Lib.IndexBytes
import Derived.Test.YtifpmigghplmoaaGreatDoorProg
import Derived.Test.YtifpmigghplmoaaGreatDoorZPrA
import Derived.Lib.Strings
import Derived.Lib.Slices
import Derived.Lib.Walk
import Derived.Lib.Builder
import Derived.Lib.AppendStr
import Derived.Lib.UnsafeStr
import Derived.Lib.MakeNoZero
import Derived.WalkKit
import Derived.WalkLawsBesides
import Derived.WalkSpells
import Derived.LoopTactic
import Derived.Outline
import Derived.RegionTactic
import Derived.Laws.Externs
import Derived.Test.YtifpmigghplmoaaGreatDoorZCmp
import Derived.Lib.ItoaLen
import Derived.Lib.ItoaMem
/- LinesT -/
set_option linter.unusedVariables false
namespace Go.Pw

/-- the lines, what has been read of the line at hand given -/
def lnF : List UInt8 → List UInt8 → List (List UInt8)
  | cur, [] => if cur = [] then [] else [cur]
  | cur, c :: l => if c = 10 then cur :: lnF [] l else lnF (cur ++ [c]) l
/-- the pieces between line feeds -/
def spl : List UInt8 → List UInt8 → List (List UInt8)
  | cur, [] => [cur]
  | cur, c :: l => if c = 10 then cur :: spl [] l else spl (cur ++ [c]) l
theorem lnF_nl : ∀ (l cur : List UInt8), lnF cur (l ++ [10]) = spl cur l
  | [], cur => by simp [lnF, spl]
  | c :: l, cur => by
    rw [List.cons_append, lnF, spl]
    split
    · rw [lnF_nl l []]
    · rw [lnF_nl l]
theorem lnF_plain : ∀ (l cur : List UInt8) (h : l ≠ []), l.getLast h ≠ 10 → lnF cur l = spl cur l
  | [], _, h, _ => absurd rfl h
  | [c], cur, _, h10 => by
    have h : ¬ c = 10 := by simpa using h10
    simp [lnF, spl, h]
  | c :: d :: l, cur, _, h10 => by
    have hl : (d :: l).getLast (by simp) ≠ 10 := by simpa using h10
    rw [lnF, spl]
    split
    · rw [lnF_plain (d :: l) [] (by simp) hl]
    · rw [lnF_plain (d :: l) _ (by simp) hl]
theorem spl_cur : ∀ (l cur x : List UInt8), (∀ c ∈ x, c ≠ 10) → spl cur (x ++ l) = spl (cur ++ x) l
  | l, cur, [], _ => by simp
  | l, cur, c :: x, h => by
    have hc : ¬ c = 10 := h c (by simp)
    rw [List.cons_append, spl, if_neg hc, spl_cur l _ x fun d hd => h d (by simp [hd])]
    simp
theorem ix_split : ∀ (l : List UInt8), (Lib.indexByte l 10 = -1 ∧ ∀ c ∈ l, c ≠ 10) ∨ ∃ x y, l = x ++ 10 :: y ∧ Lib.indexByte l 10 = (x.length : Int) ∧ ∀ c ∈ x, c ≠ 10
  | [] => .inl ⟨rfl, by simp⟩
  | b :: l => by
    by_cases hb : b = 10
    · subst hb
      exact .inr ⟨[], l, rfl, by simp [Lib.indexByte], by simp⟩
    · rcases ix_split l with ⟨h1, h2⟩ | ⟨x, y, rfl, h2, h3⟩
      · refine .inl ⟨by simp [Lib.indexByte, hb, h1], ?_⟩
        intro c hc
        rcases List.mem_cons.1 hc with e | e
        · subst e; exact hb
        · exact h2 c e
      · refine .inr ⟨b :: x, y, rfl, ?_, ?_⟩
        · have : ¬ ((x.length : Int) = -1) := by omega
          simp [Lib.indexByte, hb, h2, this]
        · intro c hc
          rcases List.mem_cons.1 hc with e | e
          · subst e; exact hb
          · exact h3 c e
theorem splitK_spl : ∀ (n : Nat) (l : List UInt8), l.length ≤ n → Lib.splitK [10] 0 (Lib.count l [10]) l = spl [] l := by
  intro n
  induction n with
  | zero =>
    intro l hl
    have : l = [] := List.eq_nil_of_length_eq_zero (by omega)
    subst this
    rw [Lib.count_one]; rfl
  | succ n ih =>
    intro l hl
    rw [Lib.count_one]
    rcases ix_split l with ⟨h1, h2⟩ | ⟨x, y, rfl, h2, h3⟩
    · have hc : l.count 10 = 0 := List.count_eq_zero.2 fun h => h2 10 h rfl
      have e := spl_cur [] [] l h2
      rw [hc, Lib.splitK]
      simp [spl] at e
      rw [e]
    · have hx : x.count 10 = 0 := List.count_eq_zero.2 fun h => h3 10 h rfl
      have hc : (x ++ 10 :: y).count 10 = y.count 10 + 1 := by simp [hx]
      have hi : Lib.index (x ++ 10 :: y) [10] = (x.length : Int) := by rw [Lib.index_one]; exact h2
      rw [hc, Lib.splitK, hi]
      rw [if_neg (by simp), spl_cur (10 :: y) [] x h3]
      have hy := ih y (by simp at hl; omega)
      rw [Lib.count_one] at hy
      have e1 : ((x.length : Int)).toNat = x.length := by omega
      rw [e1]
      have e2 : (x ++ 10 :: y).drop (x.length + [(10 : UInt8)].length) = y := by
        rw [show x.length + [(10 : UInt8)].length = x.length + 1 from rfl, ← List.drop_drop, List.drop_left]; rfl
      rw [e2, hy, spl, if_pos rfl]
      simp
end Go.Pw

/- Builder -/
set_option linter.unusedVariables false
set_option linter.unusedSimpArgs false
namespace Go.Proofs.YtifpmigghplmoaaGreatDoor
open Go.RowKit Go.Pw

/-- the builder of this program, in block b, of the blocks from B on -/
def BldAt (B b : Nat) (p : Value) (bs : List Value) (w : World) : Prop := Lib.BuilderAt 77 5 B b p bs w
def Bld (B b : Nat) (l : List UInt8) (w : World) : Prop := Lib.IsBuilder 77 5 B b (Lib.byteCells l) w

/-- what a builder's methods leave: each block of another type is as it was -/
def OffB (w w' : World) : Prop := ∀ (k : Nat) (cs : Array Value) (T : TypeId) (fr : Nat × Nat), w.heap[k]? = some (.cells cs T fr) → T ≠ 5 → T ≠ 77 → w'.heap[k]? = w.heap[k]?
theorem OffB.refl (w : World) : OffB w w := fun _ _ _ _ _ _ _ => rfl
theorem OffB.trans {a b c : World} (h : OffB a b) (g : OffB b c) : OffB a c := fun k cs T fr hk h1 h2 => (g k cs T fr ((h k cs T fr hk h1 h2).trans hk) h1 h2).trans (h k cs T fr hk h1 h2)
theorem OffB.cell {a b : World} (h : OffB a b) {k : Nat} {cs : Array Value} {T : TypeId} {fr : Nat × Nat} (hk : a.heap[k]? = some (.cells cs T fr)) (h1 : T ≠ 5) (h2 : T ≠ 77) (j : Nat) : b.cell? ⟨k, j, none⟩ = a.cell? ⟨k, j, none⟩ := by
  have := h k cs T fr hk h1 h2
  simp [World.cell?, this]
theorem sizeBuilder : (Tryz.prog.info? 77).map (·.size) = some 2 := by kernel_rfl
theorem liesBuilder : liesAt Tryz.prog Tryz.prog.depth 77 (2 / Tryz.prog.cellsOf 77) 0 77 1 = true := by kernel_rfl
theorem infoB : (Tryz.prog.info? 5).map (fun i => (i.zero, i.size, i.bytes)) = some (some (.int .u8 0), 1, 1) := by kernel_rfl
theorem cellsB : Tryz.prog.cellsOf 5 = 1 := by kernel_rfl

set_option maxHeartbeats 1000000 in
set_option maxRecDepth 100000 in
theorem copyCheck_used (b : Nat) (w : World) (h0 : w.cell? ⟨b, 0, none⟩ = some (.pointer (some ⟨b, 0, none⟩))) :
    Calls Tryz.prog 74 #[.pointer (some ⟨b, 0, none⟩)] w fun e w' => e = .returned (.tuple #[]) ∧ w' = w := by
  obtain ⟨j, hj, _⟩ := Option.map_eq_some_iff.1 sizeBuilder
  go_enter Tryz.func74, Tryz.ntmps74
  go_wp2
  rw [Lib.run_neq_ptr_same w _ Tryz.underlying75 hj]
  go_wp2
  go_end0
  exact ⟨rfl, rfl⟩

set_option maxHeartbeats 1000000 in
set_option maxRecDepth 100000 in
theorem copyCheck_fresh (b : Nat) (w : World) (h0 : w.cell? ⟨b, 0, none⟩ = some (.pointer none)) (hsh : w.shape? b = some (77, 2)) (hfz : w.frozen? ⟨b, 0, none⟩ = false) :
    Calls Tryz.prog 74 #[.pointer (some ⟨b, 0, none⟩)] w fun e w' => e = .returned (.tuple #[]) ∧ w' = w.setCell ⟨b, 0, none⟩ (.pointer (some ⟨b, 0, none⟩)) := by
  obtain ⟨j, hj, hjs⟩ := Option.map_eq_some_iff.1 sizeBuilder
  go_enter Tryz.func74, Tryz.ntmps74
  go_wp2
  rw [Lib.run_to_unsafe w ⟨b, 0, none⟩ Tryz.underlying75 Tryz.underlying155 hj (by rw [hjs]; decide) hsh (Nat.zero_lt_succ 1)]
  simp only [Result.andThen]
  rw [Oper.upon_value]
  go_wp2
  rw [run_callFunc_extern Tryz.func114 (by kernel_rfl) (by kernel_rfl) (by kernel_rfl) (e := Extern.AbiNoEscape.same) (by kernel_rfl)]
  rw [Lib.run_noEscape]
  simp only [Result.andThen]
  rw [Oper.upon_value]
  go_wp2
  rw [Lib.run_from_unsafe w ⟨b, 0, none⟩ Tryz.underlying155 Tryz.underlying75 hj hsh liesBuilder]
  simp only [Result.andThen]
  rw [Oper.upon_value]
  go_wp2
  go_end0
  exact ⟨rfl, rfl⟩

theorem OffB.setCell {w : World} {b : Nat} {cs : Array Value} {fr : Nat × Nat} (hk : w.heap[b]? = some (.cells cs 77 fr)) (j : Nat) (u : Value) : OffB w (w.setCell ⟨b, j, none⟩ u) := by
  intro k cs' T fr' h h1 h2
  refine Below.heap_setCell _ _ _ _ ?_
  intro e
  simp only at e
  subst e
  rw [hk] at h
  injection h with h
  injection h with _ h _
  exact h2 h.symm
theorem OffB.grown {w w' : World} {B n : Nat} {v : Value} {xs : List Value} (hown : w.ownsRow B 5 1 v n xs) (hg : w.grownBy w' v.ownBlock) : OffB w w' := by
  intro k cs T fr hk h1 h2
  have hlt : k < w.heap.size := by
    rcases Nat.lt_or_ge k w.heap.size with h' | h'
    · exact h'
    · simp [Array.getElem?_eq_none h'] at hk
  refine hg.block k hlt ?_
  intro e
  exact Lib.ownBlock_ne hown hk h1 e.symm
theorem copyCheck_any (B b : Nat) (bs : List Value) (w : World) (h : Lib.IsBuilder 77 5 B b bs w) :
    Calls Tryz.prog 74 #[.pointer (some ⟨b, 0, none⟩)] w fun e w' => e = .returned (.tuple #[]) ∧ (BldAt B b (.pointer (some ⟨b, 0, none⟩)) bs w' ∧ Below B w w' ∧ OffB w w') := by
  rcases h with h | h
  · refine (copyCheck_fresh b w h.cell0 h.shape h.frozen0).mono ?_
    rintro e w' ⟨rfl, rfl⟩
    obtain ⟨_, v, hk, _⟩ := id h
    exact ⟨rfl, h.used _, (Below.refl B w).setCell (p := ⟨b, 0, none⟩) h.1 _, OffB.setCell hk _ _⟩
  · refine (copyCheck_used b w h.cell0).mono ?_
    rintro e w' ⟨rfl, rfl⟩
    exact ⟨rfl, h, Below.refl B _, OffB.refl _⟩

theorem byteCells_snoc (l : List UInt8) (c : UInt8) : Lib.byteCells (l ++ [c]) = Lib.byteCells l ++ [.int .u8 (c.toNat : Int)] := by simp [Lib.byteCells]
theorem byteCells_str (l : List UInt8) (s : ByteArray) : Lib.byteCells (l ++ s.data.toList) = Lib.byteCells l ++ Lib.strCells s := by simp [Lib.byteCells, Lib.strCells]

set_option maxHeartbeats 2000000 in
set_option maxRecDepth 100000 in
theorem writeByte_any (B b : Nat) (l : List UInt8) (c : UInt8) (x : Int) (w : World) (h : Bld B b l w) (hlen : l.length + 1 ≤ 140737488355328) (hBw : B ≤ w.heap.size) (hx : (c.toNat : Int) = x) :
    Calls Tryz.prog 30 #[.pointer (some ⟨b, 0, none⟩), .int .u8 x] w fun e w' => e = .returned .nilIface ∧ (Bld B b (l ++ [c]) w' ∧ Below B w w') := by
  subst hx
  obtain ⟨i0, hi, hz0, hz1, hz2⟩ := info_parts infoB
  have hll : (Lib.byteCells l).length = l.length := Lib.byteCells_length l
  have HLL := hide hll
  rw [← hll] at hlen
  clear hll
  go_enter Tryz.func30, Tryz.ntmps30
  go_wp2_with (go_at_call 74; refine (copyCheck_any B b _ _ h).mono ?_)
  rintro e w1 ⟨rfl, h1, hb1, hoff1⟩
  obtain ⟨hB, v, hbk, hown, hne⟩ := h1
  have c0 : w1.cell? ⟨b, 0, none⟩ = some (.pointer (some ⟨b, 0, none⟩)) := by rw [Lib.cell_of_heap hbk]; rfl
  have c1 : w1.cell? ⟨b, 1, none⟩ = some v := by rw [Lib.cell_of_heap hbk]; rfl
  go_wp2_with (at_builtin; refine wpList_append_own _ rfl _ _ 41 rfl B 5 i0 (.int .u8 0) 1 1 Tryz.underlying41 hi hz0 hz1 hz2 rfl (by decide) _ _ _ rfl (hown.alloc _) ⟨w1.heap.size, 0, none⟩ 1 1 [.int .u8 (c.toNat : Int)] rfl rfl ?c1 ?c2 ?c3 ?c4 ?c5 ?_)
  case c1 =>
    intro j u hj
    match j, hj with
    | 0, hj => simp at hj; subst hj; simp [Addr.add]
  case c2 => intro u hu; simp at hu; subst hu; rfl
  case c3 => unfold maxLen; omega
  case c4 => omega
  case c5 => have := hb1.size; simp; omega
  intro v' w2 hown' hgrow _
  have hlt : b < w1.heap.size := by
    rcases Nat.lt_or_ge b w1.heap.size with h' | h'
    · exact h'
    · simp [Array.getElem?_eq_none h'] at hbk
  have hb2 : w2.heap[b]? = some (.cells #[.pointer (some ⟨b, 0, none⟩), v] 77 (0, 0)) := by
    rw [hgrow.block b (by simp; omega) (fun e => hne e.symm), Lib.alloc_old w1 _ b hlt]
    exact hbk
  have d0 : w2.cell? ⟨b, 0, none⟩ = some (.pointer (some ⟨b, 0, none⟩)) := by rw [Lib.cell_of_heap hb2]; rfl
  have d1 : w2.cell? ⟨b, 1, none⟩ = some v := by rw [Lib.cell_of_heap hb2]; rfl
  have f1 : w2.frozen? ⟨b, 1, none⟩ = false := Lib.frozen_of_heap hb2 1
  obtain ⟨g, cap, rfl⟩ : ∃ g cap, v' = .slice (some ⟨g, 0, none⟩) ((Lib.byteCells l).length + 1) cap := by
    rcases hown'.2 with ⟨_, h0⟩ | ⟨g, cap, cur, hv, _⟩
    · omega
    · exact ⟨g, cap, hv⟩
  go_wp2
  go_ret
  refine ⟨rfl, ?_, ?_⟩
  · refine Or.inr (Lib.BuilderAt.put (T := 77) (e := 5) hB hb2 (bs' := Lib.byteCells (l ++ [c])) ?_ (by decide))
    rw [byteCells_snoc, List.length_append]
    exact hown'
  · exact ((hb1.alloc (by have := hb1.size; omega) _).grown hgrow (by have := hb1.size; simp; omega) (fun k hk => (hown.lt k hk).1)).setCell (p := ⟨b, 1, none⟩) hB _

set_option maxHeartbeats 2000000 in
set_option maxRecDepth 100000 in
theorem writeString_off (B b : Nat) (l : List UInt8) (s : ByteArray) (w : World) (h : Bld B b l w) (hlen : l.length + s.size ≤ 140737488355328) (hBw : B ≤ w.heap.size) :
    Calls Tryz.prog 31 #[.pointer (some ⟨b, 0, none⟩), .string s] w fun e w' => e = .returned (.tuple #[.int .i64 s.size, .nilIface]) ∧ (Bld B b (l ++ s.data.toList) w' ∧ Below B w w' ∧ OffB w w') := by
  obtain ⟨i0, hi, hz0, hz1, hz2⟩ := info_parts infoB
  have hll : (Lib.byteCells l).length = l.length := Lib.byteCells_length l
  rw [← hll] at hlen
  clear hll
  go_enter Tryz.func31, Tryz.ntmps31
  go_wp2_with (go_at_call 74; refine (copyCheck_any B b _ _ h).mono ?_)
  rintro e w1 ⟨rfl, h1, hb1, hoff1⟩
  obtain ⟨hB, v, hbk, hown, hne⟩ := h1
  have c0 : w1.cell? ⟨b, 0, none⟩ = some (.pointer (some ⟨b, 0, none⟩)) := by rw [Lib.cell_of_heap hbk]; rfl
  have c1 : w1.cell? ⟨b, 1, none⟩ = some v := by rw [Lib.cell_of_heap hbk]; rfl
  go_wp2_with (at_builtin; refine Lib.wpList_append_own_string _ rfl _ _ 41 9 rfl B 5 i0 Tryz.underlying41 Tryz.underlying9 hi hz0 hz1 hz2 _ _ _ rfl hown s rfl ?c3 ?c4 ?c5 ?_)
  case c3 => unfold maxLen; omega
  case c4 => omega
  case c5 => have := hb1.size; omega
  intro v' w2 hown' hgrow _
  have hlt : b < w1.heap.size := by
    rcases Nat.lt_or_ge b w1.heap.size with h' | h'
    · exact h'
    · simp [Array.getElem?_eq_none h'] at hbk
  have hb2 : w2.heap[b]? = some (.cells #[.pointer (some ⟨b, 0, none⟩), v] 77 (0, 0)) := by
    rw [hgrow.block b hlt (fun e => hne e.symm)]
    exact hbk
  have d0 : w2.cell? ⟨b, 0, none⟩ = some (.pointer (some ⟨b, 0, none⟩)) := by rw [Lib.cell_of_heap hb2]; rfl
  have d1 : w2.cell? ⟨b, 1, none⟩ = some v := by rw [Lib.cell_of_heap hb2]; rfl
  have f1 : w2.frozen? ⟨b, 1, none⟩ = false := Lib.frozen_of_heap hb2 1
  obtain ⟨ao, n', cap, rfl⟩ : ∃ ao n' cap, v' = .slice ao n' cap := by
    rcases hown'.2 with ⟨hv, _⟩ | ⟨g, cap, cur, hv, _⟩
    · exact ⟨_, _, _, hv⟩
    · exact ⟨_, _, _, hv⟩
  go_wp2
  go_ret2
  refine ⟨rfl, ?_, ?_, ?_⟩
  · refine Or.inr (Lib.BuilderAt.put (T := 77) (e := 5) hB hb2 (bs' := Lib.byteCells (l ++ s.data.toList)) ?_ (by decide))
    rw [byteCells_str, List.length_append, Lib.strCells_length]
    exact hown'
  · exact (hb1.grown hgrow (by have := hb1.size; omega) (fun k hk => (hown.lt k hk).1)).setCell (p := ⟨b, 1, none⟩) hB _
  · exact (hoff1.trans (OffB.grown hown hgrow)).trans (OffB.setCell hb2 _ _)
theorem writeString_any (B b : Nat) (l : List UInt8) (s : ByteArray) (w : World) (h : Bld B b l w) (hlen : l.length + s.size ≤ 140737488355328) (hBw : B ≤ w.heap.size) :
    Calls Tryz.prog 31 #[.pointer (some ⟨b, 0, none⟩), .string s] w fun e w' => e = .returned (.tuple #[.int .i64 s.size, .nilIface]) ∧ (Bld B b (l ++ s.data.toList) w' ∧ Below B w w') :=
  (writeString_off B b l s w h hlen hBw).mono fun _ _ ⟨h1, h2, h3, _⟩ => ⟨h1, h2, h3⟩

set_option maxHeartbeats 1000000 in
set_option maxRecDepth 100000 in
theorem bldString_some (B b : Nat) (l : List UInt8) (w : World) (h : Bld B b l w) (h0 : l ≠ []) :
    Calls Tryz.prog 33 #[.pointer (some ⟨b, 0, none⟩)] w fun e w' => e = .returned (.string ⟨l.toArray⟩) ∧ Below B w w' := by
  obtain ⟨p, hB, v, hbk, hown, hne⟩ : ∃ p, Lib.BuilderAt 77 5 B b p (Lib.byteCells l) w := by
    rcases h with h | h
    · exact ⟨_, h⟩
    · exact ⟨_, h⟩
  have hl0 : l.length ≠ 0 := by simpa using h0
  rw [Lib.byteCells_length] at hown
  obtain ⟨g, cap, cur, rfl, hbg, hg, hnc, hcm, hcs, htake⟩ : ∃ g cap cur, v = .slice (some ⟨g, 0, none⟩) l.length cap ∧ B ≤ g ∧ w.heap[g]? = some (.cells cur 5 (0, 0)) ∧ l.length ≤ cap ∧ cap ≤ maxLen ∧ cur.size = cap * 1 ∧ cur.toList.take (l.length * 1) = Lib.byteCells l := by
    rcases hown.2 with ⟨_, hz⟩ | ⟨g, cap, cur, hv, r⟩
    · exact absurd hz hl0
    · exact ⟨g, cap, cur, hv, r⟩
  have c1 : w.drew.cell? ⟨b, 1, none⟩ = some (.slice (some ⟨g, 0, none⟩) l.length cap) := by
    have : w.drew.heap[b]? = some (.cells #[p, .slice (some ⟨g, 0, none⟩) l.length cap] 77 (0, 0)) := hbk
    rw [Lib.cell_of_heap this]; rfl
  have hSD : (Builtin.unsafeSliceData_ #[41] 133 #[.slice (some ⟨g, 0, none⟩) l.length cap]).run Tryz.prog w.drew = .ok (.pointer (some ⟨g, 0, none⟩)) w.drew :=
    Lib.run_unsafeSliceData_row _ _ _ _ _ _ (by omega)
  have hUS : (Builtin.unsafeString_ #[133, 3] 9 #[.pointer (some ⟨g, 0, none⟩), .int .i64 l.length]).run Tryz.prog w.drew = .ok (.string ⟨l.toArray⟩) (w.drew.freeze ⟨g, 0, none⟩ l.length) := by
    refine Lib.run_unsafeString_row w.drew 133 3 9 5 Tryz.underlying133 cellsB g cur.size (by have hg' : w.drew.heap[g]? = some (.cells cur 5 (0, 0)) := hg; simp [World.shape?, hg']) l h0 (by omega) (by unfold maxLen at hcm; omega) ?_
    intro j x hx
    have := hown.cells (g := g) rfl j (.int .u8 x.toNat) (by simp [Lib.byteCells, hx])
    exact this
  clear htake hg hown
  go_enter Tryz.func33, Tryz.ntmps33
  go_wp2
  go_region
  all_goals (go_wp2; go_ret; exact ⟨rfl, Lib.below_freeze (Below.drew (Below.refl B w)) (p := ⟨g, 0, none⟩) hbg _⟩)

theorem unsafeString_none (W : World) (q : Option Addr) : (Builtin.unsafeString_ #[133, 3] 9 #[.pointer q, .int .i64 0]).run Tryz.prog W = .ok (.string .empty) W :=
  Lib.run_unsafeString_none W _ _ _ q

set_option maxHeartbeats 2000000 in
set_option maxRecDepth 100000 in
/-- at a builder that was never written -/
theorem bldString_nil (B b : Nat) (p : Value) (w : World) (hbk : w.heap[b]? = some (.cells #[p, .slice none 0 0] 77 (0, 0))) :
    Calls Tryz.prog 33 #[.pointer (some ⟨b, 0, none⟩)] w fun e w' => e = .returned (.string ⟨#[]⟩) ∧ Below B w w' := by
  have hUS := unsafeString_none
  have c1 : w.drew.cell? ⟨b, 1, none⟩ = some (.slice none 0 0) := by
    have : w.drew.heap[b]? = some (.cells #[p, .slice none 0 0] 77 (0, 0)) := hbk
    rw [Lib.cell_of_heap this]; rfl
  have hSD : (Builtin.unsafeSliceData_ #[41] 133 #[.slice none 0 0]).run Tryz.prog w.drew = .ok (.pointer none) w.drew := rfl
  go_enter Tryz.func33, Tryz.ntmps33
  go_wp2
  go_region
  all_goals (go_wp2; go_ret; exact ⟨rfl, Below.drew (Below.refl B w)⟩)
set_option maxHeartbeats 2000000 in
set_option maxRecDepth 100000 in
theorem bldString_noroom (B b g : Nat) (p : Value) (cur : Array Value) (w : World) (hBw : B ≤ w.heap.size) (hbk : w.heap[b]? = some (.cells #[p, .slice (some ⟨g, 0, none⟩) 0 0] 77 (0, 0))) (hg : w.heap[g]? = some (.cells cur 5 (0, 0))) :
    Calls Tryz.prog 33 #[.pointer (some ⟨b, 0, none⟩)] w fun e w' => e = .returned (.string ⟨#[]⟩) ∧ Below B w w' := by
  have hUS := unsafeString_none
  have hlt : b < w.heap.size := by
    rcases Nat.lt_or_ge b w.heap.size with h' | h'
    · exact h'
    · simp [Array.getElem?_eq_none h'] at hbk
  have c1 : w.drew.cell? ⟨b, 1, none⟩ = some (.slice (some ⟨g, 0, none⟩) 0 0) := by
    have : w.drew.heap[b]? = some (.cells #[p, .slice (some ⟨g, 0, none⟩) 0 0] 77 (0, 0)) := hbk
    rw [Lib.cell_of_heap this]; rfl
  have hSD : (Builtin.unsafeSliceData_ #[41] 133 #[.slice (some ⟨g, 0, none⟩) 0 0]).run Tryz.prog w.drew = .ok (.pointer (some ⟨w.drew.heap.size, 0, none⟩)) (w.drew.alloc (.view ⟨g, 0, none⟩ 5)) :=
    Lib.run_unsafeSliceData_zero w.drew _ _ 5 Tryz.underlying133 ⟨g, 0, none⟩ 0 (5, cur.size) (by have hg' : w.drew.heap[g]? = some (.cells cur 5 (0, 0)) := hg; simp [World.shape?, hg'])
  have c2 : (w.drew.alloc (.view ⟨g, 0, none⟩ 5)).cell? ⟨b, 1, none⟩ = some (.slice (some ⟨g, 0, none⟩) 0 0) := by
    have : (w.drew.alloc (.view ⟨g, 0, none⟩ 5)).heap[b]? = _ := (Lib.alloc_old w.drew _ b hlt).trans hbk
    rw [Lib.cell_of_heap this]; rfl
  have c3 : (w.alloc (.view ⟨g, 0, none⟩ 5)).drew.cell? ⟨b, 1, none⟩ = some (.slice (some ⟨g, 0, none⟩) 0 0) := c2
  have c0 : w.cell? ⟨b, 1, none⟩ = some (.slice (some ⟨g, 0, none⟩) 0 0) := c1
  go_enter Tryz.func33, Tryz.ntmps33
  go_wp2
  go_region
  all_goals (go_wp2; go_ret; exact ⟨rfl, (Below.drew (Below.refl B w)).alloc hBw _⟩)
set_option maxHeartbeats 2000000 in
set_option maxRecDepth 100000 in
theorem bldString_room (B b g cap : Nat) (p : Value) (w : World) (hc0 : cap ≠ 0) (hbk : w.heap[b]? = some (.cells #[p, .slice (some ⟨g, 0, none⟩) 0 cap] 77 (0, 0))) :
    Calls Tryz.prog 33 #[.pointer (some ⟨b, 0, none⟩)] w fun e w' => e = .returned (.string ⟨#[]⟩) ∧ Below B w w' := by
  have hUS := unsafeString_none
  have c1 : w.drew.cell? ⟨b, 1, none⟩ = some (.slice (some ⟨g, 0, none⟩) 0 cap) := by
    have : w.drew.heap[b]? = some (.cells #[p, .slice (some ⟨g, 0, none⟩) 0 cap] 77 (0, 0)) := hbk
    rw [Lib.cell_of_heap this]; rfl
  have hSD : (Builtin.unsafeSliceData_ #[41] 133 #[.slice (some ⟨g, 0, none⟩) 0 cap]).run Tryz.prog w.drew = .ok (.pointer (some ⟨g, 0, none⟩)) w.drew :=
    Lib.run_unsafeSliceData_row _ _ _ _ _ _ hc0
  clear hc0
  go_enter Tryz.func33, Tryz.ntmps33
  go_wp2
  go_region
  all_goals (go_wp2; go_ret; exact ⟨rfl, Below.drew (Below.refl B w)⟩)

theorem bldString_any (B b : Nat) (l : List UInt8) (w : World) (h : Bld B b l w) (hBw : B ≤ w.heap.size) :
    Calls Tryz.prog 33 #[.pointer (some ⟨b, 0, none⟩)] w fun e w' => e = .returned (.string ⟨l.toArray⟩) ∧ Below B w w' := by
  by_cases h0 : l = []
  · subst h0
    obtain ⟨p, hB, v, hbk, hown, hne⟩ : ∃ p, Lib.BuilderAt 77 5 B b p (Lib.byteCells []) w := by
      rcases h with h | h
      · exact ⟨_, h⟩
      · exact ⟨_, h⟩
    rcases hown.2 with ⟨rfl, _⟩ | ⟨g, cap, cur, rfl, hg, hh, hn, hm, hs, hx⟩
    · exact bldString_nil B b p w hbk
    · by_cases hc : cap = 0
      · subst hc
        exact bldString_noroom B b g p cur w hBw hbk hh
      · exact bldString_room B b g cap p w hc hbk
  · exact bldString_some B b l w h h0
end Go.Proofs.YtifpmigghplmoaaGreatDoor

/- TextW -/
set_option linter.unusedVariables false
set_option linter.unusedSimpArgs false
namespace Go.Pw
open Go.RowKit
def mkB (l : List UInt8) : ByteArray := ⟨l.toArray⟩
theorem mkB_list (s : ByteArray) : mkB s.data.toList = s := by obtain ⟨⟨l⟩⟩ := s; rfl
theorem mkB_size (l : List UInt8) : (mkB l).size = l.length := by simp [mkB, ByteArray.size]
/-- the lines of a text -/
def linesOf (s : ByteArray) : List ByteArray := (lnF [] s.data.toList).map mkB
theorem spl_len : ∀ (l cur : List UInt8), (spl cur l).length = l.count 10 + 1
  | [], cur => by simp [spl]
  | c :: l, cur => by
    rw [spl]
    by_cases h : c = 10
    · subst h; simp [spl_len l []]
    · rw [if_neg h, spl_len l, List.count_cons_of_ne h]
theorem lnF_cut {l : List UInt8} (h : l ≠ []) : lnF [] l = spl [] (Lib.trimSuffix l [10]) := by
  unfold Lib.trimSuffix Lib.hasSuffix
  by_cases hl : l.getLast h = 10
  · have e := List.dropLast_concat_getLast h
    rw [hl] at e
    have hs : ([10] : List UInt8).isSuffixOf l = true := by
      rw [← e, List.isSuffixOf_iff_suffix]; exact List.suffix_append _ _
    rw [if_pos hs]
    conv => lhs; rw [← e]
    rw [lnF_nl]
    congr 1
    rw [List.dropLast_eq_take]; rfl
  · have hs : ¬ ([10] : List UInt8).isSuffixOf l = true := by
      rw [List.isSuffixOf_iff_suffix]
      rintro ⟨t, rfl⟩
      simp at hl
    rw [if_neg hs]
    exact lnF_plain l [] h hl
theorem splitB_spl (s : ByteArray) : Lib.splitB ⟨#[10]⟩ 0 (Lib.countB s ⟨#[10]⟩) s = (spl [] s.data.toList).map mkB := by
  have h := Lib.splitB_data ⟨#[10]⟩ 0 (Lib.countB s ⟨#[10]⟩) s
  have e : Lib.splitK [10] 0 (Lib.count s.data.toList [10]) s.data.toList = spl [] s.data.toList := splitK_spl _ _ (Nat.le_refl _)
  rw [← e]
  show _ = (Lib.splitK (⟨#[10]⟩ : ByteArray).data.toList 0 (Lib.countB s ⟨#[10]⟩) s.data.toList).map mkB
  rw [← h, List.map_map]
  conv => lhs; rw [← List.map_id (Lib.splitB ⟨#[10]⟩ 0 (Lib.countB s ⟨#[10]⟩) s)]
  exact List.map_congr_left fun x _ => (mkB_list x).symm
/-- what 'lines' hands back -/
def LinesRes (t : TypeId) (w : World) (l : List ByteArray) (v : Value) (w' : World) : Prop :=
  (l = [] ∧ v = .slice none 0 0 ∧ w' = w) ∨ (0 < l.length ∧ v = .slice (some ⟨w.heap.size, 0, none⟩) l.length l.length ∧ w' = w.alloc (.cells (l.map Value.string).toArray t))
theorem linesRes_below {t : TypeId} {w w' : World} {l : List ByteArray} {v : Value} (h : LinesRes t w l v w') : Below w.heap.size w w' := by
  rcases h with ⟨_, _, rfl⟩ | ⟨_, _, rfl⟩
  · exact Below.refl _ _
  · exact (Below.refl _ _).alloc (Nat.le_refl _) _
theorem linesRes_strs {t : TypeId} {w w' : World} {l : List ByteArray} {v : Value} (h : LinesRes t w l v w') (hs : ∀ s ∈ l, s.size ≤ maxLen) (hl : l.length ≤ maxLen) : Strs w' v l := by
  rcases h with ⟨rfl, rfl, rfl⟩ | ⟨h0, rfl, rfl⟩
  · exact ⟨Rd.nil _ _, by simp⟩
  · refine ⟨⟨by simp, _, _, rfl, Nat.le_refl _, hl, fun _ => ⟨w.heap.size, 0, rfl, by simp, fun j u hu => ?_⟩⟩, hs⟩
    rw [World.cell?_alloc_new]
    simpa using hu
theorem linesRes_len {t : TypeId} {w w' : World} {l : List ByteArray} {v : Value} (h : LinesRes t w l v w') : ∃ A, v = .slice A l.length l.length := by
  rcases h with ⟨rfl, rfl, rfl⟩ | ⟨h0, rfl, rfl⟩
  · exact ⟨_, rfl⟩
  · exact ⟨_, rfl⟩
theorem linesRes_row {t : TypeId} {w w' : World} {l : List ByteArray} {v : Value} (h : LinesRes t w l v w') (h0 : 0 < l.length) : v = .slice (some ⟨w.heap.size, 0, none⟩) l.length l.length ∧ RowS w' w.heap.size 0 l := by
  rcases h with ⟨rfl, rfl, rfl⟩ | ⟨h0, rfl, rfl⟩
  · simp at h0
  · refine ⟨rfl, by simp, fun i s hi => ⟨?_, ?_⟩⟩
    · rw [World.cell?_alloc_new]
      simp only [Nat.zero_add]
      simp [hi]
    · simp
theorem lnF_bound : ∀ (l cur : List UInt8), (lnF cur l).length ≤ l.length + 1 ∧ ∀ x ∈ lnF cur l, x.length ≤ cur.length + l.length
  | [], cur => by
    rw [lnF]
    split
    · simp
    · simp
  | c :: l, cur => by
    rw [lnF]
    split
    · obtain ⟨h1, h2⟩ := lnF_bound l []
      refine ⟨by simp; omega, fun x hx => ?_⟩
      rcases List.mem_cons.1 hx with rfl | hx
      · simp
      · have := h2 x hx; simp at this ⊢; omega
    · obtain ⟨h1, h2⟩ := lnF_bound l (cur ++ [c])
      refine ⟨by simp; omega, fun x hx => ?_⟩
      have := h2 x hx; simp at this ⊢; omega
theorem linesOf_bound (s : ByteArray) : (linesOf s).length ≤ s.size + 1 ∧ ∀ x ∈ linesOf s, x.size ≤ s.size := by
  obtain ⟨h1, h2⟩ := lnF_bound s.data.toList []
  unfold linesOf
  refine ⟨by rw [List.length_map]; rw [len_size] at h1; exact h1, fun x hx => ?_⟩
  obtain ⟨y, hy, rfl⟩ := List.mem_map.1 hx
  have := h2 y hy
  rw [mkB_size, ← len_size]; simpa using this
/-- is a text too large -/
def bigB (s : ByteArray) : Bool := decide (65536 < s.size) || decide (4096 < (linesOf s).length)
/-- the text of lines -/
def resL : List ByteArray → List UInt8
  | [] => []
  | s :: l => s.data.toList ++ 10 :: resL l
theorem resL_append (l m : List ByteArray) : resL (l ++ m) = resL l ++ resL m := by
  induction l with
  | nil => rfl
  | cons s l ih => simp [resL, ih]
theorem resL_take_le (l : List ByteArray) (k : Nat) : (resL (l.take k)).length ≤ (resL l).length := by
  conv => rhs; rw [← List.take_append_drop k l]
  rw [resL_append, List.length_append]; omega
end Go.Pw
namespace Go.Proofs.YtifpmigghplmoaaGreatDoor
open Go.RowKit Go.Pw
set_option maxHeartbeats 1000000 in
theorem split_any (s : ByteArray) (w : World) (hs : s.size ≤ 1000000) :
    Calls Tryz.prog 105 #[.string s, .string ⟨#[10]⟩] w fun e w' => e = .returned (.slice (some ⟨w.heap.size, 0, none⟩) (spl [] s.data.toList).length (spl [] s.data.toList).length) ∧ w' = w.alloc (.cells (((spl [] s.data.toList).map mkB).map Value.string).toArray 9) := by
  have hle := Lib.countB_le ⟨#[10]⟩ (by decide) s.size s (Nat.le_refl _)
  have hlen := Lib.splitB_all ⟨#[10]⟩ (by decide) 0 _ s rfl
  have c := Any.strings_genSplit_core Tryz.lays221 (by kernel_rfl) s ⟨#[10]⟩ 0 (-1) (Lib.countB s ⟨#[10]⟩ + 1) w (by omega) (by decide) (Nat.zero_le _)
    (fun x c _ => (Tryz.strings_Index_one x 10 _).mono fun e w' ⟨h1, h2⟩ => ⟨by rw [h1]; exact congrArg (fun z => Ending.returned (.int .i64 z)) (Lib.index_one _ _).symm, h2⟩)
    ((Tryz.strings_Count_one s 10 w).mono fun e w' ⟨h1, h2⟩ => ⟨by rw [h1]; exact congrArg (fun z : Nat => Ending.returned (.int .i64 (z : Int))) (Lib.count_one _ _).symm, h2⟩)
    (by decide) (by decide) (by rw [if_pos (by decide)]; omega)
  rw [Nat.add_sub_cancel, hlen] at c
  have e2 : Lib.cellsOf (Lib.splitB ⟨#[10]⟩ 0 (Lib.countB s ⟨#[10]⟩) s) (Lib.countB s ⟨#[10]⟩ + 1) = ((Lib.splitB ⟨#[10]⟩ 0 (Lib.countB s ⟨#[10]⟩) s).map Value.string).toArray := by rw [← hlen]; exact Lib.cellsOf_full _
  have e3 : Lib.countB s ⟨#[10]⟩ + 1 = (spl [] s.data.toList).length := by
    rw [spl_len]; exact congrArg (· + 1) (Lib.count_one _ _)
  rw [e2, splitB_spl, e3] at c
  have HC := hide c
  clear c e2 e3 hlen hle
  go_enter Tryz.func105, Tryz.ntmps105
  go_wp2_with fail
  refine HC.out.mono ?_
  rintro e w' ⟨rfl, rfl⟩
  go_wp2_with fail
  go_ret
  exact ⟨rfl, by rw [List.map_map]; rfl⟩

set_option maxHeartbeats 1000000 in
theorem lines_any (s : ByteArray) (w : World) (hs : s.size ≤ 1000000) :
    Calls Tryz.prog 66 #[.string s] w fun e w' => ∃ v, e = .returned v ∧ LinesRes 9 w (linesOf s) v w' := by
  by_cases h0 : 0 < s.size
  · have hne : s.data.toList ≠ [] := fun e => by have := len_size s; rw [e, List.length_nil] at this; omega
    have he := isEmpty_of h0
    have HL : Hid (lnF [] s.data.toList = spl [] (Lib.trimSuffix s.data.toList [10])) := hide (lnF_cut hne)
    clear hne
    have ht : (Lib.trimSuffix s.data.toList [10]).length ≤ s.size := by
      unfold Lib.trimSuffix; rw [← len_size]; split
      · rw [List.length_take]; omega
      · exact Nat.le_refl _
    go_enter Tryz.func66, Tryz.ntmps66
    go_wp2_with fail
    refine (Tryz.strings_TrimSuffix s ⟨#[10]⟩ w (by omega)).mono ?_
    rintro e w' ⟨rfl, rfl⟩
    obtain ⟨t, hT⟩ : ∃ t : ByteArray, (⟨(Lib.trimSuffix s.data.toList (⟨#[10]⟩ : ByteArray).data.toList).toArray⟩ : ByteArray) = t := ⟨_, rfl⟩
    rw [hT]
    have htl : t.data.toList = Lib.trimSuffix s.data.toList [10] := by rw [← hT]
    have hts : t.size ≤ 1000000 := by rw [← len_size, htl]; omega
    rw [← htl] at HL
    clear hT htl ht
    go_wp2_with fail
    refine (split_any t _ hts).mono ?_
    rintro e w'' ⟨rfl, rfl⟩
    obtain ⟨n, hn⟩ : ∃ n, (spl [] t.data.toList).length = n := ⟨_, rfl⟩
    have hn0 : 0 < n := by rw [← hn, spl_len]; omega
    have e1 : linesOf s = (spl [] t.data.toList).map mkB := by unfold linesOf; rw [HL.out]
    have e2 : (linesOf s).length = n := by rw [e1, List.length_map, hn]
    rw [← e1, hn]
    have HE := hide e2
    clear hn e1 e2 HL
    go_wp2_with fail
    go_ret
    exact ⟨_, rfl, .inr ⟨by rw [HE.out]; exact hn0, by rw [HE.out]; rfl, rfl⟩⟩
  · obtain rfl := empty_of (s := s) (by omega)
    go_enter Tryz.func66, Tryz.ntmps66
    go_wp2_with fail
    go_ret
    exact ⟨_, rfl, .inl ⟨rfl, rfl, rfl⟩⟩

set_option maxHeartbeats 1000000 in
theorem large_any (s : ByteArray) (w : World) (hs : s.size ≤ 9223372036854775807) :
    Calls Tryz.prog 104 #[.string s] w fun e w' => e = .returned (.bool (bigB s)) ∧ Below w.heap.size w w' := by
  by_cases h0 : 65536 < s.size
  · have HV : Hid (bigB s = true) := hide (by unfold bigB; simp [h0])
    go_enter Tryz.func104, Tryz.ntmps104
    go_wp2_with fail
    go_ret
    exact ⟨by rw [HV.out]; rfl, Below.refl _ _⟩
  · have HV : Hid (bigB s = decide (4096 < (linesOf s).length)) := hide (by unfold bigB; simp [h0])
    go_enter Tryz.func104, Tryz.ntmps104
    go_wp2_with fail
    refine (lines_any s w (by omega)).mono ?_
    rintro e w1 ⟨v, rfl, hr⟩
    have hb := linesRes_below hr
    have hbd := linesOf_bound s
    obtain ⟨A, rfl⟩ := linesRes_len hr
    have HB := hide hb
    obtain ⟨n, hn⟩ : ∃ n, (linesOf s).length = n := ⟨_, rfl⟩
    rw [hn] at hbd HV ⊢
    have hnn := hbd.1
    clear hr hb hbd hn
    go_wp2_with fail
    go_ret
    exact ⟨ret_bool (by rw [HV.out]; exact decide_eq_decide.2 (by omega)), HB.out⟩

set_option maxHeartbeats 1000000 in
theorem indexLarge_any (v : Value) (l : List ByteArray) (w : World) (h : Strs w v l) :
    Calls Tryz.prog 37 #[v, .func (.func 104) #[] #[]] w fun e w' => (∃ n : Int, e = .returned (.int .i64 n) ∧ (l.any bigB = decide (0 ≤ n))) ∧ Below w.heap.size w w' := by
  obtain ⟨⟨_, A, cap, rfl, hcap, hmax, hx⟩, hsz⟩ := h
  unfold maxLen at hmax
  have HX := hide hx
  have HSZ := hide hsz
  clear hx hsz
  go_enter Tryz.func37, Tryz.ntmps37
  go_wp2_with fail
  go_loopw [8] (fun i wr => ∃ k : Nat, k ≤ l.length ∧ i = .int .i64 (k : Int) ∧ Hid ((l.take k).any bigB = false) ∧ Below w.heap.size w wr) (fun i _ => l.length - (intOf i).toNat)
  case atStart => exact ⟨0, by omega, rfl, hide rfl, Below.refl _ _⟩
  case round =>
    obtain ⟨k, hk, rfl, HK, hb⟩ := hrel
    by_cases hlt : k < l.length
    · obtain ⟨bb, o, rfl, hbb, hj⟩ := HX.out (by omega)
      have hc : wr.cell? ⟨bb, o + k, none⟩ = some (.string l[k]) := (hb.cell (p := ⟨bb, o + k, none⟩) hbb).trans (hj k _ (by simp [hlt]))
      have hz := HSZ.out _ (List.getElem_mem hlt)
      unfold maxLen at hz
      have HT : Hid ((l.take (k + 1)).any bigB = bigB l[k]) := hide (by rw [List.take_succ_eq_append_getElem hlt, List.any_append, HK.out]; simp)
      have HA : Hid (bigB l[k] = true → l.any bigB = true) := hide (fun e => List.any_eq_true.2 ⟨_, List.getElem_mem hlt, e⟩)
      clear hj
      obtain ⟨x, hxx⟩ : ∃ x, l[k] = x := ⟨_, rfl⟩
      rw [hxx] at hc hz HT HA
      clear hxx
      go_wp2_with fail
      refine (large_any x _ (by omega)).mono ?_
      rintro e w2 ⟨rfl, hb2⟩
      have hb3 := hb.trans (hb2.mono hb.size)
      have HB3 := hide hb3
      clear hb2 hb3 hc
      cases hbig : bigB x
      · rw [hbig] at HT
        go_wp2_with fail
        go_roundw
        case rel => exact ⟨k + 1, by omega, by go_num, HT, HB3.out⟩
        case measure => simp [intOf]; omega
      · have HQ := hide (HA.out hbig)
        clear hbig HA
        go_wp2_with fail
        go_ret
        exact ⟨⟨_, rfl, by rw [HQ.out]; simp⟩, HB3.out⟩
    · obtain rfl : k = l.length := by omega
      rw [List.take_length] at HK
      go_wp2_with fail
      go_ret
      exact ⟨⟨_, rfl, by rw [HK.out]; rfl⟩, hb⟩
theorem containsLarge_any (v : Value) (l : List ByteArray) (w : World) (h : Strs w v l) :
    Calls Tryz.prog 11 #[v, .func (.func 104) #[] #[]] w fun e w' => e = .returned (.bool (l.any bigB)) ∧ Below w.heap.size w w' := by
  have HI := hide (indexLarge_any v l w h)
  clear h
  go_enter Tryz.func11, Tryz.ntmps11
  go_wp2_with fail
  refine HI.out.mono ?_
  rintro e w1 ⟨⟨n, rfl, hn⟩, hb⟩
  have HN := hide hn
  clear hn
  go_wp2_with fail
  go_ret
  exact ⟨by rw [HN.out]; rfl, hb⟩
theorem sized_any (v : Value) (l : List ByteArray) (w : World) (h : Strs w v l) :
    Calls Tryz.prog 65 #[v] w fun e w' => e = .returned (.int .i64 (if l.any bigB then 2 else 0)) ∧ Below w.heap.size w w' := by
  have HI := hide (containsLarge_any v l w h)
  clear h
  obtain ⟨c, hc⟩ : ∃ c, l.any bigB = c := ⟨_, rfl⟩
  rw [hc] at HI ⊢
  clear hc
  cases c
  all_goals
    go_enter Tryz.func65, Tryz.ntmps65
    go_wp2_with fail
    refine HI.out.mono ?_
    rintro e w1 ⟨rfl, hb⟩
    go_wp2_with fail
    go_ret
    exact ⟨rfl, hb⟩

set_option maxHeartbeats 1000000 in
theorem result_any (v : Value) (l : List ByteArray) (w : World) (h : Strs w v l) (hlen : (resL l).length ≤ 1000000000) :
    Calls Tryz.prog 113 #[v] w fun e w' => e = .returned (.string (mkB (resL l))) ∧ Below w.heap.size w w' := by
  obtain ⟨⟨_, A, cap, rfl, hcap, hmax, hx⟩, hsz⟩ := h
  unfold maxLen at hmax
  have HX := hide hx
  have HLEN := hide hlen
  clear hx hsz hlen
  have hB0 : Bld w.heap.size w.heap.size [] (w.alloc (.cells #[.pointer none, .slice none 0 0] 77)) := Lib.fresh_isBuilder _ _ w
  have HB0 := hide hB0
  clear hB0
  go_enter Tryz.func113, Tryz.ntmps113
  go_wp2_with fail
  go_loopw [8] (fun i wr => ∃ k : Nat, k ≤ l.length ∧ i = .int .i64 (k : Int) ∧ Bld w.heap.size w.heap.size (resL (l.take k)) wr ∧ Below w.heap.size w wr) (fun i _ => l.length - (intOf i).toNat)
  case atStart => exact ⟨0, by omega, rfl, by simpa [resL] using HB0.out, (Below.refl _ _).alloc (Nat.le_refl _) _⟩
  case round =>
    obtain ⟨k, hk, rfl, hbk, hb⟩ := hrel
    by_cases hlt : k < l.length
    · obtain ⟨bb, o, rfl, hbb, hj⟩ := HX.out (by omega)
      have hc : wr.cell? ⟨bb, o + k, none⟩ = some (.string l[k]) := (hb.cell (p := ⟨bb, o + k, none⟩) hbb).trans (hj k _ (by simp [hlt]))
      have e1 : resL (l.take (k + 1)) = resL (l.take k) ++ (l[k] ++ (⟨#[10]⟩ : ByteArray)).data.toList := by
        rw [List.take_succ_eq_append_getElem hlt, resL_append]
        simp [resL]
      have e2 : (resL (l.take k)).length + (l[k] ++ (⟨#[10]⟩ : ByteArray)).size ≤ 1000000000 := by
        have h1 := resL_take_le l (k + 1)
        rw [e1, List.length_append, len_size] at h1
        have := HLEN.out
        omega
      have e3 : l[k].size ≤ 1000000000 := by
        rw [ByteArray.size_append] at e2; omega
      have HN := hide e1
      have HE := hide e2
      have hzz := hb.size
      clear hj e1 e2
      go_wp2_with fail
      refine (writeString_any _ _ _ _ _ hbk (Nat.le_trans HE.out (by omega)) hzz).mono ?_
      rintro e w2 ⟨rfl, hb2, hbe2⟩
      rw [← HN.out] at hb2
      have hbw2 := hb.trans hbe2
      clear hbk hb hbe2 hc
      go_wp2_with fail
      go_roundw
      case rel => exact ⟨k + 1, by omega, by go_num, hb2, hbw2⟩
      case measure => simp [intOf]; omega
    · obtain rfl : k = l.length := by omega
      rw [List.take_length] at hbk
      have hzz := hb.size
      go_wp2_with fail
      refine (bldString_any _ _ _ _ hbk hzz).mono ?_
      rintro e w2 ⟨rfl, hb2⟩
      have hbw2 := hb.trans hb2
      clear hb hb2 hbk
      go_wp2_with fail
      go_ret
      exact ⟨rfl, hbw2⟩
end Go.Proofs.YtifpmigghplmoaaGreatDoor

/- NumbP -/
set_option linter.unusedVariables false
namespace Go.Pw
open Go.RowKit
structure Nb where
  start : Int
  step : Int
  width : Int
  zeros : Bool
  empty : Bool
  sep : ByteArray
def Nb.good (o : Nb) : Prop := (-1000000 ≤ o.start ∧ o.start ≤ 1000000) ∧ (-1000000 ≤ o.step ∧ o.step ≤ 1000000) ∧ (0 ≤ o.width ∧ o.width ≤ 1000) ∧ o.sep.size ≤ 1000
theorem decD_head (u : Nat) : ∃ c t, Lib.decDigits u = c :: t ∧ c ≠ 45 := by
  rw [Lib.decDigits_eq]
  have hn : 0 < Lib.nDigits u := by unfold Lib.nDigits; split <;> omega
  obtain ⟨m, hm⟩ : ∃ m, Lib.nDigits u = m + 1 := ⟨Lib.nDigits u - 1, by omega⟩
  rw [hm, List.range_succ_eq_map, List.map_cons]
  refine ⟨_, _, rfl, ?_⟩
  unfold Lib.dg
  intro h
  have := congrArg UInt8.toNat h
  simp at this
  omega
/-- a number, filled up -/
def fillN (n : Int) (w : Nat) (z : Bool) : List UInt8 :=
  if z && decide (n < 0) then 45 :: (List.replicate (w - (Lib.itoa n).length) 48 ++ (Lib.itoa n).drop 1)
  else List.replicate (w - (Lib.itoa n).length) (if z then 48 else 32) ++ Lib.itoa n
theorem itoa_cut_neg {n : Int} (h : n < 0) : Lib.trimPrefix (Lib.itoa n) [45] = (Lib.itoa n).drop 1 ∧ Lib.hasPrefix (Lib.itoa n) [45] = true := by
  obtain ⟨u, rfl⟩ : ∃ u : Nat, n = -(u : Int) := ⟨n.natAbs, by omega⟩
  rw [Lib.itoa_neg u (by omega)]
  exact ⟨rfl, rfl⟩
theorem itoa_cut_pos {n : Int} (h : ¬ n < 0) : Lib.trimPrefix (Lib.itoa n) [45] = Lib.itoa n ∧ Lib.hasPrefix (Lib.itoa n) [45] = false := by
  obtain ⟨u, rfl⟩ : ∃ u : Nat, n = (u : Int) := ⟨n.natAbs, by omega⟩
  rw [Lib.itoa_nonneg u]
  obtain ⟨c, t, e, hc⟩ := decD_head u
  rw [e]
  have hp : Lib.hasPrefix (c :: t) [45] = false := by
    unfold Lib.hasPrefix List.isPrefixOf
    rw [beq_false_of_ne (Ne.symm hc)]
    rfl
  refine ⟨?_, hp⟩
  unfold Lib.trimPrefix
  rw [hp]
  rfl
theorem itoa_pos_len (n : Int) : 0 < (Lib.itoa n).length := by
  by_cases h : n < 0
  · obtain ⟨u, rfl⟩ : ∃ u : Nat, n = -(u : Int) := ⟨n.natAbs, by omega⟩
    rw [Lib.itoa_neg u (by omega)]; simp
  · obtain ⟨u, rfl⟩ : ∃ u : Nat, n = (u : Int) := ⟨n.natAbs, by omega⟩
    rw [Lib.itoa_nonneg u]
    obtain ⟨c, t, e, _⟩ := decD_head u
    rw [e]; simp
theorem fillN_len (n : Int) (w : Nat) (z : Bool) (h0 : -9223372036854775808 ≤ n) (h1 : n ≤ 9223372036854775807) (hw : w ≤ 1000) : (fillN n w z).length ≤ 1021 := by
  have h2 := Lib.itoa_length_le n h0 h1
  have h3 := itoa_pos_len n
  unfold fillN
  split
  · rw [List.length_cons, List.length_append, List.length_replicate, List.length_drop]; omega
  · rw [List.length_append, List.length_replicate]; omega
/-- a line with its number -/
def numLine (o : Nb) (n : Int) (x : ByteArray) : ByteArray := (mkB (fillN n o.width.toNat o.zeros) ++ o.sep) ++ x
/-- the lines with numbers, and the next number -/
def numTo (o : Nb) (L : List ByteArray) : Nat → List ByteArray × Int
  | 0 => ([], o.start)
  | k + 1 => if ((L.getD k ⟨#[]⟩).size == 0) && !o.empty then ((numTo o L k).1 ++ [L.getD k ⟨#[]⟩], (numTo o L k).2) else ((numTo o L k).1 ++ [numLine o (numTo o L k).2 (L.getD k ⟨#[]⟩)], (numTo o L k).2 + o.step)
theorem numTo_len (o : Nb) (L : List ByteArray) : ∀ k, (numTo o L k).1.length = k
  | 0 => rfl
  | k + 1 => by
    have ih := numTo_len o L k
    rw [numTo]
    split <;> simp [ih]
theorem numTo_num {o : Nb} (ho : o.good) (L : List ByteArray) : ∀ k : Nat, -1000000 - 1000000 * (k : Int) ≤ (numTo o L k).2 ∧ (numTo o L k).2 ≤ 1000000 + 1000000 * (k : Int)
  | 0 => by
    obtain ⟨⟨h1, h2⟩, _⟩ := ho
    simp [numTo]; omega
  | k + 1 => by
    have ih := numTo_num ho L k
    obtain ⟨_, ⟨h1, h2⟩, _⟩ := ho
    rw [numTo]
    split
    · simp only; omega
    · simp only; omega
theorem numLine_size {o : Nb} (ho : o.good) {n : Int} {x : ByteArray} (h0 : -9223372036854775808 ≤ n) (h1 : n ≤ 9223372036854775807) : (numLine o n x).size ≤ x.size + 2021 := by
  obtain ⟨_, _, ⟨h2, h3⟩, h4⟩ := ho
  unfold numLine
  rw [ByteArray.size_append, ByteArray.size_append, mkB_size]
  have := fillN_len n o.width.toNat o.zeros h0 h1 (by omega)
  omega
theorem numTo_bound {o : Nb} (ho : o.good) (L : List ByteArray) (M : Nat) (hL : L.length ≤ 1000000) (hM : ∀ x ∈ L, x.size ≤ M) : ∀ k : Nat, k ≤ L.length → (∀ y ∈ (numTo o L k).1, y.size ≤ M + 2021) ∧ (resL (numTo o L k).1).length ≤ k * (M + 2022)
  | 0, _ => by simp [numTo, resL]
  | k + 1, h => by
    obtain ⟨i1, i2⟩ := numTo_bound ho L M hL hM k (by omega)
    have hn := numTo_num ho L k
    have hk : k < L.length := by omega
    have hd : L.getD k ⟨#[]⟩ = L[k] := by simp [List.getD, hk]
    have hx := hM L[k] (List.getElem_mem hk)
    have hz := numLine_size ho (n := (numTo o L k).2) (x := L[k]) (by omega) (by omega)
    have e : (k + 1) * (M + 2022) = k * (M + 2022) + (M + 2022) := Nat.succ_mul _ _
    rw [numTo, hd]
    split
    · refine ⟨fun y hy => ?_, ?_⟩
      · rcases List.mem_append.1 hy with hy | hy
        · exact i1 y hy
        · simp at hy; subst hy; omega
      · rw [resL_append, List.length_append]
        have := len_size L[k]
        simp only [resL, List.length_append, List.length_cons, List.length_nil]
        omega
    · refine ⟨fun y hy => ?_, ?_⟩
      · rcases List.mem_append.1 hy with hy | hy
        · exact i1 y hy
        · simp at hy; subst hy; omega
      · rw [resL_append, List.length_append]
        have := len_size (numLine o (numTo o L k).2 L[k])
        simp only [resL, List.length_append, List.length_cons, List.length_nil]
        omega
end Go.Pw

/- DecP -/
set_option linter.unusedVariables false
namespace Go.Pw
open Go.RowKit
/-- the number of a list of digits -/
def valL : List UInt8 → Nat
  | [] => 0
  | c :: l => (c.toNat - 48) * 10 ^ l.length + valL l
def DigL (l : List UInt8) : Prop := ∀ c ∈ l, 48 ≤ c.toNat ∧ c.toNat ≤ 57
/-- digits without zeros ahead -/
def Canon (l : List UInt8) : Prop := DigL l ∧ ∀ h : 0 < l.length, l[0] ≠ 48
theorem valL_append : ∀ l m : List UInt8, valL (l ++ m) = valL l * 10 ^ m.length + valL m
  | [], m => by simp [valL]
  | c :: l, m => by
    rw [List.cons_append, valL, valL, valL_append l m, List.length_append, Nat.pow_add, Nat.add_mul, Nat.mul_assoc]
    omega
theorem pow_pos10 (n : Nat) : 0 < 10 ^ n := Nat.pow_pos (by omega)
theorem valL_lt : ∀ l : List UInt8, DigL l → valL l < 10 ^ l.length
  | [], _ => by simp [valL]
  | c :: l, h => by
    have h1 := valL_lt l (fun x hx => h x (List.mem_cons_of_mem _ hx))
    have h2 := h c List.mem_cons_self
    have h3 : (c.toNat - 48) * 10 ^ l.length ≤ 9 * 10 ^ l.length := Nat.mul_le_mul_right _ (by omega)
    rw [valL, List.length_cons, Nat.pow_succ]
    omega
theorem byte_of {c d : UInt8} (h : c.toNat = d.toNat) : c = d := UInt8.toNat_inj.1 h
theorem valL_inj : ∀ l m : List UInt8, DigL l → DigL m → l.length = m.length → valL l = valL m → l = m
  | [], [], _, _, _, _ => rfl
  | [], _ :: _, _, _, h, _ => by simp at h
  | _ :: _, [], _, _, h, _ => by simp at h
  | c :: l, d :: m, h1, h2, h3, h4 => by
    have hl := valL_lt l (fun x hx => h1 x (List.mem_cons_of_mem _ hx))
    have hm := valL_lt m (fun x hx => h2 x (List.mem_cons_of_mem _ hx))
    have hc := h1 c List.mem_cons_self
    have hd := h2 d List.mem_cons_self
    have e : l.length = m.length := by simpa using h3
    rw [valL, valL, e] at h4
    rw [e] at hl
    have hp := pow_pos10 m.length
    have hcd : c.toNat - 48 = d.toNat - 48 := by
      have a1 : ((c.toNat - 48) * 10 ^ m.length + valL l) / 10 ^ m.length = c.toNat - 48 := by
        rw [Nat.mul_comm, Nat.mul_add_div hp, Nat.div_eq_of_lt hl]; rfl
      have a2 : ((d.toNat - 48) * 10 ^ m.length + valL m) / 10 ^ m.length = d.toNat - 48 := by
        rw [Nat.mul_comm, Nat.mul_add_div hp, Nat.div_eq_of_lt hm]; rfl
      rw [← a1, ← a2, h4]
    have hcd2 : c = d := byte_of (by omega)
    subst hcd2
    rw [valL_inj l m (fun x hx => h1 x (List.mem_cons_of_mem _ hx)) (fun x hx => h2 x (List.mem_cons_of_mem _ hx)) e (by omega)]
theorem valL_ge {l : List UInt8} (h : Canon l) (h0 : 0 < l.length) : 10 ^ (l.length - 1) ≤ valL l := by
  obtain ⟨h1, h2⟩ := h
  cases l with
  | nil => simp at h0
  | cons c l =>
    have hc := h1 c List.mem_cons_self
    have hz := h2 h0
    simp only [List.getElem_cons_zero] at hz
    have hne : c.toNat ≠ 48 := fun e => hz (byte_of e)
    rw [valL, List.length_cons, Nat.add_sub_cancel]
    have : 1 * 10 ^ l.length ≤ (c.toNat - 48) * 10 ^ l.length := Nat.mul_le_mul_right _ (by omega)
    omega
theorem canon_len {l m : List UInt8} (hl : Canon l) (hm : Canon m) (h : l.length < m.length) : valL l < valL m := by
  have h1 := valL_lt l hl.1
  have h2 := valL_ge hm (by omega)
  have h3 : 10 ^ l.length ≤ 10 ^ (m.length - 1) := Nat.pow_le_pow_right (by omega) (by omega)
  omega
theorem canon_inj {l m : List UInt8} (hl : Canon l) (hm : Canon m) (h : valL l = valL m) : l = m := by
  rcases Nat.lt_trichotomy l.length m.length with h1 | h1 | h1
  · have := canon_len hl hm h1; omega
  · exact valL_inj l m hl.1 hm.1 h1 h
  · have := canon_len hm hl h1; omega
theorem canon_zero {l : List UInt8} (hl : Canon l) (h : valL l = 0) : l = [] := canon_inj hl ⟨(by intro c hc; simp at hc), (by intro h; simp at h)⟩ h
theorem valL_zeros (n : Nat) : valL (List.replicate n 48) = 0 := by
  induction n with
  | zero => rfl
  | succ n ih => rw [List.replicate_succ, valL, ih]; simp
theorem valL_pad (n : Nat) (l : List UInt8) : valL (List.replicate n 48 ++ l) = valL l := by
  rw [valL_append, valL_zeros]; omega
theorem dig_pad {n : Nat} {l : List UInt8} (h : DigL l) : DigL (List.replicate n 48 ++ l) := by
  intro c hc
  rcases List.mem_append.1 hc with hc | hc
  · rw [List.eq_of_mem_replicate hc]; decide
  · exact h c hc
theorem dig_append {l m : List UInt8} (h : DigL l) (h' : DigL m) : DigL (l ++ m) := fun c hc => (List.mem_append.1 hc).elim (h c) (h' c)
/-- without the zeros ahead -/
theorem strip_val : ∀ l : List UInt8, DigL l → Canon (l.dropWhile (· == 48)) ∧ valL (l.dropWhile (· == 48)) = valL l
  | [], _ => ⟨⟨(by intro c hc; simp at hc), (by intro h; simp at h)⟩, rfl⟩
  | c :: l, h => by
    rw [List.dropWhile_cons]
    by_cases hc : c = 48
    · subst hc
      have := strip_val l (fun x hx => h x (List.mem_cons_of_mem _ hx))
      simp only [beq_self_eq_true, if_true]
      refine ⟨this.1, ?_⟩
      rw [this.2, valL]
      simp
    · have hb : (c == 48) = false := by simpa using hc
      rw [hb]
      exact ⟨⟨h, fun _ => by simpa using hc⟩, rfl⟩
/-- two numbers are compared by their digits -/
theorem cb_val : ∀ l m : List UInt8, DigL l → DigL m → l.length = m.length → Lib.compareBytes l m = Lib.compareInt (valL l) (valL m)
  | [], [], _, _, _ => by rfl
  | [], _ :: _, _, _, h => by simp at h
  | _ :: _, [], _, _, h => by simp at h
  | c :: l, d :: m, h1, h2, h3 => by
    have hl := valL_lt l (fun x hx => h1 x (List.mem_cons_of_mem _ hx))
    have hm := valL_lt m (fun x hx => h2 x (List.mem_cons_of_mem _ hx))
    have hc := h1 c List.mem_cons_self
    have hd := h2 d List.mem_cons_self
    have e : l.length = m.length := by simpa using h3
    have ih := cb_val l m (fun x hx => h1 x (List.mem_cons_of_mem _ hx)) (fun x hx => h2 x (List.mem_cons_of_mem _ hx)) e
    rw [valL, valL, e]
    rw [e] at hl
    rcases Nat.lt_trichotomy c.toNat d.toNat with h | h | h
    · have hx : (c.toNat - 48 + 1) * 10 ^ m.length ≤ (d.toNat - 48) * 10 ^ m.length := Nat.mul_le_mul_right _ (by omega)
      rw [Nat.add_mul] at hx
      have a : Lib.compareBytes (c :: l) (d :: m) = -1 := by
        unfold Lib.compareBytes
        rw [if_pos (UInt8.lt_iff_toNat_lt.2 h)]
      have b : Lib.compareInt (((c.toNat - 48) * 10 ^ m.length + valL l : Nat) : Int) (((d.toNat - 48) * 10 ^ m.length + valL m : Nat) : Int) = -1 := by
        unfold Lib.compareInt
        rw [if_pos (by omega)]
      rw [a, b]
    · have hcd : c = d := byte_of h
      subst hcd
      have a : Lib.compareBytes (c :: l) (c :: m) = Lib.compareBytes l m := by
        conv => lhs; unfold Lib.compareBytes
        rw [if_neg (by simp), if_neg (by simp)]
      rw [a, ih]
      unfold Lib.compareInt
      by_cases g1 : valL l < valL m
      · rw [if_pos (by omega), if_pos (by omega)]
      · by_cases g2 : valL m < valL l
        · rw [if_neg (by omega), if_pos (by omega), if_neg (by omega), if_pos (by omega)]
        · rw [if_neg (by omega), if_neg (by omega), if_neg (by omega), if_neg (by omega)]
    · have hx : (d.toNat - 48 + 1) * 10 ^ m.length ≤ (c.toNat - 48) * 10 ^ m.length := Nat.mul_le_mul_right _ (by omega)
      rw [Nat.add_mul] at hx
      have a : Lib.compareBytes (c :: l) (d :: m) = 1 := by
        unfold Lib.compareBytes
        rw [if_neg (fun h' => by have := UInt8.lt_iff_toNat_lt.1 h'; omega), if_pos (UInt8.lt_iff_toNat_lt.2 h)]
      have b : Lib.compareInt (((c.toNat - 48) * 10 ^ m.length + valL l : Nat) : Int) (((d.toNat - 48) * 10 ^ m.length + valL m : Nat) : Int) = 1 := by
        unfold Lib.compareInt
        rw [if_neg (by omega), if_pos (by omega)]
      rw [a, b]
/-- a digit of a number that is filled up with zeros ahead to a size, by its place -/
def padL (n : Nat) (l : List UInt8) : List UInt8 := List.replicate (n - l.length) 48 ++ l
theorem padL_len {n : Nat} {l : List UInt8} (h : l.length ≤ n) : (padL n l).length = n := by
  unfold padL; rw [List.length_append, List.length_replicate]; omega
theorem padL_dig {n : Nat} {l : List UInt8} (h : DigL l) : DigL (padL n l) := dig_pad h
theorem padL_val (n : Nat) (l : List UInt8) : valL (padL n l) = valL l := valL_pad _ _
/-- adding (by is 1) or subtracting (by is -1) from the right: so far the places from i on -/
structure AddAt (A B O : List UInt8) (by_ carry : Int) (n i : Nat) : Prop where
  len : O.length = n
  dig : DigL (O.drop i)
  lo : -1 ≤ carry
  hi : carry ≤ 1
  val : (valL (O.drop i) : Int) + carry * (10 ^ (n - i) : Nat) = valL (A.drop i) + by_ * valL (B.drop i)
theorem AddAt.start {A B O : List UInt8} {n : Nat} (by_ : Int) (hA : A.length = n) (hB : B.length = n) (hO : O.length = n) : AddAt A B O by_ 0 n n := by
  refine ⟨hO, ?_, by omega, by omega, ?_⟩
  · rw [List.drop_of_length_le (by omega)]; intro c hc; simp at hc
  · rw [List.drop_of_length_le (by omega), List.drop_of_length_le (by omega), List.drop_of_length_le (by omega)]; simp [valL]
theorem AddAt.step {A B O : List UInt8} {by_ carry : Int} {n i : Nat} (h : AddAt A B O by_ carry n (i + 1)) (hA : A.length = n) (hB : B.length = n) (hi : i < n) {a b c : UInt8} (ha : A[i]? = some a) (hb : B[i]? = some b) (dc : Int)
    (hc : 48 ≤ c.toNat ∧ c.toNat ≤ 57) (hd : (c.toNat : Int) - 48 + 10 * dc = ((a.toNat - 48 : Nat) : Int) + by_ * ((b.toNat - 48 : Nat) : Int) + carry) (h1 : -1 ≤ dc) (h2 : dc ≤ 1) : AddAt A B (O.set i c) by_ dc n i := by
  obtain ⟨l1, l2, l3, l4, l5⟩ := h
  obtain ⟨ia, ea⟩ := List.getElem?_eq_some_iff.1 ha
  obtain ⟨ib, eb⟩ := List.getElem?_eq_some_iff.1 hb
  have eO : (O.set i c).drop i = c :: O.drop (i + 1) := by
    rw [List.drop_eq_getElem_cons (by rw [List.length_set]; omega), List.getElem_set_self, List.drop_set_of_lt (by omega)]
  have eA : A.drop i = a :: A.drop (i + 1) := by rw [List.drop_eq_getElem_cons ia, ea]
  have eB : B.drop i = b :: B.drop (i + 1) := by rw [List.drop_eq_getElem_cons ib, eb]
  refine ⟨by rw [List.length_set]; exact l1, ?_, h1, h2, ?_⟩
  · rw [eO]; intro x hx
    rcases List.mem_cons.1 hx with rfl | hx
    · exact hc
    · exact l2 x hx
  · rw [eO, eA, eB, valL, valL, valL, List.length_drop, List.length_drop, List.length_drop, l1, hA, hB, show n - i = (n - (i + 1)) + 1 by omega, Nat.pow_succ]
    obtain ⟨p, hp⟩ : ∃ p, 10 ^ (n - (i + 1)) = p := ⟨_, rfl⟩
    rw [hp] at l5 ⊢
    push_cast
    rw [Int.mul_add, ← Int.mul_assoc, ← Int.mul_assoc]
    have e1 : ((c.toNat - 48 : Nat) : Int) = (c.toNat : Int) - 48 := by omega
    rw [e1]
    have e2 : ((c.toNat : Int) - 48) * p + 10 * dc * p = (((a.toNat - 48 : Nat) : Int) + by_ * ((b.toNat - 48 : Nat) : Int) + carry) * p := by rw [← hd, Int.add_mul]
    rw [Int.add_mul, Int.add_mul] at e2
    have e3 : dc * (p : Int) * 10 = 10 * dc * p := by rw [Int.mul_comm 10 dc, Int.mul_assoc, Int.mul_assoc, Int.mul_comm (10 : Int)]
    rw [e3]
    omega
theorem AddAt.done {A B O : List UInt8} {by_ carry : Int} {n m : Nat} (h : AddAt A B O by_ carry n 0) (hm : (valL A : Int) + by_ * valL B = m) (hlt : m < 10 ^ n) : DigL O ∧ valL O = m := by
  obtain ⟨l1, l2, l3, l4, l5⟩ := h
  simp only [List.drop_zero, Nat.sub_zero] at l2 l5
  refine ⟨l2, ?_⟩
  have hv := valL_lt O l2
  rw [l1] at hv
  rw [hm] at l5
  obtain ⟨p, hp⟩ : ∃ p, 10 ^ n = p := ⟨_, rfl⟩
  rw [hp] at hv hlt l5
  have : carry = 0 := by
    rcases (show carry = -1 ∨ carry = 0 ∨ carry = 1 by omega) with h | h | h
    · subst h; omega
    · exact h
    · subst h; omega
  subst this
  omega
end Go.Pw
