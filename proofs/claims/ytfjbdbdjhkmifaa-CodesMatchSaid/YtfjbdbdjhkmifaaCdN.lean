/- delta.codes. -/
import Derived.Test.YtfjbdbdjhkmifaaCdM
import Derived.Test.YtfjbdbdjhkmifaaIStabV
set_option linter.unusedVariables false
set_option linter.unusedSimpArgs false
namespace Go.Pw
/-- the comparison of symbols by their lengths -/
def cfL (r : List Nat) : Cfn := ⟨r.length, fun a b => (r.getD a.toNat 0 : Int) - (r.getD b.toNat 0 : Int)⟩
theorem ltI_cfL (r : List Nat) : ltI (cfL r) = fun x y : Int => decide (r.getD x.toNat 0 < r.getD y.toNat 0) := by
  funext x y
  unfold ltI cfL
  show decide ((r.getD x.toNat 0 : Int) - (r.getD y.toNat 0 : Int) < 0) = _
  by_cases h : r.getD x.toNat 0 < r.getD y.toNat 0
  · rw [decide_eq_true h, decide_eq_true (by omega)]
  · rw [decide_eq_false h, decide_eq_false (by omega)]
theorem swo_cfL (r : List Nat) : Swo (ltI (cfL r)) := by
  rw [ltI_cfL]
  exact ⟨fun x y h => by simp at h ⊢; omega, fun x y z h1 h2 => by simp at h1 h2 ⊢; omega⟩
theorem ordC_ints (r : List Nat) (h : GoodLens r) : isrt (ltI (cfL r)) ((coded r).map fun s : Nat => (s : Int)) = (ordC r).map fun s : Nat => (s : Int) := by
  have e := isrt_byKey (fun x : Int => r.getD x.toNat 0) r.length ((coded r).map fun s : Nat => (s : Int)) (fun x hx => by
    obtain ⟨s, hs, rfl⟩ := List.mem_map.1 hx
    exact ⟨of_decide_eq_true (List.mem_filter.1 hs).2, h.1 s⟩)
  rw [ltI_cfL, e]
  unfold ordC byKey
  rw [List.map_flatMap]
  congr 1
  funext k
  rw [List.filter_map]
  rfl
/-- the symbols that have a code among the first k -/
def codedTo (r : List Nat) (k : Nat) : List Nat := (List.range k).filter fun s => decide (0 < r.getD s 0)
theorem codedTo_step (r : List Nat) (k : Nat) : codedTo r (k + 1) = if 0 < r.getD k 0 then codedTo r k ++ [k] else codedTo r k := by
  unfold codedTo
  rw [List.range_succ, List.filter_append]
  split
  · rename_i h; rw [List.filter_cons, if_pos (decide_eq_true h)]; rfl
  · rename_i h; rw [List.filter_cons, if_neg (by simpa using h), List.filter_nil, List.append_nil]
theorem codedTo_len (r : List Nat) (k : Nat) : (codedTo r k).length ≤ k := by
  have := List.length_filter_le (fun s => decide (0 < r.getD s 0)) (List.range k)
  rwa [List.length_range] at this
end Go.Pw
namespace Go.Proofs.Ytfjbdbdjhkmifaa
open Go.RowKit Go.Pw
theorem insertionINil_any (fv : Value) (w : World) : Calls Try.prog 99 #[.slice none 0 0, .int .i64 0, .int .i64 0, fv] w fun e w' => e = .returned (.tuple #[]) ∧ w = w' := by
  go_enter Try.func99, Try.ntmps99
  go_wp2_with fail
  go_loop [8] (fun i => i = .int .i64 1) (fun _ => 0)
  case atStart => rfl
  case round =>
    obtain rfl := hrel
    go_wp2_with fail
    go_end0
    exact ⟨rfl, rfl⟩
theorem stableINil_any (fv : Value) (w : World) : Calls Try.prog 93 #[.slice none 0 0, .int .i64 0, fv] w fun e w' => e = .returned (.tuple #[]) ∧ w = w' := by
  go_enter Try.func93, Try.ntmps93
  go_wp2_with fail
  go_loop [7, 8] (fun x y => x = .int .i64 0 ∧ y = .int .i64 20) (fun _ _ => 0)
  case atStart => exact ⟨rfl, rfl⟩
  case round =>
    obtain ⟨rfl, rfl⟩ := hrel
    go_wp2_with fail
    refine (insertionINil_any _ _).mono ?_
    rintro e w' ⟨rfl, rfl⟩
    go_wp2_with fail
    go_loop [6] (fun x => x = .int .i64 20) (fun _ => 0)
    case atStart => rfl
    case round =>
      obtain rfl := hrel
      go_wp2_with fail
      go_end0
      exact ⟨rfl, rfl⟩
theorem sortStableINil_any (fv : Value) (w : World) : Calls Try.prog 77 #[.slice none 0 0, fv] w fun e w' => e = .returned (.tuple #[]) ∧ w = w' := by
  go_enter Try.func77, Try.ntmps77
  go_wp2_with fail
  refine (stableINil_any _ _).mono ?_
  rintro e w' ⟨rfl, rfl⟩
  go_wp2_with fail
  go_end0
  exact ⟨rfl, rfl⟩
/-- the closure in codes -/
theorem codes1_any (x y : Int) (LB : Nat) (v : Value) (r : List Nat) (w : World) (hb : w.cell? ⟨LB, 0, none⟩ = some v) (h : Nats w v r) (hx : IOk (cfL r) x) (hy : IOk (cfL r) y) (hr : ∀ s, r.getD s 0 ≤ 1000) :
    Calls Try.prog 78 #[.int .i64 x, .int .i64 y, .pointer (some ⟨LB, 0, none⟩)] w fun e w' => e = .returned (.int .i64 ((cfL r) x y)) ∧ Below w.heap.size w w' := by
  obtain ⟨hx0, hx1⟩ := hx
  obtain ⟨hy0, hy1⟩ := hy
  have hx1 : x < (r.length : Int) := hx1
  have hy1 : y < (r.length : Int) := hy1
  obtain ⟨a, rfl⟩ : ∃ a : Nat, x = (a : Int) := ⟨x.toNat, by omega⟩
  obtain ⟨b, rfl⟩ : ∃ b : Nat, y = (b : Int) := ⟨y.toNat, by omega⟩
  obtain ⟨hl, A, cap, rfl, hcap, hmax, hc⟩ := h
  obtain ⟨g, o, rfl, hg, hj⟩ := hc (by omega)
  have ha : a < r.length := by omega
  have hb2 : b < r.length := by omega
  have c1 : w.cell? ⟨g, o + a, none⟩ = some (.int .i64 ((r.getD a 0 : Nat) : Int)) := hj a _ (by simp [natV, ha, getD_nat ha])
  have c2 : w.cell? ⟨g, o + b, none⟩ = some (.int .i64 ((r.getD b 0 : Nat) : Int)) := hj b _ (by simp [natV, hb2, getD_nat hb2])
  have h1 := hr a
  have h2 := hr b
  have hv : Hid ((cfL r) (a : Int) (b : Int) = ((r.getD a 0 : Nat) : Int) - ((r.getD b 0 : Nat) : Int)) := rfl
  obtain ⟨ra, hra⟩ : ∃ n, r.getD a 0 = n := ⟨_, rfl⟩
  obtain ⟨rb, hrb⟩ : ∃ n, r.getD b 0 = n := ⟨_, rfl⟩
  rw [hra] at c1 h1 hv
  rw [hrb] at c2 h2 hv
  clear hra hrb hj hc hr
  have hw : IntKind.i64.wrap ((ra : Int) - (rb : Int)) = (ra : Int) - (rb : Int) := by rw [IntKind.wrap_i64]; omega
  go_enter Try.func78, Try.ntmps78
  go_wp2_with fail
  go_quiet (fail)
  go_wp2_with fail
  go_ret
  exact ⟨by rw [hv.out]; rfl, below_drewN (Below.refl _ _) _⟩
/-- strings that are made -/
def StrsAt (w : World) (B : Nat) (o : List ByteArray) : Prop := w.heap[B]? = some (.cells (o.map Value.string).toArray 9 (0, 0))
theorem StrsAt.lt {w : World} {B : Nat} {o : List ByteArray} (h : StrsAt w B o) : B < w.heap.size := (Array.getElem?_eq_some_iff.1 h).1
theorem StrsAt.set {w : World} {B : Nat} {o : List ByteArray} (h : StrsAt w B o) (s : Nat) (x : ByteArray) : StrsAt (w.setCell ⟨B, s, none⟩ (.string x)) B (o.set s x) := by
  unfold StrsAt at h ⊢
  rw [List.map_set]
  simp [World.setCell, Array.getElem?_modify, h]
theorem StrsAt.cells {w : World} {B : Nat} {o : List ByteArray} (h : StrsAt w B o) (s : Nat) (hs : s < o.length) : (∃ x, w.cell? ⟨B, s, none⟩ = some (.string x)) ∧ w.frozen? ⟨B, s, none⟩ = false := by
  unfold StrsAt at h
  exact ⟨⟨o[s], by simp [World.cell?, h, hs]⟩, by simp [World.frozen?, h]⟩
theorem made_strs (n : Nat) : madeCells #[Value.string ⟨#[]⟩] n = ((List.replicate n (⟨#[]⟩ : ByteArray)).map Value.string).toArray := by
  apply Array.ext
  · simp [madeCells]
  · intro i h1 h2
    simp [madeCells, Nat.mod_one]
theorem codesL_nil {r : List Nat} (h : coded r = []) : codesL r = List.replicate r.length ⟨#[]⟩ := by
  have e : ordC r = [] := by unfold ordC byKey; rw [h]; simp
  unfold codesL
  rw [e]; rfl
theorem ordC_perm {r : List Nat} (h : GoodLens r) : (ordC r).Perm (coded r) :=
  byKey_perm (fun s => r.getD s 0) r.length (coded r) fun s hs => ⟨of_decide_eq_true (List.mem_filter.1 hs).2, h.1 s⟩
def byteV (c : List UInt8) : List Value := c.map fun x : UInt8 => Value.int .u8 (x.toNat : Int)
/-- bytes in a row of the call's own -/
def CodeB (w : World) (base : Nat) (v : Value) (c : List UInt8) : Prop := w.ownsRow base 5 1 v c.length (byteV c)
theorem info_u8 : (Try.prog.info? 5).map (fun i => (i.zero, i.size, i.bytes)) = some (some (.int .u8 0), 1, 1) := by kernel_rfl
theorem ints_row {w : World} {base g cap : Nat} {l : List Nat} (h : w.ownsRow base 3 1 (.slice (some ⟨g, 0, none⟩) l.length cap) l.length (natV l)) (hg : g < w.heap.size) : RowI w g 0 (l.map fun s : Nat => (s : Int)) := by
  obtain ⟨F, hF, hFt, _, _, hf⟩ := own_fullG h
  refine ⟨hg, fun i x hx => ?_⟩
  rw [Nat.zero_add]
  refine ⟨own_cellsAt h i _ ?_, (own_thereG hf).2 i⟩
  rw [List.getElem?_map] at hx
  unfold natV
  rw [List.getElem?_map]
  cases hl : l[i]? with
  | none => rw [hl] at hx; cases hx
  | some s => rw [hl] at hx; injection hx with hx; subst hx; rfl
theorem StrsAt.below {w w' : World} {B M : Nat} {o : List ByteArray} (h : StrsAt w B o) (hb : Below M w w') (hM : B < M := by first | exact StrsAt.lt (by assumption) | omega) : StrsAt w' B o := (hb.block B hM).trans h
theorem own_setOne {w : World} {base e size n cap g : Nat} {xs : List Value} (h : w.ownsRow base e size (.slice (some ⟨g, 0, none⟩) n cap) n xs) (i : Nat) (u : Value) : (w.setCell ⟨g, i, none⟩ u).ownsRow base e size (.slice (some ⟨g, 0, none⟩) n cap) n (xs.set i u) := by
  have := (own_setCells [u] xs i w h).1
  simpa [World.setCells, setAll] using this
/-- the code, its last digits turned to 0 -/
def curC (c : List UInt8) (q : Nat) : List UInt8 := c.take q ++ List.replicate (c.length - q) 48
theorem curC_len (c : List UInt8) (q : Nat) (h : q ≤ c.length) : (curC c q).length = c.length := by simp [curC]; omega
theorem curC_all (c : List UInt8) : curC c c.length = c := by simp [curC]
theorem curC_at (c : List UInt8) (q : Nat) (h : q < c.length) : curC c (q + 1) = c.take q ++ c[q] :: List.replicate (c.length - (q + 1)) 48 := by
  unfold curC
  rw [List.take_succ_eq_append_getElem h, List.append_assoc]; rfl
theorem curC_set (c : List UInt8) (q : Nat) (h : q < c.length) (x : UInt8) : (curC c (q + 1)).set q x = c.take q ++ x :: List.replicate (c.length - (q + 1)) 48 := by
  have e : (c.take q).length = q := by simp; omega
  rw [curC_at c q h, List.set_append_right _ _ (by omega), e, Nat.sub_self]; rfl
theorem curC_step (c : List UInt8) (q : Nat) (h : q < c.length) : (curC c (q + 1)).set q 48 = curC c q := by
  rw [curC_set c q h]
  unfold curC
  rw [show c.length - q = (c.length - (q + 1)) + 1 by omega, List.replicate_succ]
theorem ones_rep {l : List UInt8} (h : Ones l) : l = List.replicate l.length 49 := List.eq_replicate_iff.2 ⟨rfl, h⟩
theorem curC_inc (c : List UInt8) (q : Nat) (h : q < c.length) (ho : Ones (c.drop (q + 1))) (hx : c[q] ≠ 49) : (curC c (q + 1)).set q 49 = incL c := by
  rw [curC_set c q h]
  have e : c = c.take q ++ c[q] :: List.replicate (c.length - (q + 1)) 49 := by
    have := ones_rep ho
    rw [List.length_drop] at this
    rw [← this, ← List.drop_eq_getElem_cons h, List.take_append_drop]
  conv => rhs; rw [e]
  rw [incL_at _ _ _ hx]
theorem curC_get (c : List UInt8) (q : Nat) (h : q < c.length) : (curC c (q + 1))[q]'(by rw [curC_len _ _ (by omega)]; exact h) = c[q] := by
  have e : (c.take q).length = q := by simp; omega
  simp only [curC_at c q h]
  rw [List.getElem_append_right (by omega)]
  simp [e]
theorem ones_drop {c : List UInt8} {q : Nat} (h : q < c.length) (ho : Ones (c.drop (q + 1))) (hx : c[q] = 49) : Ones (c.drop q) := by
  rw [List.drop_eq_getElem_cons h]
  intro y hy
  rcases List.mem_cons.1 hy with rfl | hy
  · exact hx
  · exact ho y hy
/-- the state of codes, behind the sort -/
structure CoAt (WS wr : World) (SB : Nat) (cv : Value) (c : List UInt8) (o : List ByteArray) : Prop where
  but : But WS.heap.size SB WS wr
  code : CodeB wr WS.heap.size cv c
  out : StrsAt wr SB o
  lt : SB < WS.heap.size
theorem CoAt.setB {WS wr : World} {SB g n cap : Nat} {c : List UInt8} {o : List ByteArray} (h : CoAt WS wr SB (.slice (some ⟨g, 0, none⟩) n cap) c o) (hn : n = c.length) (hg : WS.heap.size ≤ g) (i : Nat) (x : UInt8) (z : Int) (hz : z = (x.toNat : Int)) :
    CoAt WS (wr.setCell ⟨g, i, none⟩ (.int .u8 z)) SB (.slice (some ⟨g, 0, none⟩) n cap) (c.set i x) o := by
  subst hn hz
  have hl := h.lt
  refine ⟨h.but.trans (But.of_below ((Below.refl WS.heap.size wr).setCell (p := ⟨g, i, none⟩) hg _) (Nat.le_refl _)), ?_, (heap_setCell_other _ _ _ _ (by show SB ≠ g; omega)).trans h.out, hl⟩
  have := own_setOne h.code i (.int .u8 (x.toNat : Int))
  unfold CodeB byteV
  rw [List.length_set, List.map_set]
  exact this
theorem CoAt.push {WS wr w5 : World} {SB : Nat} {cv cv2 : Value} {c : List UInt8} {o : List ByteArray} {ob : Obj} (h : CoAt WS wr SB cv c o) (x : UInt8) (ho : w5.ownsRow WS.heap.size 5 1 cv2 (c.length + 1) (byteV c ++ [.int .u8 (x.toNat : Int)])) (hg : (wr.alloc ob).grownBy w5 cv.ownBlock) :
    CoAt WS w5 SB cv2 (c ++ [x]) o := by
  have hb : Below WS.heap.size wr w5 := ((Below.refl WS.heap.size wr).alloc h.but.size ob).grown hg (by have := h.but.size; simp; omega) (fun y hy => own_ge h.code y hy)
  refine ⟨h.but.trans (But.of_below hb (Nat.le_refl _)), ?_, (hb.block _ h.lt).trans h.out, h.lt⟩
  unfold CodeB
  rw [List.length_append, byteV, List.map_append]
  exact ho
theorem CoAt.setO {WS wr : World} {SB : Nat} {cv : Value} {c : List UInt8} {o : List ByteArray} (h : CoAt WS wr SB cv c o) (s : Nat) (x : ByteArray) : CoAt WS (wr.setCell ⟨SB, s, none⟩ (.string x)) SB cv c (o.set s x) :=
  ⟨h.but.setCell s _, ownsRow_setCell_other h.code (a := ⟨SB, s, none⟩) (fun e => by
    have := own_ge h.code _ e
    have := h.lt
    simp at *
    omega) _, h.out.set s x, h.lt⟩
theorem CoAt.cellB {WS wr : World} {SB g n cap : Nat} {c : List UInt8} {o : List ByteArray} (h : CoAt WS wr SB (.slice (some ⟨g, 0, none⟩) n cap) c o) (hn : n = c.length) (i : Nat) (hi : i < c.length) : wr.cell? ⟨g, i, none⟩ = some (.int .u8 ((c[i]).toNat : Int)) ∧ wr.frozen? ⟨g, i, none⟩ = false := by
  subst hn
  obtain ⟨F, _, _, _, _, hf⟩ := own_fullG h.code
  exact ⟨own_cellsAt h.code i _ (by simp [byteV, hi]), (own_thereG hf).2 i⟩
set_option maxHeartbeats 4000000 in
set_option maxRecDepth 100000 in
theorem codes_any (v : Value) (r : List Nat) (w : World) (h : Nats w v r) (hn : r.length ≤ 300) (hgl : GoodLens r) :
    Calls Try.prog 53 #[v] w fun e w' => ∃ SB : Nat, e = .returned (.tuple #[.slice (some ⟨SB, 0, none⟩) r.length r.length, .bool true]) ∧ StrsAt w' SB (codesL r) ∧ Below w.heap.size w w' := by
  have HN := hide h
  obtain ⟨hl, A, cap, rfl, hcap, hmax, hx⟩ := h
  unfold maxLen at hmax
  have HX := hide hx
  have HGL := hide hgl
  clear hx hl hgl
  obtain ⟨ip, hip, hpz, hps, hpb⟩ := info_parts info_int
  obtain ⟨iq, hiq, hqz, hqs, hqb⟩ := info_parts info_u8
  have hmk := run_make_row' (P := Try.prog) 22 9 (.string ⟨#[]⟩) 16 Try.underlying22 info_string rfl .i64 .i64 r.length (by omega) (by omega)
  have b1 := (Below.refl w.heap.size w).alloc (Nat.le_refl _) (.cells #[.slice A r.length cap] 52)
  have b2 := b1.alloc (by simp) (.cells (madeCells #[.string ⟨#[]⟩] r.length) 9)
  have x0 : (w.alloc (.cells #[.slice A r.length cap] 52)).cell? ⟨w.heap.size, 0, none⟩ = some (.slice A r.length cap) := by rw [World.cell?_alloc_new]; rfl
  have hbx : ((w.alloc (.cells #[.slice A r.length cap] 52)).alloc (.cells (madeCells #[.string ⟨#[]⟩] r.length) 9)).heap[w.heap.size]? = some (.cells #[.slice A r.length cap] 52 (0, 0)) := (heap_alloc_old _ _ (by simp)).trans (heap_alloc_new _ _)
  have hst : StrsAt ((w.alloc (.cells #[.slice A r.length cap] 52)).alloc (.cells (madeCells #[.string ⟨#[]⟩] r.length) 9)) (w.heap.size + 1) (List.replicate r.length ⟨#[]⟩) := by
    unfold StrsAt
    rw [made_strs]
    simpa using heap_alloc_new (w.alloc (.cells #[.slice A r.length cap] 52)) (.cells ((List.replicate r.length (⟨#[]⟩ : ByteArray)).map Value.string).toArray 9)
  have hz2 : ((w.alloc (.cells #[.slice A r.length cap] 52)).alloc (.cells (madeCells #[.string ⟨#[]⟩] r.length) 9)).heap.size = w.heap.size + 2 := by simp
  obtain ⟨w2, hw2⟩ : ∃ w2, w2 = (w.alloc (.cells #[.slice A r.length cap] 52)).alloc (.cells (madeCells #[.string ⟨#[]⟩] r.length) 9) := ⟨_, rfl⟩
  have x2 : w2.cell? ⟨w.heap.size, 0, none⟩ = some (.slice A r.length cap) := by rw [hw2, Lib.cell_of_heap hbx]; rfl
  go_enter Try.func53, Try.ntmps53
  go_wp2_with fail
  rw [← hw2] at b2 hbx hst hz2
  rw [← hw2]
  have HST := hide hst
  have HBX := hide hbx
  have HB2 := hide b2
  clear hst hbx b2 hmk b1 x0 hw2 x2
  go_loopw [5, 17] (fun v0 i wr => ∃ (k : Nat) (v : Value), v = v0 ∧ k ≤ r.length ∧ i = .int .i64 (k : Int) ∧ Hid (SyOwn wr w2.heap.size v (codedTo r k)) ∧ Hid (Below w2.heap.size w2 wr) ∧ Hid (codedTo r k = [] → v = .slice none 0 0)) (fun _ i _ => r.length - (intOf i).toNat)
  case atStart => exact ⟨0, _, rfl, Nat.zero_le _, rfl, hide (World.ownsRow_nil _ _ _ _), hide (Below.refl _ _), hide (fun _ => rfl)⟩
  case round =>
    obtain ⟨k, v, rfl, hk, rfl, hso, hbl, hni⟩ := hrel
    have x2 : wr.cell? ⟨w.heap.size, 0, none⟩ = some (.slice A r.length cap) := (hbl.out.cell (p := ⟨w.heap.size, 0, none⟩) (by show w.heap.size < w2.heap.size; omega)).trans (by rw [Lib.cell_of_heap HBX.out]; rfl)
    by_cases hlt : k < r.length
    · obtain ⟨b, o, rfl, hb, hj⟩ := HX.out (by omega)
      have cc : wr.cell? ⟨b, o + k, none⟩ = some (.int .i64 ((r.getD k 0 : Nat) : Int)) := ((HB2.out.trans (hbl.out.mono (by omega))).cell (p := ⟨b, o + k, none⟩) hb).trans (hj k _ (by simp [natV, hlt, getD_nat hlt]))
      clear hj
      have hst := codedTo_step r k
      obtain ⟨ck, hck⟩ : ∃ x, r.getD k 0 = x := ⟨_, rfl⟩
      rw [hck] at cc hst
      clear hck
      by_cases h0 : 0 < ck
      · rw [if_pos h0] at hst
        have h0' : (0 : Int) < (ck : Int) := by omega
        have HST2 := hide hst
        have hsl := codedTo_len r k
        obtain ⟨ts, hts⟩ : ∃ ts, codedTo r k = ts := ⟨_, rfl⟩
        rw [hts] at hso HST2 hsl hni
        have bw1 := (Below.refl wr.heap.size wr).alloc (Nat.le_refl _) (.cells #[.int .i64 (k : Int)] 3)
        have HOWN := hide (own_below (own_below hso.out (Below.refl _ wr)) bw1)
        have hsz := hbl.out.size
        have HPU : Hid (∀ w5, (wr.alloc (.cells #[.int .i64 (k : Int)] 3)).grownBy w5 v.ownBlock → Below w2.heap.size w2 w5) := hide (fun w5 hg => (hbl.out.alloc (by omega) _).grown hg (by simp; omega) (fun x hx => own_ge hso.out x hx))
        clear hst hso hts bw1 hbl hni
        go_wp2_with (at_builtin; refine wpList_append_own_at _ rfl _ _ 52 rfl w2.heap.size 3 ip _ 1 8 Try.underlying52 hip hpz hps hpb rfl (by decide) _ ts.length (natV ts) rfl HOWN.out ⟨wr.heap.size, 0, none⟩ 1 1 [.int .i64 (k : Int)] (by rfl) rfl (fun j u hu => by have := one_new wr (.int .i64 (k : Int)) 3 j u hu; simpa using this) (by simp [Value.oneCell']) (by unfold maxLen; omega) (by omega) (by simp; omega) ?_; intro vv w5 hown5 hgrow5 hnil5 hat5; have HP5 := hide (HPU.out _ hgrow5); have HOWN5 := hide hown5; clear hown5 hgrow5 hnil5 hat5)
        go_roundw
        case rel =>
          refine ⟨k + 1, _, rfl, by omega, by go_num, ?_, HP5, hide (fun e => ?_)⟩
          · rw [HST2.out]
            have := HOWN5.out
            unfold SyOwn
            rw [List.length_append, List.map_append]
            exact hide this
          · rw [HST2.out] at e
            exact absurd e (by simp)
        case measure => simp [intOf]; omega
      · rw [if_neg h0] at hst
        have h0' : ¬ ((0 : Int) < (ck : Int)) := by omega
        have h0'' : decide ((0 : Int) < (ck : Int)) = false := by simpa using h0'
        rw [← hst] at hso hni
        clear hst
        go_wp2_with fail
        go_roundw
        case rel => exact ⟨k + 1, _, rfl, by omega, by go_num, hso, hbl, hni⟩
        case measure => simp [intOf]; omega
    · obtain rfl : k = r.length := by omega
      have hso2 : Hid (SyOwn wr w2.heap.size v (coded r)) := hso
      by_cases hno : coded r = []
      · obtain rfl := hni.out hno
        have hsF : Hid (StrsAt wr (w.heap.size + 1) (codesL r)) := hide (by
          rw [codesL_nil hno]
          exact (hbl.out.block _ (by omega)).trans HST.out)
        have hbF : Hid (Below w.heap.size w wr) := hide (HB2.out.trans (hbl.out.mono (by omega)))
        go_wp2_with fail
        refine (sortStableINil_any _ _).mono ?_
        rintro e w' ⟨rfl, rfl⟩
        go_wp2_with fail
        refine wp_loop_rounds 1 ?_
        rw [rounds_succ]
        go_wp2_with fail
        go_ret2
        exact ⟨_, rfl, hsF.out.below (Below.refl _ _ |>.alloc (Nat.le_refl _) _), hbF.out.alloc hbF.out.size _⟩
      · obtain ⟨g, tc, rfl, hg, hgz, hgc, hgm⟩ := own_slice hso2.out (List.length_pos_iff.2 hno)
        have hrow := hide (ints_row hso2.out hgz)
        have hnv := hide (HN.out.below (HB2.out.trans (hbl.out.mono (by omega))))
        have hgoo := HGL.out.1
        have HLB := hide (codes1_any)
        have hcl : (coded r).length ≤ 300 := by have := codedTo_len r r.length; exact Nat.le_trans this hn
        have hsort := sortStableI_any (cfL r) (.pointer (some ⟨w.heap.size, 0, none⟩)) wr.heap.size g 0 tc (coded r).length _ wr hgz (Nat.le_refl _) hrow.out (by simp) hgc (by omega) (fun s hs => by
            obtain ⟨a, ha, rfl⟩ := List.mem_map.1 hs
            exact ⟨by omega, by
              have := List.mem_range.1 (List.mem_filter.1 ha).1
              show (a : Int) < (r.length : Int)
              omega⟩) (swo_cfL r) (fun x y w1 hx hy hb => by
            have hwz := HB2.out.size
            have hwz2 := hbl.out.size
            refine codes1_any x y w.heap.size _ r w1 ((hb.cell (p := ⟨w.heap.size, 0, none⟩) (by show w.heap.size < _; omega) (by show w.heap.size ≠ g; omega)).trans x2) ?_ hx hy (fun s => Nat.le_trans (hgoo s) (by omega))
            refine Rd.keep HN.out (Nat.le_trans hwz (Nat.le_trans hwz2 hb.size)) fun p hp => ?_
            exact (hb.cell (p := p) (by omega) (by omega)).trans ((HB2.out.trans (hbl.out.mono (by omega))).cell (p := p) hp))
        rw [ordC_ints r HGL.out] at hsort
        go_wp2_with fail
        refine hsort.mono ?_
        rintro e wS ⟨rfl, hrS, hbS⟩
        have hgN := hgz
        have hSB : StrsAt wS (w.heap.size + 1) (List.replicate r.length ⟨#[]⟩) := (hbS.block _ (by have := hbl.out.size; omega) (by omega)).trans ((hbl.out.block _ (by omega)).trans HST.out)
        have hbxS : wS.cell? ⟨w.heap.size, 0, none⟩ = some (.slice A r.length cap) := (hbS.cell (p := ⟨w.heap.size, 0, none⟩) (by show w.heap.size < _; have := hbl.out.size; omega) (by show w.heap.size ≠ g; omega)).trans x2
        have hm : (ordC r).length = (coded r).length := by
          have := (ordC_perm HGL.out).length_eq
          exact this
        have HSB := hide hSB
        have HBX2 := hide hbxS
        have HRS := hide hrS
        have HBS := hide hbS
        have HNW : Hid (w.heap.size + 2 ≤ w2.heap.size ∧ w2.heap.size ≤ wr.heap.size) := hide ⟨by omega, hbl.out.size⟩
        have hco0 : Hid (CoAt wS (wS.alloc (.cells #[] 5)) (w.heap.size + 1) (.slice (some ⟨wS.heap.size, 0, none⟩) 0 0) [] (List.replicate r.length ⟨#[]⟩)) := hide
          ⟨But.of_below ((Below.refl _ _).alloc (Nat.le_refl _) _) (Nat.le_refl _), ⟨rfl, .inr ⟨_, _, _, rfl, Nat.le_refl _, heap_alloc_new _ _, Nat.zero_le _, Nat.zero_le _, rfl, rfl⟩⟩, (heap_alloc_old _ _ hSB.lt).trans hSB, hSB.lt⟩
        have HNO : Hid (NoOver r (ordC r) []) := hide (noOver_good HGL.out)
        have HM := hide hm
        have hcl2 : (coded r).length ≤ tc := hgc
        clear hSB hbxS hrS hbS hm hsort hrow hnv hso hso2 hgoo HLB
        have hrow2 : ∀ k, k < (ordC r).length → True := fun _ _ => trivial
        clear hrow2
        go_wp2_with fail
        go_loopw [8, 35] (fun v0 i wx => ∃ (k : Nat) (v : Value) (c : List UInt8) (o : List ByteArray), v = v0 ∧ k ≤ (coded r).length ∧ i = .int .i64 (k : Int) ∧ Hid (CoAt wS wx (w.heap.size + 1) v c o) ∧ Hid (NoOver r ((ordC r).drop k) c) ∧ Hid (codeRun r ((ordC r).drop k) c o = codesL r) ∧ Hid (c = [] ↔ k = 0) ∧ o.length = r.length ∧ c.length ≤ 300) (fun _ i _ => (coded r).length - (intOf i).toNat)
        case atStart => exact ⟨0, _, [], _, rfl, Nat.zero_le _, rfl, hco0, HNO, hide rfl, hide ⟨fun _ => rfl, fun _ => rfl⟩, by simp, by simp⟩
        case round =>
          obtain ⟨k, cv, c, o, rfl, hk, rfl, hco, hnov, hrun, hc0, hol, hc300⟩ := hrel
          by_cases hlt : k < (coded r).length
          · have hkm : k < (ordC r).length := by rw [HM.out]; exact hlt
            obtain ⟨s, hs⟩ : ∃ s, (ordC r)[k] = s := ⟨_, rfl⟩
            have hdr : (ordC r).drop k = s :: (ordC r).drop (k + 1) := by rw [List.drop_eq_getElem_cons hkm, hs]
            have hsc : s ∈ coded r := (ordC_perm HGL.out).subset (by rw [← hs]; exact List.getElem_mem hkm)
            have hsr : s < r.length := List.mem_range.1 (List.mem_filter.1 hsc).1
            have hsn : 0 < r.getD s 0 := of_decide_eq_true (List.mem_filter.1 hsc).2
            have hsm : r.getD s 0 ≤ 300 := Nat.le_trans (HGL.out.1 s) hn
            obtain ⟨b, ob, rfl, hb, hj⟩ := HX.out (by omega)
            have hwz := HB2.out.size
            have HLAT : Hid (∀ wx v c o, CoAt wS wx (w.heap.size + 1) v c o → wx.cell? ⟨w.heap.size, 0, none⟩ = some (.slice (some ⟨b, ob, none⟩) r.length cap) ∧ wx.cell? ⟨b, ob + s, none⟩ = some (.int .i64 ((r.getD s 0 : Nat) : Int))) := hide (fun wx v c o h => by
              have e1 := HBS.out.size
              have e2 := HNW.out
              refine ⟨(h.but.cell (p := ⟨w.heap.size, 0, none⟩) (by show w.heap.size < _; omega) (by show w.heap.size ≠ _; omega)).trans HBX2.out, ?_⟩
              have hb' : b < w.heap.size := hb
              exact (h.but.cell (p := ⟨b, ob + s, none⟩) (by show b < _; omega) (by show b ≠ _; omega)).trans ((HBS.out.cell (p := ⟨b, ob + s, none⟩) (by show b < _; omega) (by show b ≠ _; omega)).trans (((HB2.out.trans (hbl.out.mono (by omega))).cell (p := ⟨b, ob + s, none⟩) hb).trans (hj s _ (by simp [natV, hsr, getD_nat hsr])))))
            have hgs : wr.cell? ⟨g, k, none⟩ = some (.int .i64 (s : Int)) := by
              have e1 := HBS.out.size
              have e2 := HNW.out
              refine (hco.out.but.cell (p := ⟨g, k, none⟩) (by show g < _; omega) (by show g ≠ _; omega)).trans ?_
              have := (HRS.out.2 k (s : Int) (by rw [List.getElem?_map, List.getElem?_eq_getElem hkm, hs]; rfl)).1
              rwa [Nat.zero_add] at this
            have hgF : g < wS.heap.size := Nat.lt_of_lt_of_le hgN HBS.out.size
            have HDR := hide hdr
            have HNOV : Hid ((c = [] ∨ ¬ Ones c) ∧ NoOver r ((ordC r).drop (k + 1)) (nextC c (r.getD s 0))) := hide (by have := hnov.out; rw [hdr] at this; exact this)
            have HRUN : Hid (codeRun r ((ordC r).drop (k + 1)) (nextC c (r.getD s 0)) (o.set s ⟨(nextC c (r.getD s 0)).toArray⟩) = codesL r) := hide (by have := hrun.out; rw [hdr] at this; exact this)
            obtain ⟨n, hn'⟩ : ∃ n, r.getD s 0 = n := ⟨_, rfl⟩
            rw [hn'] at HNOV HRUN HLAT hsn hsm
            clear hdr hs hn' hj hnov hrun hkm hsc
            go_upto_if 41 with (fail)
            go_cut [8, 11] from 41 to 63 (fun v0 _ wx => ∃ v : Value, v = v0 ∧ Hid (CoAt wS wx (w.heap.size + 1) v (if c = [] then [] else incL c) o))
            case first =>
              by_cases hk0 : k = 0
              · have hcn : c = [] := hc0.out.2 hk0
                have hk0' : ¬ ((0 : Int) < (k : Int)) := by omega
                have hk0'' : decide ((0 : Int) < (k : Int)) = false := by simpa using hk0'
                have HF : Hid (CoAt wS wr (w.heap.size + 1) cv (if c = [] then [] else incL c) o) := hide (by rw [if_pos hcn, ← hcn]; exact hco.out)
                clear hcn hk0
                go_wp2_with fail
                go_meet
                case rel => exact ⟨_, rfl, HF⟩
              · have hcn : c ≠ [] := fun e => hk0 (hc0.out.1 e)
                have hk0' : (0 : Int) < (k : Int) := by omega
                have hno := HNOV.out.1.resolve_left hcn
                have hcp : 0 < c.length := List.length_pos_iff.2 hcn
                obtain ⟨cb, cc, rfl, hcb, hcbz, hccap, hcm⟩ := own_slice hco.out.code hcp
                have HNO2 := hide hno
                have HCN := hide hcn
                clear hno hcn hk0
                go_wp2_with fail
                have HCO := hide (show CoAt wS wr (w.heap.size + 1) (.slice (some ⟨cb, 0, none⟩) c.length cc) (curC c c.length) o by rw [curC_all]; exact hco.out)
                have HCB := hide hcb
                clear hco hcb
                go_loopw [11] (fun j wx => ∃ q : Nat, q ≤ c.length ∧ j = .int .i64 ((q : Int) - 1) ∧ Hid (CoAt wS wx (w.heap.size + 1) (.slice (some ⟨cb, 0, none⟩) c.length cc) (curC c q) o) ∧ Hid (Ones (c.drop q))) (fun j _ => (intOf j + 1).toNat)
                case atStart => exact ⟨c.length, Nat.le_refl _, rfl, HCO, hide (by rw [List.drop_length]; intro x hx; cases hx)⟩
                case round =>
                  obtain ⟨q, hq, rfl, hcq, hoq⟩ := hrel
                  match q, hq, hcq, hoq with
                  | 0, hq, hcq, hoq => exact absurd (show Ones c from hoq.out) HNO2.out
                  | q + 1, hq, hcq, hoq =>
                    obtain ⟨x0, x1⟩ := hcq.out.cellB (curC_len c (q + 1) hq).symm q (by rw [curC_len _ _ hq]; omega)
                    rw [curC_get c q (by omega)] at x0
                    have hidx : (((q + 1 : Nat) : Int) - 1) = (q : Int) := by omega
                    rw [hidx]
                    have hqn : q < c.length := by omega
                    have hq0 : (0 : Int) ≤ (q : Int) := by omega
                    obtain ⟨y, hy⟩ : ∃ y, c[q] = y := ⟨_, rfl⟩
                    rw [hy] at x0
                    by_cases h49 : y = 49
                    · have HN1 : Hid (CoAt wS (wr.setCell ⟨cb, q, none⟩ (.int .u8 48)) (w.heap.size + 1) (.slice (some ⟨cb, 0, none⟩) c.length cc) (curC c q) o) := hide (by
                        rw [← curC_step c q hqn]
                        exact hcq.out.setB (curC_len _ _ hq).symm HCB.out q 48 48 rfl)
                      have HN2 : Hid (Ones (c.drop q)) := hide (ones_drop hqn hoq.out (by rw [hy, h49]))
                      subst h49
                      rw [show ((49 : UInt8).toNat : Int) = 49 from rfl] at x0
                      clear hy hidx
                      go_wp2_with fail
                      go_roundw
                      case rel => exact ⟨q, by omega, by go_num, HN1, HN2⟩
                      case measure => simp [intOf]
                    · have HN1 : Hid (CoAt wS (wr.setCell ⟨cb, q, none⟩ (.int .u8 49)) (w.heap.size + 1) (.slice (some ⟨cb, 0, none⟩) c.length cc) (if c = [] then [] else incL c) o) := hide (by
                        rw [if_neg HCN.out, ← curC_inc c q hqn hoq.out (by rw [hy]; exact h49)]
                        exact hcq.out.setB (curC_len _ _ hq).symm HCB.out q 49 49 rfl)
                      have hz : ¬ ((y.toNat : Int) = 49) := fun e => h49 (UInt8.toNat_inj.1 (by show y.toNat = 49; omega))
                      have hz2 : ((y.toNat : Int) == 49) = false := by simp; omega
                      obtain ⟨z, hyz⟩ : ∃ z, (y.toNat : Int) = z := ⟨_, rfl⟩
                      rw [hyz] at x0 hz hz2
                      clear hy h49 hidx hyz
                      go_wp2_with fail
                      go_meet
                      case rel => exact ⟨_, rfl, HN1⟩
            case rest =>
              obtain ⟨v, rfl, hco2⟩ := hcut
              have hnx : Hid (nextC c n = padC (if c = [] then [] else incL c) n) := hide rfl
              have hdl : (if c = [] then [] else incL c).length = c.length := by
                by_cases e : c = []
                · rw [if_pos e, e]
                · rw [if_neg e, incL_len]
              obtain ⟨d, hd⟩ : ∃ d, (if c = [] then [] else incL c) = d := ⟨_, rfl⟩
              rw [hd] at hco2 hnx hdl
              have HDL := hide hdl
              have hd300 : d.length ≤ 300 := by omega
              clear hd hdl hco
              go_wp2_with fail
              go_loopg [8] (n - d.length) (fun gh v0 wx => ∃ v : Value, v = v0 ∧ gh ≤ n - d.length ∧ Hid (CoAt wS wx (w.heap.size + 1) v (d ++ List.replicate (n - d.length - gh) 48) o))
              case atStart => exact ⟨_, rfl, Nat.le_refl _, hide (by rw [Nat.sub_self, List.replicate_zero, List.append_nil]; exact hco2.out)⟩
              case round =>
                obtain ⟨v, rfl, hgh, hcx⟩ := hrel
                obtain ⟨e, he⟩ : ∃ e, d ++ List.replicate (n - d.length - gk) 48 = e := ⟨_, rfl⟩
                rw [he] at hcx
                obtain ⟨TA, tc2, rfl⟩ := own_formI hcx.out.code
                obtain ⟨l1, l2⟩ := HLAT.out _ _ _ _ hcx.out
                by_cases h0 : gk = 0
                · subst h0
                  have hen : e = nextC c n := by rw [hnx.out, ← he]; rfl
                  have hel : n ≤ e.length := by rw [← he]; simp; omega
                  have hel2 : e.length ≤ 300 := by rw [← he]; simp; omega
                  obtain ⟨cb, cc, hv, hcb, hcbz, hccap, hcm⟩ := own_slice hcx.out.code (by omega)
                  injection hv with v1 v2 v3
                  subst v1 v3
                  have hback : (convert 100 9 (.slice (some ⟨cb, 0, none⟩) e.length tc2)).run Try.prog wr = .ok (.string ⟨e.toArray⟩) wr :=
                    run_convert_bytes_back (P := Try.prog) wr 100 9 5 ⟨cb, 0, none⟩ tc2 e Try.underlying100 Try.underlying5 Try.underlying9 (fun j hj => by
                      have := (hcx.out.cellB rfl j hj).1
                      have ea : Addr.add ⟨cb, 0, none⟩ j = ⟨cb, j, none⟩ := by unfold Addr.add; split <;> simp_all
                      rw [ea]; exact this)
                  obtain ⟨⟨y0, hy0⟩, y1⟩ := hcx.out.out.cells s (by omega)
                  have HN1 : Hid (CoAt wS (wr.setCell ⟨w.heap.size + 1, s, none⟩ (.string ⟨e.toArray⟩)) (w.heap.size + 1) (.slice (some ⟨cb, 0, none⟩) e.length tc2) e (o.set s ⟨e.toArray⟩)) := hide (hcx.out.setO s _)
                  rw [← hen] at HNOV HRUN
                  have hlt' : ¬ ((e.length : Int) < (n : Int)) := by omega
                  have hlt'' : decide ((e.length : Int) < (n : Int)) = false := by simpa using hlt'
                  have hol2 : (o.set s ⟨e.toArray⟩).length = r.length := by rw [List.length_set]; exact hol
                  have hene : Hid (e = [] ↔ k + 1 = 0) := hide ⟨fun h => by rw [h] at hel; simp at hel; omega, fun h => by omega⟩
                  have HOL := hide hol2
                  clear he hen hol hol2 hnx
                  go_wp2_with fail
                  go_roundw
                  case rel => exact ⟨k + 1, _, e, _, rfl, by omega, by go_num, HN1, hide HNOV.out.2, HRUN, hene, HOL.out, hel2⟩
                  case measure => simp [intOf]; omega
                · have hel : e.length < n := by rw [← he]; simp; omega
                  have hlt' : ((e.length : Int) < (n : Int)) := by omega
                  have bw1 := (Below.refl wr.heap.size wr).alloc (Nat.le_refl _) (.cells #[.int .u8 48] 5)
                  have HOWN := hide (own_below hcx.out.code bw1)
                  have HPU : Hid (∀ v2 w5, w5.ownsRow wS.heap.size 5 1 v2 (e.length + 1) (byteV e ++ [.int .u8 48]) → (wr.alloc (.cells #[.int .u8 48] 5)).grownBy w5 (Value.slice TA e.length tc2).ownBlock → CoAt wS w5 (w.heap.size + 1) v2 (d ++ List.replicate (n - d.length - (gk - 1)) 48) o) := hide (fun v2 w5 q1 q2 => by
                    have := hcx.out.push 48 q1 q2
                    rw [← he, List.append_assoc] at this
                    rw [show n - d.length - (gk - 1) = (n - d.length - gk) + 1 by omega, List.replicate_succ']
                    exact this)
                  have hsz := hcx.out.but.size
                  clear he hcx bw1 hnx
                  go_wp2_with (at_builtin; refine wpList_append_own_at _ rfl _ _ 100 rfl wS.heap.size 5 iq _ 1 1 Try.underlying100 hiq hqz hqs hqb rfl (by decide) _ e.length (byteV e) rfl HOWN.out ⟨wr.heap.size, 0, none⟩ 1 1 [.int .u8 48] (by rfl) rfl (fun j u hu => by have := one_new wr (.int .u8 48) 5 j u hu; simpa using this) (by simp [Value.oneCell']) (by unfold maxLen; omega) (by omega) (by simp; omega) ?_; intro vv w5 hown5 hgrow5 hnil5 hat5; have HP5 := hide (HPU.out _ _ hown5 hgrow5); clear hown5 hgrow5 hnil5 hat5)
                  go_roundg (gk - 1)
                  case measure => omega
                  case rel => exact ⟨_, rfl, by omega, HP5⟩
          · obtain rfl : k = (coded r).length := by omega
            have hfin : o = codesL r := by
              have := hrun.out
              rw [List.drop_eq_nil_of_le (by rw [HM.out]; exact Nat.le_refl _)] at this
              exact this
            have hst' := hco.out.out
            rw [hfin] at hst'
            have HST' := hide hst'
            have HBF : Hid (Below w.heap.size w wr) := hide (by
              have e1 := HBS.out.size
              have e2 := HNW.out
              exact (HB2.out.trans (hbl.out.mono (by omega))).trans ((HBS.out.below (M := w.heap.size) (by omega) (by omega)).trans (hco.out.but.below (by omega) (by omega))))
            clear hst' hfin
            go_wp2_with fail
            go_ret2
            exact ⟨_, rfl, HST'.out, HBF.out⟩
end Go.Proofs.Ytfjbdbdjhkmifaa
