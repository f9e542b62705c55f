/- A time is read along a format: was a time told. -/
import Derived.Test.YtifpmigghplmoaaGreatDoorZDrC
import Derived.Test.YtifpmigghplmoaaGreatDoorSort
import Derived.RangeFuncNested
import Derived.RangeFuncBound
import Derived.RangeFuncCalls
import Derived.RangeFuncLeaves
import Derived.Shelf.Abstract
import Derived.Shelf.RegionOpen
import Derived.OwnWalkIn
import Derived.TacticsInMore
import Derived.LoopNIn
import Derived.LoopIn
import Derived.RangeFuncFrom
import Derived.RangeFuncBox
import Derived.Laws.ResultCell
import Derived.Lib.Atoi
/- DReadI -/
set_option linter.unusedVariables false
set_option linter.unusedSimpArgs false
namespace Go.Pw
open Go.RowKit
theorem hCells_at : ∀ (hs : List (UInt8 × Int)) (k : Nat) (p : UInt8 × Int), hs[k]? = some p → (hCells hs)[k * 2]? = some (.int .u8 (p.1.toNat : Int)) ∧ (hCells hs)[k * 2 + 1]? = some (.int .i64 p.2)
  | [], k, p, h => by simp at h
  | q :: r, 0, p, h => by
    obtain rfl : q = p := by simpa using h
    exact ⟨rfl, rfl⟩
  | q :: r, k + 1, p, h => by
    have := hCells_at r k p (by simpa using h)
    rw [show (k + 1) * 2 = k * 2 + 2 by omega]
    exact this
/-- what was heard lies in a row that is read -/
def HsIn (w : World) (v : Value) (hs : List (UInt8 × Int)) : Prop := Rd w 2 v hs.length (hCells hs)
theorem HsIn.below {w w' : World} {v : Value} {hs : List (UInt8 × Int)} (h : HsIn w v hs) (hb : Below w.heap.size w w') : HsIn w' v hs := Rd.below h hb
end Go.Pw
namespace Go.Proofs.YtifpmigghplmoaaGreatDoor
open Go.RowKit Go.Pw
theorem isS_any (c : UInt8) (n : Int) (w : World) :
    Calls Tryz.prog 50 #[.agg #[.int .u8 (c.toNat : Int), .int .i64 n]] w fun e w' => e = .returned (.bool (c == 115)) ∧ Below w.heap.size w w' := by
  have HB := hide ((Below.refl w.heap.size w).alloc (Nat.le_refl _) (.cells #[.int .u8 (c.toNat : Int), .int .i64 n] 108))
  by_cases h : c = 115
  · obtain ⟨h1, h2⟩ := u8_eqb h
    have h3 : ((c.toNat : Int) == 115) = true := h2
    have HV : Hid ((c == 115) = true) := hide (by simp [h])
    clear h h1 h2
    go_enter Tryz.func50, Tryz.ntmps50
    go_wp2_with fail
    go_ret
    exact ⟨by rw [HV.out]; rfl, HB.out⟩
  · obtain ⟨h1, h2⟩ := u8_neb h
    have h3 : ((c.toNat : Int) == 115) = false := h2
    have HV : Hid ((c == 115) = false) := hide (by simp [h])
    clear h h1 h2
    go_enter Tryz.func50, Tryz.ntmps50
    go_wp2_with fail
    go_ret
    exact ⟨by rw [HV.out]; rfl, HB.out⟩
set_option maxHeartbeats 1000000 in
set_option maxRecDepth 100000 in
theorem indexS_any (v : Value) (hs : List (UInt8 × Int)) (w : World) (h : HsIn w v hs) (hn : hs.length ≤ 1000000) :
    Calls Tryz.prog 96 #[v, .func (.func 50) #[] #[]] w fun e w' => ∃ m : Int, e = .returned (.int .i64 m) ∧ (decide ((0 : Int) ≤ m) = hs.any (fun p => p.1 == 115)) ∧ Below w.heap.size w w' := by
  obtain ⟨_, A, cap, rfl, hcap, hmax, hx⟩ := h
  unfold maxLen at hmax
  have HX := hide hx
  clear hx
  go_enter Tryz.func96, Tryz.ntmps96
  go_wp2_with fail
  go_loopw [8] (fun i wr => ∃ k : Nat, k ≤ hs.length ∧ i = .int .i64 (k : Int) ∧ Hid ((hs.take k).any (fun p => p.1 == 115) = false) ∧ Hid (Below w.heap.size w wr)) (fun i _ => hs.length - (intOf i).toNat)
  case atStart => exact ⟨0, by omega, rfl, hide rfl, Below.refl _ _⟩
  case round =>
    obtain ⟨k, hk, rfl, HS, HB⟩ := hrel
    by_cases hlt : k < hs.length
    · obtain ⟨b, o, rfl, hb, hj⟩ := HX.out (by omega)
      obtain ⟨a1, a2⟩ := hCells_at hs k hs[k] (List.getElem?_eq_getElem hlt)
      have c0 : wr.cell? ⟨b, o + k * 2, none⟩ = some (.int .u8 (hs[k].1.toNat : Int)) := (HB.out.cell (p := ⟨b, o + k * 2, none⟩) hb).trans (hj _ _ a1)
      have c1 : wr.cell? ⟨b, o + k * 2 + 1, none⟩ = some (.int .i64 hs[k].2) := (HB.out.cell (p := ⟨b, o + k * 2 + 1, none⟩) hb).trans (hj (k * 2 + 1) _ a2)
      have HN : Hid ((hs.take (k + 1)).any (fun p => p.1 == 115) = (hs[k].1 == 115)) := hide (by rw [List.take_succ_eq_append_getElem hlt, List.any_append, HS.out]; simp)
      have HA : Hid ((hs[k].1 == 115) = true → hs.any (fun p => p.1 == 115) = true) := hide (fun h => List.any_eq_true.2 ⟨_, List.getElem_mem hlt, h⟩)
      obtain ⟨⟨r1, r2⟩, hr⟩ : ∃ x, hs[k] = x := ⟨_, rfl⟩
      rw [hr] at c0 c1 HN HA
      simp only at c0 c1 HN HA
      have HI := hide (isS_any r1 r2 wr)
      obtain ⟨t, ht⟩ : ∃ t, (r1 == 115) = t := ⟨_, rfl⟩
      rw [ht] at HN HA HI
      clear hj a1 a2 hr ht
      have hd : (k : Int) < (hs.length : Int) := by omega
      go_wp2_with fail
      refine HI.out.mono ?_
      rintro e w1 ⟨rfl, hb1⟩
      have HB1 := hide (HB.out.trans (hb1.mono HB.out.size))
      clear hb1 c0 c1
      cases t
      · go_wp2_with fail
        go_roundw
        case rel => exact ⟨k + 1, by omega, by go_num, HN, HB1⟩
        case measure => simp [intOf]; omega
      · go_wp2_with fail
        go_ret
        exact ⟨_, rfl, by rw [HA.out (by first | rfl | trivial)]; simp, HB1.out⟩
    · obtain rfl : k = hs.length := by omega
      have hd : ¬ ((hs.length : Int) < (hs.length : Int)) := by omega
      rw [List.take_length] at HS
      go_wp2_with fail
      go_ret
      exact ⟨_, rfl, by rw [HS.out]; rfl, HB.out⟩
theorem containsS_any (v : Value) (hs : List (UInt8 × Int)) (w : World) (h : HsIn w v hs) (hn : hs.length ≤ 1000000) :
    Calls Tryz.prog 49 #[v, .func (.func 50) #[] #[]] w fun e w' => e = .returned (.bool (hs.any (fun p => p.1 == 115))) ∧ Below w.heap.size w w' := by
  have HI := hide (indexS_any v hs w h hn)
  clear h
  go_enter Tryz.func49, Tryz.ntmps49
  go_wp2_with fail
  refine HI.out.mono ?_
  rintro e w1 ⟨m, rfl, hm, hb⟩
  have HM := hide hm
  have HB := hide hb
  clear hm hb
  go_wp2_with fail
  go_ret
  exact ⟨by rw [← HM.out]; rfl, HB.out⟩
end Go.Proofs.YtifpmigghplmoaaGreatDoor

/- DReadJ -/
set_option linter.unusedVariables false
set_option linter.unusedSimpArgs false
namespace Go.Pw
open Go.RowKit
/-- the places, from the last one down to m -/
def downTo (len m : Nat) : List Nat := (List.range' m (len - m)).reverse
theorem downTo_all (len : Nat) : downTo len len = [] := by unfold downTo; simp
theorem downTo_step {len m : Nat} (h : m + 1 ≤ len) : downTo len m = downTo len (m + 1) ++ [m] := by
  unfold downTo
  rw [show len - m = (len - (m + 1)) + 1 by omega, List.range'_succ, List.reverse_cons]
theorem downTo_len (len m : Nat) : (downTo len m).length = len - m := by unfold downTo; simp
abbrev Bk (hs : List (UInt8 × Int)) : Type := { j : Nat // j < hs.length }
def bkV (hs : List (UInt8 × Int)) (x : Bk hs) : Array Value := #[.int .i64 (x.1 : Int), .agg #[.int .u8 ((hs[x.1]'x.2).1.toNat : Int), .int .i64 (hs[x.1]'x.2).2]]
/-- what was heard lies in a row of one block -/
def HsAt (w : World) (A : Option Addr) (N X : Nat) (hs : List (UInt8 × Int)) : Prop := 0 < hs.length → ∃ g o, A = some ⟨g, o, none⟩ ∧ g < N ∧ g ≠ X ∧ ∀ j u, (hCells hs)[j]? = some u → w.cell? ⟨g, o + j, none⟩ = some u
end Go.Pw
namespace Go.Proofs.YtifpmigghplmoaaGreatDoor
open Go.RowKit Go.Pw Go.Shelf
attribute [local go_sem] Oper.semAt_some
set_option maxRecDepth 100000 in
set_option maxHeartbeats 2000000 in
theorem back1_in (F : Fence) (n' : Nat) (hf : F.fn 130) (hro : F.round = none) (hn' : 1 ≤ n') (l Bs n₀ X : Nat) (hs : List (UInt8 × Int)) (A : Option Addr) (cap : Nat) (hreach : hs.length ≤ 1000000) (hBs : Bs < n₀) (hXs : Bs ≠ X)
    (J Jx : List (Bk hs) → World → Prop)
    (hY : ∀ pre x W, J pre W → pre.length < hs.length → YieldAt F (n' - 1) Tryz.prog l (bkV hs x) W fun e W' =>
      (e = .returned (.bool true) ∧ J (pre ++ [x]) W' ∧ But n₀ X W W') ∨ (e = .returned (.bool false) ∧ Jx (pre ++ [x]) W'))
    (W : World) (h1 : W.cell? ⟨Bs, 0, none⟩ = some (.slice A hs.length cap)) (hrow : HsAt W A n₀ X hs) (h0 : J [] W) :
    CallsIn F n' Tryz.prog 130 #[.func (.yield l) #[] #[], .pointer (some ⟨Bs, 0, none⟩)] W fun e W' => (∃ v, e = .returned v) ∧
      ((∃ ys : List (Bk hs), ys.map Subtype.val = downTo hs.length 0 ∧ J ys W') ∨ (∃ pre : List (Bk hs), (∃ m, m ≤ hs.length ∧ pre.map Subtype.val = downTo hs.length m) ∧ Jx pre W')) := by
  refine callsIn_of_wp Tryz.func130 rfl hf ?_ hro
  simp only [Tryz.ntmps130, List.size_toArray, List.length_cons, List.length_nil, Nat.reduceAdd, Nat.reduceSub, Array.replicate_succ, Array.replicate_zero, List.push_toArray, List.append_toArray, List.nil_append, List.cons_append]
  gi_wp2
  gi_loopw [3] (fun i wr => ∃ (m : Nat) (pre : List (Bk hs)), m ≤ hs.length ∧ pre.map Subtype.val = downTo hs.length m ∧ i = .int .i64 ((m : Int) - 1) ∧ J pre wr ∧ But n₀ X W wr) (fun i _ => (intOf i + 1).toNat)
  case atStart => exact ⟨hs.length, [], Nat.le_refl _, by rw [downTo_all]; rfl, rfl, h0, But.refl _ _ _⟩
  case round =>
    obtain ⟨m, pre, hm, hp, rfl, hJs, hnx⟩ := hrel
    have c1 := (hnx.cell (p := ⟨Bs, 0, none⟩) hBs hXs).trans h1
    cases m with
    | zero =>
      gi_wp2
      go_end0
      exact ⟨⟨_, rfl⟩, .inl ⟨pre, hp, hJs⟩⟩
    | succ q =>
      have e1 : ((q + 1 : Nat) : Int) - 1 = (q : Int) := by omega
      rw [e1]
      have hpl : pre.length = hs.length - (q + 1) := by have := congrArg List.length hp; rw [downTo_len] at this; simpa using this
      obtain ⟨g, o, hA, hg, hgX, hj⟩ := hrow (by omega)
      subst hA
      obtain ⟨a1, a2⟩ := hCells_at hs q hs[q] (List.getElem?_eq_getElem (by omega))
      have d0 : wr.cell? ⟨g, o + q * 2, none⟩ = some (.int .u8 (hs[q].1.toNat : Int)) := (hnx.cell (p := ⟨g, o + q * 2, none⟩) hg hgX).trans (hj _ _ a1)
      have d1 : wr.cell? ⟨g, o + q * 2 + 1, none⟩ = some (.int .i64 hs[q].2) := (hnx.cell (p := ⟨g, o + q * 2 + 1, none⟩) hg hgX).trans (hj (q * 2 + 1) _ a2)
      obtain ⟨fn, tmps, assign, body, hy, hR⟩ := hY pre ⟨q, by omega⟩ wr hJs (by omega)
      dsimp only [bkV] at hy
      have g1 : (0 : Int) ≤ (q : Int) := by omega
      have g2 : (q : Int) < (hs.length : Int) := by omega
      have HP : Hid ((pre ++ [(⟨q, by omega⟩ : Bk hs)]).map Subtype.val = downTo hs.length q) := hide (by rw [List.map_append, hp]; exact (downTo_step (by omega)).symm)
      clear hp a1 a2 hj e1
      gi_wp2
      refine hR.mono ?_
      rintro e3 W3 (⟨rfl, hJ3, hk3⟩ | ⟨rfl, hJx3⟩)
      · clear hR hy d0 d1 c1
        gi_wp2
        go_roundw
        case rel => exact ⟨q, pre ++ [⟨q, by omega⟩], by omega, HP.out, rfl, hJ3, hnx.trans hk3⟩
        case measure => simp [intOf]
      · clear hR hy d0 d1 c1
        gi_wp2
        refine bodyPost_ret (results_none rfl _ _ _) rfl ?_
        exact ⟨⟨_, rfl⟩, .inr ⟨_, ⟨q, by omega, HP.out⟩, hJx3⟩⟩
/-- what slices.Backward returns, as an iterator -/
theorem back_stops (F : Fence) (n' : Nat) (hf : F.fn 130) (hro : F.round = none) (hn' : 1 ≤ n') (Bs n₀ X : Nat) (hs : List (UInt8 × Int)) (A : Option Addr) (cap : Nat) (hreach : hs.length ≤ 1000000) (hBs : Bs < n₀) (hXs : Bs ≠ X)
    (w : World) (hn₀ : n₀ ≤ w.heap.size) (h1 : w.cell? ⟨Bs, 0, none⟩ = some (.slice A hs.length cap)) (hrow : HsAt w A n₀ X hs) :
    SeqStopsK F n' Tryz.prog 130 #[.pointer (some ⟨Bs, 0, none⟩)] (bkV hs) (But n₀ X) (fun ys => ys.map Subtype.val = downTo hs.length 0) (fun pre => ∃ m, m ≤ hs.length ∧ pre.map Subtype.val = downTo hs.length m) hs.length w := fun l J Jx W hW hJ _ hY h0 => by
  refine (back1_in F n' hf hro hn' l Bs n₀ X hs A cap hreach hBs hXs J Jx hY W ((hW.cell (p := ⟨Bs, 0, none⟩) (by show Bs < _; omega)).trans h1) (fun h => ?_) h0).mono ?_
  · obtain ⟨g, o, hA, hg, hgX, hj⟩ := hrow h
    exact ⟨g, o, hA, hg, hgX, fun j u hu => (hW.cell (p := ⟨g, o + j, none⟩) (by show g < _; omega)).trans (hj j u hu)⟩
  · rintro e W' ⟨he, ⟨ys, hs, hj⟩ | ⟨pre, hm, hj⟩⟩
    · exact ⟨he, .inl ⟨ys, hs, hj⟩⟩
    · exact ⟨he, .inr ⟨pre, hm, hj⟩⟩
theorem backward_any (v : Value) (w : World) (hv : v.oneCell' = true) :
    Calls Tryz.prog 97 #[v] w fun e w' => e = .returned (.func (.func 130) #[] #[.pointer (some ⟨w.heap.size, 0, none⟩)]) ∧ w' = w.alloc (.cells #[v] 45) := by
  go_enter Tryz.func97, Tryz.ntmps97
  go_wp2_with fail
  go_ret
  exact ⟨rfl, rfl⟩
end Go.Proofs.YtifpmigghplmoaaGreatDoor

/- DReadK -/
set_option linter.unusedVariables false
set_option linter.unusedSimpArgs false
namespace Go.Pw
open Go.RowKit
def lastH (hs : List (UInt8 × Int)) (l : UInt8) (d : Int) : Int := hs.foldl (fun a p => if p.1 = l then p.2 else a) d
theorem lastH_miss {hs : List (UInt8 × Int)} {l : UInt8} {d : Int} (h : ∀ (j : Nat) (hj : j < hs.length), (hs[j]).1 ≠ l) : lastH hs l d = d := by
  have key : ∀ (g : List (UInt8 × Int)) (a : Int), (∀ p ∈ g, p.1 ≠ l) → lastH g l a = a := by
    intro g
    induction g with
    | nil => intro a _; rfl
    | cons p r ih =>
      intro a hg
      show lastH r l (if p.1 = l then p.2 else a) = a
      rw [if_neg (hg p (by simp))]
      exact ih a (fun x hx => hg x (List.mem_cons_of_mem _ hx))
  refine key hs d (fun p hp => ?_)
  obtain ⟨j, hj, rfl⟩ := List.getElem_of_mem hp
  exact h j hj
theorem lastH_hit {hs : List (UInt8 × Int)} {l : UInt8} {d : Int} {k : Nat} (hk : k < hs.length) (h : (hs[k]).1 = l) (hj : ∀ (j : Nat) (hj : j < hs.length), k < j → (hs[j]).1 ≠ l) : lastH hs l d = (hs[k]).2 := by
  have e : hs = hs.take k ++ (hs[k] :: hs.drop (k + 1)) := by rw [← List.drop_eq_getElem_cons hk, List.take_append_drop]
  have e2 : lastH hs l d = lastH (hs.drop (k + 1)) l (hs[k]).2 := by
    unfold lastH
    rw [show List.foldl (fun a (p : UInt8 × Int) => if p.1 = l then p.2 else a) d hs = List.foldl (fun a (p : UInt8 × Int) => if p.1 = l then p.2 else a) d (hs.take k ++ (hs[k] :: hs.drop (k + 1))) by rw [← e], List.foldl_append, List.foldl_cons, if_pos h]
  rw [e2]
  refine lastH_miss (fun j hjl => ?_)
  rw [List.length_drop] at hjl
  rw [List.getElem_drop]
  exact hj _ (by omega) (by omega)
theorem but_putObj {N X : Nat} {W : World} {l : Nat} {o' : Obj} (hl : N ≤ l) : But N X W (W.putObj l o') :=
  ⟨rfl, rfl, rfl, by simp [World.putObj], fun k hk _ => by simp only [World.putObj]; rw [Array.getElem?_setIfInBounds_ne (by omega)]⟩
/-- what was read of the row, in a box of two cells -/
def Box2 (W : World) (B : Nat) (t : TypeId) (p : UInt8 × Int) : Prop := W.heap[B]? = some (.cells #[.int .u8 (p.1.toNat : Int), .int .i64 p.2] t (0, 0))
theorem Box2.cells {W : World} {B : Nat} {t : TypeId} {p : UInt8 × Int} (h : Box2 W B t p) : W.cell? ⟨B, 0, none⟩ = some (.int .u8 (p.1.toNat : Int)) ∧ W.cell? ⟨B, 1, none⟩ = some (.int .i64 p.2) := by
  constructor <;> (rw [cell_of_row _ _ _ _ _ _ h]; rfl)
theorem downTo_mem {len m j : Nat} : j ∈ downTo len m ↔ m ≤ j ∧ j < m + (len - m) := by
  unfold downTo; rw [List.mem_reverse, List.mem_range'_1]
end Go.Pw
namespace Go.Proofs.YtifpmigghplmoaaGreatDoor
open Go.RowKit Go.Pw Go.Shelf
attribute [local go_sem] Oper.semAt_some
set_option maxRecDepth 100000 in
set_option maxHeartbeats 4000000 in
theorem last_any (b : Nat) (T : ByteArray) (at_ : Nat) (bad : Bool) (hv : Value) (hs : List (UInt8 × Int)) (c : UInt8) (d : Int) (w : World) (h : RdRow 47 b T at_ bad hv w) (hin : HsIn w hv hs) (hl : hs.length ≤ 1000000) :
    Calls Tryz.prog 51 #[.pointer (some ⟨b, 0, none⟩), .int .u8 (c.toNat : Int), .int .i64 d] w fun e w' => e = .returned (.int .i64 (lastH hs c d)) ∧ Below w.heap.size w w' := by
  have HR := hide h
  have hlt := h.lt
  obtain ⟨_, A, cap, rfl, hcap, hmax, hx⟩ := hin
  have HX := hide hx
  clear h hx
  refine (callsIn_wide (n := 8)).1 ?_
  refine callsIn_of_wp_marks Tryz.func51 rfl trivial ?_ rfl
  simp only [Tryz.ntmps51, List.size_toArray, List.length_cons, List.length_nil, Nat.reduceAdd, Nat.reduceSub, Array.replicate_succ, Array.replicate_zero, List.push_toArray, List.append_toArray, List.nil_append, List.cons_append]
  refine wpIn_wide.2 ?_
  obtain ⟨W0, hW0⟩ : ∃ W0, (w.alloc (.cells #[.int .u8 (c.toNat : Int)] 5)).alloc (.cells #[.int .i64 0] 3) = W0 := ⟨_, rfl⟩
  have HB0 : Hid (Below w.heap.size w W0) := hide (by rw [← hW0]; exact ((Below.refl _ _).alloc (Nat.le_refl _) _).alloc (by simp) _)
  have c3 : ((w.alloc (.cells #[.int .u8 (c.toNat : Int)] 5)).alloc (.cells #[.int .i64 0] 3)).cell? ⟨b, 3, none⟩ = some (.slice A hs.length cap) := by
    rw [hW0]; exact (HB0.out.cell (p := ⟨b, 3, none⟩) hlt).trans HR.out.cells.2.2.2
  have HBK := hide (fun W => backward_any (.slice A hs.length cap) W rfl)
  clear hW0 HB0
  go_wp2_with fail
  refine (HBK.out _).mono ?_
  rintro e w1 ⟨rfl, rfl⟩
  go_wp2_with fail
  obtain ⟨n, hn⟩ : ∃ n, w.heap.size = n := ⟨_, rfl⟩
  obtain ⟨W1, hW1⟩ : ∃ W1, ((w.alloc (.cells #[.int .u8 (c.toNat : Int)] 5)).alloc (.cells #[.int .i64 0] 3)).alloc (.cells #[.slice A hs.length cap] 45) = W1 := ⟨_, rfl⟩
  have hb1 : Below w.heap.size w W1 := by rw [← hW1]; exact (((Below.refl _ _).alloc (Nat.le_refl _) _).alloc (by simp) _).alloc (by simp; omega) _
  have hz1 : W1.heap.size = w.heap.size + 3 := by rw [← hW1]; simp
  have hx0 : Boxed W1 w.heap.size 5 (.int .u8 (c.toNat : Int)) := by rw [← hW1]; exact ((Boxed.new w _ _).alloc _).alloc _
  have hx1 : Boxed W1 (w.heap.size + 1) 3 (.int .i64 0) := by
    have h := (Boxed.new (w.alloc (.cells #[.int .u8 (c.toNat : Int)] 5)) 3 (.int .i64 0)).alloc (.cells #[.slice A hs.length cap] 45)
    rw [← hW1]; simpa using h
  have hx2 : W1.cell? ⟨w.heap.size + 1 + 1, 0, none⟩ = some (.slice A hs.length cap) := by
    have h := (Boxed.new ((w.alloc (.cells #[.int .u8 (c.toNat : Int)] 5)).alloc (.cells #[.int .i64 0] 3)) 45 (.slice A hs.length cap)).cell
    rw [← hW1]; simpa using h
  have hrow : HsAt W1 A (w.heap.size + 3) (w.heap.size + 1) hs := fun h0 => by
    obtain ⟨g, o, hA, hg, hj⟩ := HX.out h0
    exact ⟨g, o, hA, by omega, by omega, fun j u hu => (hb1.cell (p := ⟨g, o + j, none⟩) hg).trans (hj j u hu)⟩
  rw [hW1]
  rw [hn] at hb1 hz1 hx0 hx1 hx2 hrow ⊢
  have HNN : Hid (w.heap.size = n) := hide hn
  clear hW1 c3
  refine (wpIn_wide (n := 8)).1 ?_
  refine wpIn_rangeFunc_ownH (F := Fence.wide) (α := Bk hs) rfl (by omega) (gf := 130) (lb := #[.pointer (some ⟨n + 1 + 1, 0, none⟩)]) rfl trivial (enters_of Tryz.func130 (by kernel_rfl) rfl)
    (back_stops Fence.wide (8 - 1) trivial rfl (by omega) (n + 1 + 1) (n + 3) (n + 1) hs A cap hl (by omega) (by omega) W1 (by omega) hx2 hrow)
    (fun h1 h2 => But.trans h1 h2) (fun W l o o' hl h _ _ => but_putObj (by omega)) (Below.refl _ _) (fun _ => rfl)
    (fun pre W => (∀ y ∈ pre, (hs[y.1]'y.2).1 ≠ c) ∧ Boxed W n 5 (.int .u8 (c.toNat : Int)) ∧ Boxed W (n + 1) 3 (.int .i64 0) ∧ Below n w W ∧ n + 3 ≤ W.heap.size)
    (fun cd pre W => cd = .ret ∧ (∃ (q : List (Bk hs)) (x : Bk hs), pre = q ++ [x] ∧ (∀ y ∈ q, (hs[y.1]'y.2).1 ≠ c) ∧ (hs[x.1]'x.2).1 = c ∧ Boxed W (n + 1) 3 (.int .i64 (hs[x.1]'x.2).2)) ∧ Below n w W)
    ?hI ?hIx ⟨(fun y hy => by cases hy), hx0, hx1, hb1, by omega⟩
    (fun x a' W => ∃ Bx, n + 3 ≤ Bx ∧ Box2 W Bx 108 (hs[x.1]'x.2) ∧ a' = { tmps := #[.pointer (some ⟨b, 0, none⟩), .int .u8 (c.toNat : Int), .int .i64 d, undef, .pointer (some ⟨n, 0, none⟩), undef, .pointer (some ⟨n + 1, 0, none⟩), undef, .pointer (some ⟨Bx, 0, none⟩), .pointer (some ⟨b, 0, none⟩), .pointer (some ⟨b, 0, none⟩), .pointer (some ⟨b, 3, none⟩), .slice A hs.length cap, .func (.func 130) #[] #[.pointer (some ⟨n + 1 + 1, 0, none⟩)], .int .i64 (x.1 : Int), .agg #[.int .u8 ((hs[x.1]'x.2).1.toNat : Int), .int .i64 (hs[x.1]'x.2).2], undef, undef, undef, undef, undef, undef, undef], defers := [] })
    ?hAx ?assign ?body ?done ?stop
  case hI =>
    rintro pre W W' row ⟨h1, h2, h3, h4, h5⟩ hg hr
    refine ⟨h1, h2.kept hg (fun e => ?_), h3.kept hg (fun e => ?_), h4.grown hg (by omega) (fun q e => by have := (hr q e).1; omega), Nat.le_trans h5 hg.size⟩
    · have := (hr _ e.symm).1; omega
    · have := (hr _ e.symm).1; omega
  case hIx =>
    rintro cd pre W W' row ⟨h1, ⟨q, x, h2, h3, h4, h5⟩, h6⟩ hg hr
    refine ⟨h1, ⟨q, x, h2, h3, h4, h5.kept hg (fun e => ?_)⟩, h6.grown hg (by have h7 := h6.size; have h8 := HNN.out; omega) (fun q e => by have := (hr q e).1; omega)⟩
    have := (hr _ e.symm).1; omega
  case hAx =>
    rintro x a' s W W' row ⟨Bx, h1, h2, h3⟩ hg hr
    refine ⟨Bx, h1, ?_, h3⟩
    unfold Box2 at h2 ⊢
    rw [hg.block Bx (Array.getElem?_eq_some_iff.1 h2).1 (fun e => by
      obtain ⟨o, ho, hc⟩ := (hr _ e.symm).2
      rw [h2] at ho; cases ho; cases hc)]
    exact h2
  case assign =>
    rintro l pre x W K ⟨h1, h2, h3, h4, h5⟩ hK
    dsimp only [bkV] at hK ⊢
    gi_wp2
    exact hK _ _ ((KeepsOthers.alloc _ _).from _) (But.of_below ((Below.refl W.heap.size W).alloc (Nat.le_refl _) _) h5) ⟨h1, h2.alloc _, h3.alloc _, h4.alloc (by omega) _, by simp; omega⟩ ⟨W.heap.size, h5, heap_alloc_new W _, rfl⟩
  case body =>
    rintro l pre x a' W hlW hrec ⟨h1, h2, h3, h4, h5⟩ ⟨Bx, hBx, hbx, rfl⟩ hlen
    obtain ⟨d0, d1⟩ := hbx.cells
    have d2 := h2.cell
    have d3 := h3.cell
    have f3 := h3.frozen
    by_cases hc : (hs[x.1]'x.2).1 = c
    · obtain ⟨_, e1⟩ := u8_eqb hc
      gi_wp2
      simp only [ownPostG]
      exact ⟨(KeepsOthers.setCell _ _ _).from _, trivial, ⟨pre, x, rfl, h1, hc, h3.set _⟩, h4.setCell (p := ⟨n + 1, 0, none⟩) (by simp) _⟩
    · obtain ⟨_, e1⟩ := u8_neb hc
      gi_wp2
      simp only [ownPostG]
      exact ⟨KeepsFrom.refl _ _, But.refl _ _ _, fun y hy => by
        rcases List.mem_append.1 hy with hy | hy
        · exact h1 y hy
        · obtain rfl := List.mem_singleton.1 hy
          exact hc, h2, h3, h4, h5⟩
  case done =>
    rintro D ys W hD hys ⟨h1, h2, h3, h4, h5⟩ hK
    have HV : Hid (lastH hs c d = d) := hide (lastH_miss (fun j hj => by
      have hm : j ∈ ys.map Subtype.val := by rw [hys]; exact downTo_mem.2 (by omega)
      obtain ⟨y, hy, rfl⟩ := List.mem_map.1 hm
      exact h1 y hy))
    have d3 := h3.cell
    have f3 := h3.frozen
    go_wp2_with fail
    have hK' := (KeepsOthers.setCell W ⟨n + 1, 0, none⟩ (.int .i64 d)).same D _ hK rfl
    refine ⟨by simp, .inl ⟨_, _, rfl, run_takeDeferred hK', ?_⟩⟩
    have hc5 := cell_kept (World.cell?_setCell_same' W ⟨n + 1, 0, none⟩ (.int .i64 d) (by rw [d3]; rfl)) (grownBy_putObj' _ D (.deferred none)) (fun r e => by cases e; exact ⟨_, hK', rfl⟩)
    refine ⟨.int .i64 d, ?_, by rw [HV.out], HNN.out.symm ▸ (h4.setCell (p := ⟨n + 1, 0, none⟩) (by simp) _).trans (belowK_b (w := w) (Nat.le_of_eq HNN.out.symm) _ D _ _ (by rw [HNN.out]; omega) hK' rfl rfl)⟩
    simp [results, Tryz.f51, go_sem, hc5]
  case stop =>
    rintro D cd pre W hD ⟨m, hm, hpre⟩ ⟨rfl, ⟨q, x, hq, h1, h2, h3⟩, h4⟩ hK
    have HV : Hid (lastH hs c d = (hs[x.1]'x.2).2) := hide (lastH_hit x.2 h2 (fun j hj hlt => by
      have hxm : x.1 = m ∧ q.map Subtype.val = downTo hs.length (m + 1) := by
        rw [hq, List.map_append] at hpre
        have hmm : m + 1 ≤ hs.length := by
          rcases Nat.lt_or_ge m hs.length with h | h
          · exact h
          · have hl := congrArg List.length hpre
            rw [downTo_len] at hl
            simp at hl; omega
        rw [downTo_step hmm] at hpre
        have := List.append_inj' hpre rfl
        exact ⟨by simpa using this.2, this.1⟩
      have hmem : j ∈ q.map Subtype.val := by rw [hxm.2]; exact downTo_mem.2 (by omega)
      obtain ⟨y, hy, rfl⟩ := List.mem_map.1 hmem
      exact h1 y hy))
    gi_wp2
    refine ⟨by simp, .inl ⟨_, _, rfl, run_takeDeferred hK, ?_⟩⟩
    have hc5 := cell_kept h3.cell (grownBy_putObj' _ D (.deferred none)) (fun r e => by cases e; exact ⟨_, hK, rfl⟩)
    refine ⟨.int .i64 (hs[x.1]'x.2).2, ?_, by rw [HV.out], HNN.out.symm ▸ h4.trans (belowK_b (w := w) (Nat.le_of_eq HNN.out.symm) W D _ _ (by rw [HNN.out]; omega) hK rfl rfl)⟩
    simp [results, Tryz.f51, go_sem, hc5]
end Go.Proofs.YtifpmigghplmoaaGreatDoor

/- DReadS -/
set_option linter.unusedVariables false
namespace Go.Pw
open Go.RowKit
theorem decFrom_dig : ∀ (l : List UInt8) (acc : Nat), DigL l → Lib.decFrom acc l = some (acc * 10 ^ l.length + valL l)
  | [], acc, _ => by simp [Lib.decFrom, valL]
  | c :: l, acc, h => by
    have hc := h c List.mem_cons_self
    have ih := decFrom_dig l (acc * 10 + (c.toNat - 48)) (fun x hx => h x (List.mem_cons_of_mem _ hx))
    have e : Lib.digitVal c = some (c.toNat - 48) := by unfold Lib.digitVal; rw [if_pos hc]
    simp only [Lib.decFrom, e]
    rw [ih, valL, List.length_cons, Nat.pow_succ]
    congr 1
    rw [Nat.add_mul, Nat.mul_assoc, Nat.mul_comm 10, ← Nat.add_assoc]
theorem decNat_dig {l : List UInt8} (h : DigL l) (h0 : l ≠ []) : Lib.decNat l = some (valL l) := by
  unfold Lib.decNat
  rw [if_neg (by simpa using h0), decFrom_dig l 0 h]; simp
theorem atoi_dig {l : List UInt8} (h : DigL l) (h0 : l ≠ []) : Lib.atoi l = some (valL l : Int) := by
  obtain ⟨c, r, rfl⟩ := List.exists_cons_of_ne_nil h0
  have hc := h c List.mem_cons_self
  have n1 : (c == 45) = false := by
    apply beq_false_of_ne; rintro rfl; simp at hc
  have n2 : (c == 43) = false := by
    apply beq_false_of_ne; rintro rfl; simp at hc
  unfold Lib.atoi
  simp only [n1, n2, Bool.false_eq_true, if_false, decNat_dig h h0, Option.map_some]
theorem atoi_itoa (n : Int) : Lib.atoi (Lib.itoa n) = some n := by
  by_cases h : n < 0
  · obtain ⟨u, rfl⟩ : ∃ u : Nat, n = -(u : Int) := ⟨n.natAbs, by omega⟩
    obtain ⟨a1, a2, a3, a4⟩ := dec_ok u
    rw [Lib.itoa_neg u (by omega)]
    unfold Lib.atoi
    simp [decNat_dig a1 a4, a2]
  · obtain ⟨u, rfl⟩ : ∃ u : Nat, n = (u : Int) := ⟨n.toNat, by omega⟩
    obtain ⟨a1, a2, a3, a4⟩ := dec_ok u
    rw [Lib.itoa_nonneg, atoi_dig a1 a4, a2]
theorem atoi_fill {n : Int} (h : 0 ≤ n) (w : Nat) : Lib.atoi (fillN n w true) = some n := by
  obtain ⟨u, rfl⟩ : ∃ u : Nat, n = (u : Int) := ⟨n.toNat, by omega⟩
  obtain ⟨a1, a2, a3, a4⟩ := dec_ok u
  unfold fillN
  rw [if_neg (by simp), if_pos rfl, Lib.itoa_nonneg, atoi_dig, valL_pad, a2]
  · intro c hc
    rcases List.mem_append.1 hc with hc | hc
    · obtain ⟨_, rfl⟩ := List.mem_replicate.1 hc; simp
    · exact a1 c hc
  · intro e; exact a4 (List.append_eq_nil_iff.1 e).2
/-- the letters under which the program notes -/
def noteLs : List UInt8 := [89, 121, 109, 100, 72, 77, 83, 106, 117, 115]
theorem atoi_told {x : DMo} (hx : x.good) {c : UInt8} (hc : c ∈ noteLs) : Lib.atoi (dTold x c) = some (toldN x c) := by
  obtain ⟨⟨y0, y1⟩, ⟨m0, m1⟩, ⟨d0, d1⟩, ⟨h0, h1⟩, ⟨i0, i1⟩, ⟨s0, s1⟩, ⟨w0, w1⟩, ⟨j0, j1⟩, ⟨t0, t1⟩⟩ := hx
  unfold noteLs at hc
  simp only [List.mem_cons, List.not_mem_nil, or_false] at hc
  rcases hc with rfl | rfl | rfl | rfl | rfl | rfl | rfl | rfl | rfl | rfl
  · rw [show dTold x 89 = fillN x.y 4 true by simp [dTold], atoi_fill y0]; simp [toldN]
  · rw [show dTold x 121 = fillN (x.y % 100) 2 true by simp [dTold], atoi_fill (by omega)]; simp [toldN]
  · rw [show dTold x 109 = fillN x.m 2 true by simp [dTold], atoi_fill (by omega)]; simp [toldN]
  · rw [show dTold x 100 = fillN x.d 2 true by simp [dTold], atoi_fill d0]; simp [toldN]
  · rw [show dTold x 72 = fillN x.h 2 true by simp [dTold], atoi_fill h0]; simp [toldN]
  · rw [show dTold x 77 = fillN x.mi 2 true by simp [dTold], atoi_fill i0]; simp [toldN]
  · rw [show dTold x 83 = fillN x.s 2 true by simp [dTold], atoi_fill s0]; simp [toldN]
  · rw [show dTold x 106 = fillN x.day 3 true by simp [dTold], atoi_fill j0]; simp [toldN]
  · rw [show dTold x 117 = Lib.itoa x.wk by simp [dTold], atoi_itoa]; simp [toldN]
  · rw [show dTold x 115 = Lib.itoa x.t by simp [dTold], atoi_itoa]; simp [toldN]
theorem toldN_map (x : DMo) {c : UInt8} : toldN x (mapL c) = toldN x c := by
  unfold mapL
  by_cases h1 : c = 101
  · subst h1; simp [toldN]
  · by_cases h2 : c = 97
    · subst h2; simp [toldN]
    · by_cases h3 : c = 98
      · subst h3; simp [toldN]
      · rw [if_neg h1, if_neg h2, if_neg h3]
theorem lastH_nt (L : List It) (l : UInt8) (d : Int) : lastH (L.map nt) l d = lastOf L l d := by
  unfold lastH lastOf
  rw [List.foldl_map]
  rfl
theorem timedH_nt (L : List It) : (L.map nt).any (fun p => p.1 == 115) = timedL L := by
  unfold timedL
  rw [List.any_map]
  congr 1
  funext i
  simp only [Function.comp, nt, mapL]
  by_cases h1 : i.c = 101
  · rw [h1]; rfl
  · by_cases h2 : i.c = 97
    · rw [h2]; rfl
    · by_cases h3 : i.c = 98
      · rw [h3]; rfl
      · rw [if_neg h1, if_neg h2, if_neg h3]
theorem dec_len {u k : Nat} (h : u < 10 ^ k) (hk : 1 ≤ k) : (Lib.decDigits u).length ≤ k := by
  obtain ⟨a1, a2, a3, a4⟩ := dec_ok u
  rcases Nat.eq_zero_or_pos u with rfl | h0
  · rw [Lib.decDigits_one (by omega)]; simpa using hk
  · have hg := valL_ge (a3 h0) (List.length_pos_iff.2 a4)
    rw [a2] at hg
    have := (Nat.pow_lt_pow_iff_right (a := 10) (by omega)).1 (Nat.lt_of_le_of_lt hg h)
    omega
theorem itoa_len {n : Int} {k : Nat} (h0 : -(10 ^ k : Nat) < n) (h1 : n < (10 ^ k : Nat)) (hk : 1 ≤ k) : (Lib.itoa n).length ≤ k + 1 := by
  by_cases h : n < 0
  · obtain ⟨u, rfl⟩ : ∃ u : Nat, n = -(u : Int) := ⟨n.natAbs, by omega⟩
    rw [Lib.itoa_neg u (by omega), List.length_cons]
    have := dec_len (u := u) (k := k) (by omega) hk
    omega
  · obtain ⟨u, rfl⟩ : ∃ u : Nat, n = (u : Int) := ⟨n.toNat, by omega⟩
    rw [Lib.itoa_nonneg]
    have := dec_len (u := u) (k := k) (by omega) hk
    omega
theorem fill_len {n : Int} (h : 0 ≤ n) (h1 : n < 10000) {w : Nat} (hw : w ≤ 4) : (fillN n w true).length ≤ 9 := by
  have hl := itoa_len (n := n) (k := 4) (by omega) (by omega) (by omega)
  unfold fillN
  rw [if_neg (by simp; omega), List.length_append, List.length_replicate]
  omega
theorem told_len {x : DMo} (hx : x.good) (ht0 : -10000000000000 < x.t) (ht1 : x.t < 10000000000000) {c : UInt8} (hc : c ∈ noteLs) : (mkB (dTold x c)).size ≤ 18 := by
  obtain ⟨⟨y0, y1⟩, ⟨m0, m1⟩, ⟨d0, d1⟩, ⟨h0, h1⟩, ⟨i0, i1⟩, ⟨s0, s1⟩, ⟨w0, w1⟩, ⟨j0, j1⟩, ⟨t0, t1⟩⟩ := hx
  have key : (dTold x c).length ≤ 18 := by
    unfold noteLs at hc
    simp only [List.mem_cons, List.not_mem_nil, or_false] at hc
    rcases hc with rfl | rfl | rfl | rfl | rfl | rfl | rfl | rfl | rfl | rfl
    · rw [show dTold x 89 = fillN x.y 4 true by simp [dTold]]; exact Nat.le_trans (fill_len y0 (by omega) (by omega)) (by omega)
    · rw [show dTold x 121 = fillN (x.y % 100) 2 true by simp [dTold]]; exact Nat.le_trans (fill_len (by omega) (by omega) (by omega)) (by omega)
    · rw [show dTold x 109 = fillN x.m 2 true by simp [dTold]]; exact Nat.le_trans (fill_len (by omega) (by omega) (by omega)) (by omega)
    · rw [show dTold x 100 = fillN x.d 2 true by simp [dTold]]; exact Nat.le_trans (fill_len d0 (by omega) (by omega)) (by omega)
    · rw [show dTold x 72 = fillN x.h 2 true by simp [dTold]]; exact Nat.le_trans (fill_len h0 (by omega) (by omega)) (by omega)
    · rw [show dTold x 77 = fillN x.mi 2 true by simp [dTold]]; exact Nat.le_trans (fill_len i0 (by omega) (by omega)) (by omega)
    · rw [show dTold x 83 = fillN x.s 2 true by simp [dTold]]; exact Nat.le_trans (fill_len s0 (by omega) (by omega)) (by omega)
    · rw [show dTold x 106 = fillN x.day 3 true by simp [dTold]]; exact Nat.le_trans (fill_len j0 (by omega) (by omega)) (by omega)
    · rw [show dTold x 117 = Lib.itoa x.wk by simp [dTold]]; exact Nat.le_trans (itoa_len (k := 4) (by omega) (by omega) (by omega)) (by omega)
    · rw [show dTold x 115 = Lib.itoa x.t by simp [dTold]]; exact Nat.le_trans (itoa_len (k := 13) (by omega) (by omega) (by omega)) (by omega)
  rw [show (mkB (dTold x c)).size = (dTold x c).length from by unfold mkB; show (dTold x c).toArray.size = _; simp]
  exact key
end Go.Pw
