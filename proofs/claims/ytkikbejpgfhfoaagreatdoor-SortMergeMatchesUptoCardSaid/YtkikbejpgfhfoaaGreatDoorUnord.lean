/- The first line that is not in order: the program's and the reference's. -/
import Derived.Test.YtkikbejpgfhfoaaGreatDoorSortedP
import Derived.Test.YtkikbejpgfhfoaaGreatDoorSorts
import Derived.Test.YtkikbejpgfhfoaaGreatDoorRefO5
set_option linter.unusedVariables false
set_option linter.unusedSimpArgs false
namespace Go.Pw
open Go.RowKit
def BadP (f : ByteArray → ByteArray → Int) (u : Bool) (a b : ByteArray) : Prop := 0 < f a b ∨ (f a b = 0 ∧ u = true)
/-- no line ahead of place i is out of order -/
def OkTo (f : ByteArray → ByteArray → Int) (u : Bool) (l : List ByteArray) (i : Nat) : Prop := ∀ (j : Nat) a b, 1 ≤ j → j < i → l[j - 1]? = some a → l[j]? = some b → ¬ BadP f u a b
/-- r tells the first line that is out of order -/
structure UnordIs (f : ByteArray → ByteArray → Int) (u : Bool) (l : List ByteArray) (r : Int) : Prop where
  hit : ∀ (i : Nat) a b, 1 ≤ i → OkTo f u l i → l[i - 1]? = some a → l[i]? = some b → BadP f u a b → r = (i : Int) + 1
  none : OkTo f u l l.length → r = 0
theorem OkTo.one (f : ByteArray → ByteArray → Int) (u : Bool) (l : List ByteArray) : OkTo f u l 1 := fun j a b h1 h2 => by omega
theorem OkTo.next {f : ByteArray → ByteArray → Int} {u : Bool} {l : List ByteArray} {i : Nat} {x y : ByteArray} (h : OkTo f u l i) (hx : l[i - 1]? = some x) (hy : l[i]? = some y) (hb : ¬ BadP f u x y) : OkTo f u l (i + 1) := fun j a b h1 h2 ha hb' => by
  rcases Nat.lt_or_eq_of_le (show j ≤ i by omega) with h3 | h3
  · exact h j a b h1 h3 ha hb'
  · subst h3
    rw [hx] at ha
    rw [hy] at hb'
    injection ha with ha
    injection hb' with hb'
    subst ha hb'; exact hb
theorem OkTo.over {f : ByteArray → ByteArray → Int} {u : Bool} {l : List ByteArray} {i : Nat} (h : OkTo f u l i) (hi : l.length ≤ i) : OkTo f u l l.length := fun j a b h1 h2 => h j a b h1 (by omega)
theorem unord_exists (f : ByteArray → ByteArray → Int) (u : Bool) (l : List ByteArray) : ∃ r, UnordIs f u l r := by
  have key : ∀ n, OkTo f u l n ∨ ∃ i a b, 1 ≤ i ∧ i < n ∧ OkTo f u l i ∧ l[i - 1]? = some a ∧ l[i]? = some b ∧ BadP f u a b := by
    intro n
    induction n with
    | zero => exact .inl (fun j a b h1 h2 => by omega)
    | succ n ih =>
      rcases ih with ih | ⟨i, a, b, h1, h2, h3⟩
      · by_cases hc : ∃ a b, 1 ≤ n ∧ l[n - 1]? = some a ∧ l[n]? = some b ∧ BadP f u a b
        · obtain ⟨a, b, h0, h1, h2, h3⟩ := hc
          exact .inr ⟨n, a, b, h0, by omega, ih, h1, h2, h3⟩
        · refine .inl (fun j a b h1 h2 ha hb hbad => ?_)
          rcases Nat.lt_or_eq_of_le (show j ≤ n by omega) with h3 | h3
          · exact ih j a b h1 h3 ha hb hbad
          · subst h3; exact hc ⟨a, b, h1, ha, hb, hbad⟩
      · exact .inr ⟨i, a, b, h1, by omega, h3⟩
  rcases key l.length with h | ⟨i, a, b, h1, h2, h3, h4, h5, h6⟩
  · exact ⟨0, fun i a b h1 h2 ha hb hbad => absurd hbad (h i a b h1 (List.getElem?_eq_some_iff.1 hb).1 ha hb), fun _ => rfl⟩
  · refine ⟨(i : Int) + 1, fun j a' b' g1 g2 ga gb gbad => ?_, fun h => absurd h6 (h i a b h1 h2 h4 h5)⟩
    have : i = j := by
      rcases Nat.lt_trichotomy i j with h | h | h
      · exact absurd h6 (g2 i a b h1 h h4 h5)
      · exact h
      · exact absurd gbad (h3 j a' b' g1 h ga gb)
    omega
end Go.Pw
namespace Go.Proofs.YtkikbejpgfhfoaaGreatDoor
open Go.RowKit Go.Pw
set_option maxHeartbeats 4000000 in
set_option maxRecDepth 100000 in
theorem unorderedR_any (o : Sp) (kv v : Value) (l : List ByteArray) (r : Int) (w : World) (hk : KeysIn w kv o.keys) (hg : ∀ k ∈ o.keys, k.good) (h : Strs w v l) (hsz : ∀ s ∈ l, s.size ≤ 1000000) (hlen : l.length ≤ 1000000) (HR : Hid (UnordIs (ordCmp o) o.unique l r)) :
    Calls Tryz.prog 12 #[spV o kv, v] w fun e w' => e = .returned (.int .i64 r) ∧ Below w.heap.size w w' := by
  obtain ⟨B, cb, rfl⟩ : ∃ B cb, kv = .slice B o.keys.length cb := by
    obtain ⟨_, A, cap, h, _⟩ := hk
    exact ⟨A, cap, h⟩
  obtain ⟨⟨_, A, cap, rfl, hcap, hmax, hx⟩, _⟩ := h
  have HX := hide hx
  have HZ := hide hsz
  have hB0 := ((Below.refl w.heap.size w).alloc (Nat.le_refl _) (.cells #[.string o.sep, .slice B o.keys.length cb, .bool o.reverse, .bool o.stable, .bool o.unique] 24))
  have HN0 : Hid (SpIn (w.alloc (.cells #[.string o.sep, .slice B o.keys.length cb, .bool o.reverse, .bool o.stable, .bool o.unique] 24)) w.heap.size 24 o (.slice B o.keys.length cb)) := hide (heap_alloc_new _ _)
  have HB0 := hide hB0
  have HK := hide hk
  have HG := hide hg
  clear hx hsz hB0 hk hg
  unfold spV
  go_enter Tryz.func12, Tryz.ntmps12
  go_wp2_with fail
  go_loopw [5] (fun i wr => ∃ k : Nat, 1 ≤ k ∧ (k ≤ l.length ∨ k = 1) ∧ i = .int .i64 (k : Int) ∧ Hid (OkTo (ordCmp o) o.unique l k) ∧ Hid (SpIn wr w.heap.size 24 o (.slice B o.keys.length cb)) ∧ Below w.heap.size w wr) (fun i _ => l.length - (intOf i).toNat)
  case atStart => exact ⟨1, Nat.le_refl _, .inr rfl, rfl, hide (OkTo.one _ _ _), HN0, HB0.out⟩
  case round =>
    obtain ⟨k, hk1, hk2, rfl, HO, HN, hb⟩ := hrel
    by_cases hlt : k < l.length
    · obtain ⟨bb, ob, rfl, hbb, hj⟩ := HX.out (by omega)
      have q1 : l[k - 1]? = some l[k - 1] := List.getElem?_eq_getElem (by omega)
      have q2 : l[k]? = some l[k] := List.getElem?_eq_getElem hlt
      have c1 : wr.cell? ⟨bb, ob + (k - 1), none⟩ = some (.string l[k - 1]) := (hb.cell (p := ⟨bb, ob + (k - 1), none⟩) hbb).trans (hj (k - 1) _ (by rw [List.getElem?_map, q1]; rfl))
      have c2 : wr.cell? ⟨bb, ob + k, none⟩ = some (.string l[k]) := (hb.cell (p := ⟨bb, ob + k, none⟩) hbb).trans (hj k _ (by rw [List.getElem?_map, q2]; rfl))
      have z1 := HZ.out _ (List.getElem_mem (show k - 1 < l.length by omega))
      have z2 := HZ.out _ (List.getElem_mem hlt)
      have HST := hide (fun h => HO.out.next q1 q2 h)
      have HBR := hide (fun h => HR.out.hit k _ _ hk1 HO.out q1 q2 h)
      obtain ⟨x, hx⟩ : ∃ x, l[k - 1] = x := ⟨_, rfl⟩
      obtain ⟨y, hy⟩ : ∃ y, l[k] = y := ⟨_, rfl⟩
      rw [hx] at c1 z1 HST HBR
      rw [hy] at c2 z2 HST HBR
      clear hj q1 q2 hx hy
      have hw1 : IntKind.i64.wrap ((k : Int) - 1) = (k : Int) - 1 := IntWalk.i64_in _ (by omega)
      have hw2 : ((k : Int) - 1).toNat = k - 1 := by omega
      have hw3 : (0 : Int) ≤ (k : Int) - 1 := by omega
      have hw4 : (k : Int) - 1 < (l.length : Int) := by omega
      have hw6 : (1 : Int) ≤ (k : Int) := by omega
      have hw7 : (k : Int) < (l.length : Int) := by omega
      obtain ⟨d0, d1, d2, d3, d4⟩ := HN.out.cells
      have hbz := hb.size
      have HCM : Hid (∀ w1 : World, w1.heap = wr.heap → Calls Tryz.prog 32 #[.agg #[.string o.sep, .slice B o.keys.length cb, .bool o.reverse, .bool o.stable, .bool o.unique], .string y, .string x] w1 fun e w' => e = .returned (.int .i64 (ordCmp o y x)) ∧ Below w1.heap.size w1 w') := hide (fun w1 e1 =>
        orderR_any o (.slice B o.keys.length cb) y x w1 (HK.out.keep (by rw [e1]; exact hbz) (fun p hp => (World.cell?_of_block (w := wr) (by rw [e1])).trans (hb.cell hp))) HG.out z2 z1)
      have hlts := HN.out.lt
      have HV : Hid (ordCmp o x y = ordCmp o x y) := hide rfl
      have hcs : (∃ _ : BadP (ordCmp o) o.unique x y, 0 < ordCmp o x y) ∨ (∃ _ : BadP (ordCmp o) o.unique x y, ordCmp o x y = 0 ∧ o.unique = true) ∨ (∃ _ : ¬ BadP (ordCmp o) o.unique x y, ordCmp o x y = 0 ∧ o.unique = false) ∨ (∃ _ : ¬ BadP (ordCmp o) o.unique x y, ordCmp o x y < 0) := by
        unfold BadP
        rcases Int.lt_trichotomy (ordCmp o x y) 0 with h | h | h
        · exact .inr (.inr (.inr ⟨by omega, h⟩))
        · cases hu : o.unique
          · exact .inr (.inr (.inl ⟨by simp [h], h, rfl⟩))
          · exact .inr (.inl ⟨.inr ⟨h, rfl⟩, h, rfl⟩)
        · exact .inl ⟨.inl h, h⟩
      clear HV
      have hfl := (ordCmp_cmp3 o).flip x y
      rcases hcs with ⟨hbad, p1⟩ | ⟨hbad, p1, p2⟩ | ⟨hok, p1, p2⟩ | ⟨hok, p1⟩
      · have HF := hide (HBR.out hbad)
        have p5 : ordCmp o y x < 0 := by omega
        have p3 : decide (ordCmp o y x < 0) = true := by simpa using p5
        clear hbad
        clear HST HBR hfl
        go_wp2_with fail
        go_region_held3 (fun w' => w'.cell? ⟨w.heap.size, 0, none⟩ = some (.string o.sep) ∧ w'.cell? ⟨w.heap.size, 1, none⟩ = some (.slice B o.keys.length cb) ∧ w'.cell? ⟨w.heap.size, 2, none⟩ = some (.bool o.reverse) ∧ w'.cell? ⟨w.heap.size, 3, none⟩ = some (.bool o.stable) ∧ w'.cell? ⟨w.heap.size, 4, none⟩ = some (.bool o.unique) ∧ w'.cell? ⟨bb, ob + (k - 1), none⟩ = some (.string x) ∧ w'.cell? ⟨bb, ob + k, none⟩ = some (.string y)) (go_keep) ((go_at_call 32; (with_reducible refine (HCM.out wr.drew rfl).mono ?_); rintro e w1 ⟨rfl, hbl⟩; have hbl' : Below wr.heap.size wr w1 := ⟨hbl.os, hbl.tape, hbl.output, hbl.size, hbl.block⟩; have HN1 := HN.out.below hbl' hlts; obtain ⟨e0, e1, e2, e3, e4⟩ := HN1.cells; have q1 : w1.cell? ⟨bb, ob + (k - 1), none⟩ = some (.string x) := (hbl'.cell (p := ⟨bb, ob + (k - 1), none⟩) (by show bb < _; omega)).trans c1; have q2 : w1.cell? ⟨bb, ob + k, none⟩ = some (.string y) := (hbl'.cell (p := ⟨bb, ob + k, none⟩) (by show bb < _; omega)).trans c2))
        have HN1H := hide HN1
        have HB1 := hide (hb.trans (hbl'.mono hbz))
        clear hbl hbl' HN1 e0 e1 e2 q1 q2 c1 c2 d0 d1 d2 d3 d4 hb
        go_wp2_with fail
        go_ret
        exact ⟨by rw [HF.out]; rfl, HB1.out⟩
      · have HF := hide (HBR.out hbad)
        have P1 : Hid (ordCmp o y x = 0) := hide (by omega)
        have P2 := hide p2
        clear hbad p1 p2
        clear HST HBR hfl
        go_wp2_with fail
        go_region_held3 (fun w' => w'.cell? ⟨w.heap.size, 0, none⟩ = some (.string o.sep) ∧ w'.cell? ⟨w.heap.size, 1, none⟩ = some (.slice B o.keys.length cb) ∧ w'.cell? ⟨w.heap.size, 2, none⟩ = some (.bool o.reverse) ∧ w'.cell? ⟨w.heap.size, 3, none⟩ = some (.bool o.stable) ∧ w'.cell? ⟨w.heap.size, 4, none⟩ = some (.bool o.unique) ∧ w'.cell? ⟨bb, ob + (k - 1), none⟩ = some (.string x) ∧ w'.cell? ⟨bb, ob + k, none⟩ = some (.string y)) (go_keep) ((go_at_call 32; (with_reducible refine (HCM.out wr.drew rfl).mono ?_); rintro e w1 ⟨rfl, hbl⟩; have hbl' : Below wr.heap.size wr w1 := ⟨hbl.os, hbl.tape, hbl.output, hbl.size, hbl.block⟩; have HN1 := HN.out.below hbl' hlts; obtain ⟨e0, e1, e2, e3, e4⟩ := HN1.cells; have q1 : w1.cell? ⟨bb, ob + (k - 1), none⟩ = some (.string x) := (hbl'.cell (p := ⟨bb, ob + (k - 1), none⟩) (by show bb < _; omega)).trans c1; have q2 : w1.cell? ⟨bb, ob + k, none⟩ = some (.string y) := (hbl'.cell (p := ⟨bb, ob + k, none⟩) (by show bb < _; omega)).trans c2))
        have HN1H := hide HN1
        have HB1 := hide (hb.trans (hbl'.mono hbz))
        clear hbl hbl' HN1 e0 e1 e2 q1 q2 c1 c2 d0 d1 d2 d3 d4 hb
        have p1 := P1.out
        have p2 := P2.out
        have p3 : ¬ ordCmp o y x < 0 := by omega
        have p4 : (ordCmp o y x == 0) = true := by simpa using p1
        go_wp2_with fail
        go_ret
        exact ⟨by rw [HF.out]; rfl, HB1.out⟩
      · have HF := hide (HST.out hok)
        have P1 : Hid (ordCmp o y x = 0) := hide (by omega)
        have P2 := hide p2
        clear hok p1 p2
        clear HST HBR hfl
        go_wp2_with fail
        go_region_held3 (fun w' => w'.cell? ⟨w.heap.size, 0, none⟩ = some (.string o.sep) ∧ w'.cell? ⟨w.heap.size, 1, none⟩ = some (.slice B o.keys.length cb) ∧ w'.cell? ⟨w.heap.size, 2, none⟩ = some (.bool o.reverse) ∧ w'.cell? ⟨w.heap.size, 3, none⟩ = some (.bool o.stable) ∧ w'.cell? ⟨w.heap.size, 4, none⟩ = some (.bool o.unique) ∧ w'.cell? ⟨bb, ob + (k - 1), none⟩ = some (.string x) ∧ w'.cell? ⟨bb, ob + k, none⟩ = some (.string y)) (go_keep) ((go_at_call 32; (with_reducible refine (HCM.out wr.drew rfl).mono ?_); rintro e w1 ⟨rfl, hbl⟩; have hbl' : Below wr.heap.size wr w1 := ⟨hbl.os, hbl.tape, hbl.output, hbl.size, hbl.block⟩; have HN1 := HN.out.below hbl' hlts; obtain ⟨e0, e1, e2, e3, e4⟩ := HN1.cells; have q1 : w1.cell? ⟨bb, ob + (k - 1), none⟩ = some (.string x) := (hbl'.cell (p := ⟨bb, ob + (k - 1), none⟩) (by show bb < _; omega)).trans c1; have q2 : w1.cell? ⟨bb, ob + k, none⟩ = some (.string y) := (hbl'.cell (p := ⟨bb, ob + k, none⟩) (by show bb < _; omega)).trans c2))
        have HN1H := hide HN1
        have HB1 := hide (hb.trans (hbl'.mono hbz))
        clear hbl hbl' HN1 e0 e1 e2 q1 q2 c1 c2 d0 d1 d2 d3 d4 hb
        have p1 := P1.out
        have p2 := P2.out
        have p3 : ¬ ordCmp o y x < 0 := by omega
        have p4 : (ordCmp o y x == 0) = true := by simpa using p1
        go_wp2_with fail
        go_roundw
        case rel => exact ⟨k + 1, by omega, by omega, by go_num, HF, HN1H, HB1.out⟩
        case measure => simp [intOf]; omega
      · have HF := hide (HST.out hok)
        have p3 : ¬ ordCmp o y x < 0 := by omega
        have p4 : (ordCmp o y x == 0) = false := by simp only [beq_eq_false_iff_ne, ne_eq]; omega
        clear hok
        clear HST HBR hfl
        go_wp2_with fail
        go_region_held3 (fun w' => w'.cell? ⟨w.heap.size, 0, none⟩ = some (.string o.sep) ∧ w'.cell? ⟨w.heap.size, 1, none⟩ = some (.slice B o.keys.length cb) ∧ w'.cell? ⟨w.heap.size, 2, none⟩ = some (.bool o.reverse) ∧ w'.cell? ⟨w.heap.size, 3, none⟩ = some (.bool o.stable) ∧ w'.cell? ⟨w.heap.size, 4, none⟩ = some (.bool o.unique) ∧ w'.cell? ⟨bb, ob + (k - 1), none⟩ = some (.string x) ∧ w'.cell? ⟨bb, ob + k, none⟩ = some (.string y)) (go_keep) ((go_at_call 32; (with_reducible refine (HCM.out wr.drew rfl).mono ?_); rintro e w1 ⟨rfl, hbl⟩; have hbl' : Below wr.heap.size wr w1 := ⟨hbl.os, hbl.tape, hbl.output, hbl.size, hbl.block⟩; have HN1 := HN.out.below hbl' hlts; obtain ⟨e0, e1, e2, e3, e4⟩ := HN1.cells; have q1 : w1.cell? ⟨bb, ob + (k - 1), none⟩ = some (.string x) := (hbl'.cell (p := ⟨bb, ob + (k - 1), none⟩) (by show bb < _; omega)).trans c1; have q2 : w1.cell? ⟨bb, ob + k, none⟩ = some (.string y) := (hbl'.cell (p := ⟨bb, ob + k, none⟩) (by show bb < _; omega)).trans c2))
        have HN1H := hide HN1
        have HB1 := hide (hb.trans (hbl'.mono hbz))
        clear hbl hbl' HN1 e0 e1 e2 q1 q2 c1 c2 d0 d1 d2 d3 d4 hb
        go_wp2_with fail
        go_roundw
        case rel => exact ⟨k + 1, by omega, by omega, by go_num, HF, HN1H, HB1.out⟩
        case measure => simp [intOf]; omega
    · have HF := hide (HR.out.none (HO.out.over (by omega)))
      go_wp2_with fail
      go_ret
      exact ⟨by rw [HF.out]; rfl, hb⟩
end Go.Proofs.YtkikbejpgfhfoaaGreatDoor
