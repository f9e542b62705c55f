/- The walks of an order, fifth part: keys, compare. -/
import Derived.Test.YtifpmigghplmoaaGreatDoorFolded
set_option linter.unusedVariables false
set_option linter.unusedSimpArgs false
namespace Go.Pw
open Go.RowKit
theorem below_next {N M : Nat} {w0 w W w' : World} (h : Below N w0 w) (hb : Below M W w') (e1 : W.heap = w.heap) (e2 : W.os = w.os) (e3 : W.tape = w.tape) (e4 : W.output = w.output) (hM : N ≤ M) : Below N w0 w' :=
  h.trans (⟨by rw [← e2]; exact hb.os, by rw [← e3]; exact hb.tape, by rw [← e4]; exact hb.output, by rw [← e1]; exact hb.size, fun k hk => by rw [← e1]; exact hb.block k (by omega)⟩)
theorem KyAt.next {w W w' : World} {b M : Nat} {k : Ky} (h : Go.Proofs.YtifpmigghplmoaaGreatDoor.KyAt w b k) (hb : Below M W w') (e : W.heap = w.heap) (hM : b < M) : Go.Proofs.YtifpmigghplmoaaGreatDoor.KyAt w' b k := (hb.block b hM).trans (by rw [e]; exact h)
theorem cell_next {w W w' : World} {M : Nat} {p : Addr} {u : Value} (h : w.cell? p = some u) (hb : Below M W w') (e : W.heap = w.heap) (hM : p.block < M) : w'.cell? p = some u :=
  (hb.cell hM).trans (by rw [← h]; unfold World.cell?; rw [e])
/-- the cells of a key -/
def kyCells (k : Ky) : List Value := [.int .i64 k.first, .int .i64 k.firstB, .int .i64 k.last, .int .i64 k.lastB, .bool k.numeric, .bool k.reverse, .bool k.fold, .bool k.blanks]
def kysCells : List Ky → List Value
  | [] => []
  | k :: ks => kyCells k ++ kysCells ks
theorem kysCells_len : ∀ l : List Ky, (kysCells l).length = l.length * 8
  | [] => rfl
  | k :: l => by rw [kysCells, List.length_append, kysCells_len l]; simp [kyCells]; omega
theorem kysCells_at : ∀ (l : List Ky) (i j : Nat) (k : Ky), l[i]? = some k → j < 8 → (kysCells l)[i * 8 + j]? = (kyCells k)[j]?
  | x :: l, 0, j, k, h, hj => by
    simp at h; subst h
    rw [kysCells, List.getElem?_append_left (by simp [kyCells]; omega)]; simp
  | x :: l, i + 1, j, k, h, hj => by
    rw [kysCells, List.getElem?_append_right (by simp [kyCells]; omega)]
    have := kysCells_at l i j k (by simpa using h) hj
    rw [show (i + 1) * 8 + j - (kyCells x).length = i * 8 + j by simp [kyCells]; omega]
    exact this
  | [], i, j, k, h, hj => by simp at h
/-- the keys that a slice value reads -/
def KeysIn (w : World) (v : Value) (ks : List Ky) : Prop := Rd w 8 v ks.length (kysCells ks)
theorem KeysIn.below {w w' : World} {v : Value} {ks : List Ky} (h : KeysIn w v ks) (hb : Below w.heap.size w w') : KeysIn w' v ks := Rd.below h hb
theorem KeysIn.cells {w : World} {b o n cap i : Nat} {ks : List Ky} {k : Ky} (hj : ∀ j u, (kysCells ks)[j]? = some u → w.cell? ⟨b, o + j, none⟩ = some u) (hk : ks[i]? = some k) :
    w.cell? ⟨b, o + i * 8, none⟩ = some (.int .i64 k.first) ∧ w.cell? ⟨b, o + i * 8 + 1, none⟩ = some (.int .i64 k.firstB) ∧ w.cell? ⟨b, o + i * 8 + 2, none⟩ = some (.int .i64 k.last) ∧ w.cell? ⟨b, o + i * 8 + 3, none⟩ = some (.int .i64 k.lastB)
    ∧ w.cell? ⟨b, o + i * 8 + 4, none⟩ = some (.bool k.numeric) ∧ w.cell? ⟨b, o + i * 8 + 5, none⟩ = some (.bool k.reverse) ∧ w.cell? ⟨b, o + i * 8 + 6, none⟩ = some (.bool k.fold) ∧ w.cell? ⟨b, o + i * 8 + 7, none⟩ = some (.bool k.blanks) := by
  have h : ∀ j u, j < 8 → (kyCells k)[j]? = some u → w.cell? ⟨b, o + i * 8 + j, none⟩ = some u := fun j u h8 hu => by
    have := hj (i * 8 + j) u (by rw [kysCells_at ks i j k hk h8]; exact hu)
    rw [← Nat.add_assoc] at this; exact this
  exact ⟨h 0 _ (by omega) rfl, h 1 _ (by omega) rfl, h 2 _ (by omega) rfl, h 3 _ (by omega) rfl, h 4 _ (by omega) rfl, h 5 _ (by omega) rfl, h 6 _ (by omega) rfl, h 7 _ (by omega) rfl⟩
theorem kyAt_cells {w : World} {b : Nat} {k : Ky} (h : Go.Proofs.YtifpmigghplmoaaGreatDoor.KyAt w b k) :
    w.cell? ⟨b, 0, none⟩ = some (.int .i64 k.first) ∧ w.cell? ⟨b, 1, none⟩ = some (.int .i64 k.firstB) ∧ w.cell? ⟨b, 2, none⟩ = some (.int .i64 k.last) ∧ w.cell? ⟨b, 3, none⟩ = some (.int .i64 k.lastB)
    ∧ w.cell? ⟨b, 4, none⟩ = some (.bool k.numeric) ∧ w.cell? ⟨b, 5, none⟩ = some (.bool k.reverse) ∧ w.cell? ⟨b, 6, none⟩ = some (.bool k.fold) ∧ w.cell? ⟨b, 7, none⟩ = some (.bool k.blanks) := by
  refine ⟨?_, ?_, ?_, ?_, ?_, ?_, ?_, ?_⟩ <;> (rw [Lib.cell_of_heap h]; rfl)
theorem keyOf_size (k : Ky) (line sep : ByteArray) : (keyOf k line sep).size ≤ line.size := by
  unfold keyOf
  split
  · exact Nat.zero_le _
  · rw [ByteArray.size_extract]; omega
theorem fnz3_range {A B C : Int} (h1 : -1 ≤ A ∧ A ≤ 1) (h2 : -1 ≤ B ∧ B ≤ 1) (h3 : -1 ≤ C ∧ C ≤ 1) : -1 ≤ firstNZ [A, B, C] ∧ firstNZ [A, B, C] ≤ 1 := by
  unfold firstNZ; split
  · unfold firstNZ; split
    · unfold firstNZ; split
      · simp [firstNZ]
      · exact h3
    · exact h2
  · exact h1
theorem cmpNum_range (x y : Nm) : -1 ≤ cmpNum x y ∧ cmpNum x y ≤ 1 := by
  have := fnz3_range (ci_range x.whole.length y.whole.length) (cb_range x.whole y.whole) (cb_range x.part y.part)
  unfold cmpNum
  split
  · split <;> omega
  · split <;> omega
end Go.Pw
namespace Go.Proofs.YtifpmigghplmoaaGreatDoor
open Go.RowKit Go.Pw
/-- an order as a value -/
def spV (o : Sp) (ks : Value) : Value := .agg #[.string o.sep, ks, .bool o.reverse, .bool o.stable, .bool o.unique]

set_option maxHeartbeats 2000000 in
set_option maxRecDepth 100000 in
theorem keys_any (o : Sp) (kv : Value) (a b : ByteArray) (w : World) (hk : KeysIn w kv o.keys) (hg : ∀ k ∈ o.keys, k.good) (ha : a.size ≤ 1000000) (hb : b.size ≤ 1000000) :
    Calls Tryz.prog 108 #[spV o kv, .string a, .string b] w fun e w' => e = .returned (.int .i64 (keysCmp o a b)) ∧ Below w.heap.size w w' := by
  obtain ⟨sep, keys, rv, st, un⟩ := o
  obtain ⟨_, A, cap, rfl, hcap, hmax, hx⟩ := hk
  unfold maxLen at hmax
  have HX := hide hx
  have HG := hide hg
  clear hx hg
  unfold spV
  dsimp only at HX HG hcap hmax ⊢
  have HB0 := hide ((Below.refl w.heap.size w).alloc (Nat.le_refl _) (.cells #[.string sep, .slice A keys.length cap, .bool rv, .bool st, .bool un] 124))
  go_enter Tryz.func108, Tryz.ntmps108
  go_wp2_with fail
  have hW1 : (w.alloc (.cells #[.string sep, .slice A keys.length cap, .bool rv, .bool st, .bool un] 124)).cell? ⟨w.heap.size, 0, none⟩ = some (.string sep) := by simp
  obtain ⟨W1, hWW⟩ : ∃ W1, w.alloc (.cells #[.string sep, .slice A keys.length cap, .bool rv, .bool st, .bool un] 124) = W1 := ⟨_, rfl⟩
  have hz1 : W1.heap.size = w.heap.size + 1 := by rw [← hWW]; simp
  rw [hWW] at HB0 hW1 ⊢
  have HC0 := hide hW1
  have HZ1 := hide hz1
  clear hWW hW1 hz1
  go_loopw [16] (fun i wr => ∃ k : Nat, k ≤ keys.length ∧ i = .int .i64 (k : Int) ∧ Below W1.heap.size W1 wr ∧ Hid (keysCmp ⟨sep, keys, rv, st, un⟩ a b = firstNZ ((keys.drop k).map (keyCmp sep a b)))) (fun i _ => keys.length - (intOf i).toNat)
  case atStart => exact ⟨0, by omega, rfl, Below.refl _ _, hide rfl⟩
  case round =>
    obtain ⟨k, hkn, rfl, hbw, HV⟩ := hrel
    by_cases hlt : k < keys.length
    · obtain ⟨g, o, rfl, hgl, hj⟩ := HX.out (by omega)
      have hzz := hbw.size
      rw [HZ1.out] at hzz
      have hj' : ∀ j u, (kysCells keys)[j]? = some u → wr.cell? ⟨g, o + j, none⟩ = some u := fun j u hu => (hbw.cell (p := ⟨g, o + j, none⟩) (by rw [HZ1.out]; show g < _; omega)).trans ((HB0.out.cell (p := ⟨g, o + j, none⟩) hgl).trans (hj j u hu))
      have hK := List.getElem?_eq_getElem hlt
      have hgd := HG.out _ (List.getElem_mem hlt)
      obtain ⟨c0, c1, c2, c3, c4, c5, c6, c7⟩ := KeysIn.cells (n := 0) (cap := 0) hj' hK
      obtain ⟨K, hKK⟩ : ∃ K, keys[k] = K := ⟨_, rfl⟩
      have HM := hide (fun (e : keyCmp sep a b K = 0) => fnz_miss (f := keyCmp sep a b) HV hlt (by rw [hKK]; exact e))
      have HH := hide (fun (e : ¬ keyCmp sep a b K = 0) => fnz_hit (f := keyCmp sep a b) HV hlt (by rw [hKK]) e)
      rw [hKK] at hgd c0 c1 c2 c3 c4 c5 c6 c7
      clear hj hj' hK hKK
      obtain ⟨X, hX⟩ : ∃ X, Pw.keyOf K a sep = X := ⟨_, rfl⟩
      obtain ⟨Y, hY⟩ : ∃ Y, Pw.keyOf K b sep = Y := ⟨_, rfl⟩
      have hXs : X.size ≤ 1000000 := by rw [← hX]; exact Nat.le_trans (keyOf_size _ _ _) ha
      have hYs : Y.size ≤ 1000000 := by rw [← hY]; exact Nat.le_trans (keyOf_size _ _ _) hb
      have HKA := hide (fun W => key_any K a sep W hgd ha)
      have HKB := hide (fun W => key_any K b sep W hgd hb)
      simp only [hX] at HKA
      simp only [hY] at HKB
      have HR : Hid (keyCmp sep a b K = if K.reverse then -rawCmp K X Y else rawCmp K X Y) := by
        show _ = _
        unfold keyCmp; rw [hX, hY]
      clear hX hY hgd
      obtain ⟨f1, f2, l1, l2, nu, re, fo, bl⟩ := K
      unfold kyV at HKA HKB
      dsimp only at HKA HKB c0 c1 c2 c3 c4 c5 c6 c7
      have hnw := heap_alloc_new wr (.cells #[.int .i64 f1, .int .i64 f2, .int .i64 l1, .int .i64 l2, .bool nu, .bool re, .bool fo, .bool bl] 70)
      have KA : Hid (KyAt (wr.alloc (.cells #[.int .i64 f1, .int .i64 f2, .int .i64 l1, .int .i64 l2, .bool nu, .bool re, .bool fo, .bool bl] 70)) wr.heap.size ⟨f1, f2, l1, l2, nu, re, fo, bl⟩) := hide hnw
      have BW : Hid (Below W1.heap.size W1 (wr.alloc (.cells #[.int .i64 f1, .int .i64 f2, .int .i64 l1, .int .i64 l2, .bool nu, .bool re, .bool fo, .bool bl] 70))) := hide (hbw.alloc hbw.size _)
      have SC : Hid ((wr.alloc (.cells #[.int .i64 f1, .int .i64 f2, .int .i64 l1, .int .i64 l2, .bool nu, .bool re, .bool fo, .bool bl] 70)).cell? ⟨w.heap.size, 0, none⟩ = some (.string sep)) := hide ((BW.out.cell (p := ⟨w.heap.size, 0, none⟩) (by rw [HZ1.out]; simp)).trans HC0.out)
      have qs := SC.out
      have hne : w.heap.size ≠ wr.heap.size := by omega
      have HSZ := hide hzz
      clear hnw
      go_wp2_with fail
      go_region_held3 (fun w' => w'.cell? ⟨w.heap.size, 0, none⟩ = some (.string sep) ∧ w'.cell? ⟨wr.heap.size, 0, none⟩ = some (.int .i64 f1) ∧ w'.cell? ⟨wr.heap.size, 1, none⟩ = some (.int .i64 f2) ∧ w'.cell? ⟨wr.heap.size, 2, none⟩ = some (.int .i64 l1) ∧ w'.cell? ⟨wr.heap.size, 3, none⟩ = some (.int .i64 l2) ∧ w'.cell? ⟨wr.heap.size, 4, none⟩ = some (.bool nu) ∧ w'.cell? ⟨wr.heap.size, 5, none⟩ = some (.bool re) ∧ w'.cell? ⟨wr.heap.size, 6, none⟩ = some (.bool fo) ∧ w'.cell? ⟨wr.heap.size, 7, none⟩ = some (.bool bl)) (go_keep)
        (first
          | (go_at_call 142; (with_reducible refine (HKA.out _).mono ?_); rintro e w' ⟨rfl, hbl⟩; have SC := hide (cell_next SC.out hbl rfl (by have := BW.out.size; rw [HZ1.out] at this; show w.heap.size < _; exact this)); have BW := hide (below_next BW.out hbl rfl rfl rfl rfl BW.out.size); have KA := hide (KyAt.next KA.out hbl rfl KA.out.lt); clear hbl; have qs := SC.out; obtain ⟨q0, q1, q2, q3, q4, q5, q6, q7⟩ := kyAt_cells KA.out; dsimp only at q0 q1 q2 q3 q4 q5 q6 q7)
          | (go_at_call 142; (with_reducible refine (HKB.out _).mono ?_); rintro e w' ⟨rfl, hbl⟩; have SC := hide (cell_next SC.out hbl rfl (by have := BW.out.size; rw [HZ1.out] at this; show w.heap.size < _; exact this)); have BW := hide (below_next BW.out hbl rfl rfl rfl rfl BW.out.size); have KA := hide (KyAt.next KA.out hbl rfl KA.out.lt); clear hbl; have qs := SC.out; obtain ⟨q0, q1, q2, q3, q4, q5, q6, q7⟩ := kyAt_cells KA.out; dsimp only at q0 q1 q2 q3 q4 q5 q6 q7))
      have BN := BW
      have KN := KA
      clear c0 c1 c2 c3 c4 c5 c6 c7 qs q0 q1 q2 q3 q4 q5 q6 q7 SC HKA HKB HSZ
      have q4 := (kyAt_cells KN.out).2.2.2.2.1
      have q6 := (kyAt_cells KN.out).2.2.2.2.2.2.1
      dsimp only at q4 q6
      by_cases hnu : nu = true
      case' pos =>
        subst hnu
        go_wp2_with fail
        refine (numberOf_any X _ hXs).mono ?_
        rintro e w3 ⟨rfl, hbl⟩
        have BN := hide (below_next BN.out hbl rfl rfl rfl rfl BN.out.size)
        have KN := hide (KyAt.next KN.out hbl rfl KN.out.lt)
        clear hbl
        go_wp2_with fail
        refine (numberOf_any Y _ hYs).mono ?_
        rintro e w4 ⟨rfl, hbl⟩
        have BN := hide (below_next BN.out hbl rfl rfl rfl rfl BN.out.size)
        have KN := hide (KyAt.next KN.out hbl rfl KN.out.lt)
        clear hbl
        go_wp2_with fail
        refine (compareNumbers_any _ _ _).mono ?_
        rintro e w5 ⟨rfl, hbl⟩
        have BN := hide (below_next BN.out hbl rfl rfl rfl rfl BN.out.size)
        have KN := hide (KyAt.next KN.out hbl rfl KN.out.lt)
        clear hbl
        obtain ⟨c, hc⟩ : ∃ c, cmpNum (numOf X.data.toList) (numOf Y.data.toList) = c := ⟨_, rfl⟩
        have hcr := cmpNum_range (numOf X.data.toList) (numOf Y.data.toList)
        rw [hc] at hcr
        rw [hc]
        have RC : Hid (rawCmp ⟨f1, f2, l1, l2, true, re, fo, bl⟩ X Y = c) := hide (by unfold rawCmp; rw [if_pos rfl]; exact hc)
        clear hc q4 q6
      case' neg =>
        obtain rfl : nu = false := by simpa using hnu
        clear hnu
        by_cases hfo : fo = true
        case' pos =>
          subst hfo
          go_wp2_with fail
          refine (folded_any X _ hXs).mono ?_
          rintro e w3 ⟨rfl, hbl⟩
          have BN := hide (below_next BN.out hbl rfl rfl rfl rfl BN.out.size)
          have KN := hide (KyAt.next KN.out hbl rfl KN.out.lt)
          clear hbl
          go_wp2_with fail
          refine (folded_any Y _ hYs).mono ?_
          rintro e w5 ⟨rfl, hbl⟩
          have BN := hide (below_next BN.out hbl rfl rfl rfl rfl BN.out.size)
          have KN := hide (KyAt.next KN.out hbl rfl KN.out.lt)
          clear hbl
          go_wp2_with fail
          refine (compareS_any _ _ _).mono ?_
          rintro e w' ⟨rfl, rfl⟩
          obtain ⟨c, hc⟩ : ∃ c, Lib.compareBytes (X.data.toList.map upB) (Y.data.toList.map upB) = c := ⟨_, rfl⟩
          have hcr := cb_range (X.data.toList.map upB) (Y.data.toList.map upB)
          rw [hc] at hcr
          dsimp only
          rw [hc]
          have RC : Hid (rawCmp ⟨f1, f2, l1, l2, false, re, true, bl⟩ X Y = c) := hide (by unfold rawCmp; rw [if_neg (by simp), if_pos rfl]; exact hc)
          clear hc q4 q6
        case' neg =>
          obtain rfl : fo = false := by simpa using hfo
          clear hfo
          go_wp2_with fail
          refine (compareS_any _ _ _).mono ?_
          rintro e w' ⟨rfl, rfl⟩
          obtain ⟨c, hc⟩ : ∃ c, Lib.compareBytes X.data.toList Y.data.toList = c := ⟨_, rfl⟩
          have hcr := cb_range X.data.toList Y.data.toList
          rw [hc] at hcr
          rw [hc]
          have RC : Hid (rawCmp ⟨f1, f2, l1, l2, false, re, false, bl⟩ X Y = c) := hide (by unfold rawCmp; rw [if_neg (by simp), if_neg (by simp)]; exact hc)
          clear hc q4 q6
      all_goals
        have q5 := (kyAt_cells KN.out).2.2.2.2.2.1
        dsimp only at q5
        cases re
        · have HC : Hid (keyCmp sep a b ⟨f1, f2, l1, l2, _, false, _, bl⟩ = c) := hide (HR.out.trans ((if_neg (by simp)).trans RC.out))
          by_cases h0 : c = 0
          · subst h0
            go_wp2_with fail
            go_roundw
            case rel => exact ⟨k + 1, by omega, by go_num, BN.out, HM.out HC.out⟩
            case measure => simp [intOf]; omega
          · have hne : (c != 0) = true := by simpa using h0
            have HQ := hide (HC.out.symm.trans (HH.out (by rw [HC.out]; exact h0)))
            clear h0
            go_wp2_with fail
            go_ret
            exact ⟨ret_int HQ.out, HB0.out.trans (BN.out.mono (by rw [HZ1.out]; omega))⟩
        · have HC : Hid (keyCmp sep a b ⟨f1, f2, l1, l2, _, true, _, bl⟩ = -c) := hide (HR.out.trans ((if_pos rfl).trans (by rw [RC.out])))
          by_cases h0 : c = 0
          · subst h0
            go_wp2_with fail
            go_roundw
            case rel => exact ⟨k + 1, by omega, by go_num, BN.out, HM.out HC.out⟩
            case measure => simp [intOf]; omega
          · have hne : (c != 0) = true := by simpa using h0
            have hne2 : (-c != 0) = true := by simpa using h0
            have HQ := hide (HC.out.symm.trans (HH.out (by rw [HC.out]; omega)))
            clear h0
            go_wp2_with fail
            go_ret
            exact ⟨ret_int HQ.out, HB0.out.trans (BN.out.mono (by rw [HZ1.out]; omega))⟩
    · have HE := hide (fnz_end (f := keyCmp sep a b) HV hlt)
      go_wp2_with fail
      go_ret
      exact ⟨ret_int HE.out, HB0.out.trans (hbw.mono (by rw [HZ1.out]; omega))⟩

theorem fnz_range : ∀ (l : List Int), (∀ x ∈ l, -1 ≤ x ∧ x ≤ 1) → -1 ≤ firstNZ l ∧ firstNZ l ≤ 1
  | [], _ => by simp [firstNZ]
  | x :: l, h => by
    rw [firstNZ]
    split
    · exact fnz_range l fun y hy => h y (by simp [hy])
    · exact h x (by simp)
theorem rawCmp_range (k : Ky) (x y : ByteArray) : -1 ≤ rawCmp k x y ∧ rawCmp k x y ≤ 1 := by
  unfold rawCmp
  split
  · exact cmpNum_range _ _
  · split <;> exact cb_range _ _
theorem keyCmp_range (sep a b : ByteArray) (k : Ky) : -1 ≤ keyCmp sep a b k ∧ keyCmp sep a b k ≤ 1 := by
  have := rawCmp_range k (Pw.keyOf k a sep) (Pw.keyOf k b sep)
  unfold keyCmp
  split <;> omega
theorem keysCmp_range (o : Sp) (a b : ByteArray) : -1 ≤ keysCmp o a b ∧ keysCmp o a b ≤ 1 := by
  unfold keysCmp
  refine fnz_range _ fun x hx => ?_
  obtain ⟨k, _, rfl⟩ := List.mem_map.1 hx
  exact keyCmp_range _ _ _ _

set_option maxHeartbeats 2000000 in
set_option maxRecDepth 100000 in
theorem compare_any (o : Sp) (kv : Value) (a b : ByteArray) (w : World) (hk : KeysIn w kv o.keys) (hg : ∀ k ∈ o.keys, k.good) (ha : a.size ≤ 1000000) (hb : b.size ≤ 1000000) :
    Calls Tryz.prog 68 #[spV o kv, .string a, .string b] w fun e w' => e = .returned (.int .i64 (ordCmp o a b)) ∧ Below w.heap.size w w' := by
  have hB0 := ((Below.refl w.heap.size w).alloc (Nat.le_refl _) (.cells #[.string o.sep, kv, .bool o.reverse, .bool o.stable, .bool o.unique] 124))
  have hk' : KeysIn (w.alloc (.cells #[.string o.sep, kv, .bool o.reverse, .bool o.stable, .bool o.unique] 124)) kv o.keys := hk.below hB0
  have HKC := hide (keys_any o kv a b (w.alloc (.cells #[.string o.sep, kv, .bool o.reverse, .bool o.stable, .bool o.unique] 124)) hk' hg ha hb)
  have HB0 := hide hB0
  clear hB0 hk'
  obtain ⟨c, hc⟩ : ∃ c, keysCmp o a b = c := ⟨_, rfl⟩
  obtain ⟨d, hd⟩ : ∃ d, Lib.compareBytes a.data.toList b.data.toList = d := ⟨_, rfl⟩
  have hcr := keysCmp_range o a b
  have hdr := cb_range a.data.toList b.data.toList
  have HO : Hid (ordCmp o a b = if c ≠ 0 ∨ (o.keys ≠ [] ∧ (o.stable = true ∨ o.unique = true)) then c else if o.reverse then -d else d) := by
    show _ = _
    unfold ordCmp wholeCmp; rw [hc, hd]
  have HCS := hide (fun W => compareS_any a b W)
  simp only [hd] at HCS
  rw [hc] at HKC hcr
  rw [hd] at hdr
  clear hc hd
  obtain ⟨sep, keys, rv, st, un⟩ := o
  obtain ⟨_, A, cap, rfl, hcap, hmax, hx⟩ := hk
  unfold maxLen at hmax
  clear hx hg
  unfold spV at HKC ⊢
  dsimp only at HB0 HKC HO ⊢ hcap hmax
  have hn := heap_alloc_new w (.cells #[.string sep, .slice A keys.length cap, .bool rv, .bool st, .bool un] 124)
  have HN := hide hn
  clear hn
  go_enter Tryz.func68, Tryz.ntmps68
  go_wp2_with fail
  refine HKC.out.mono ?_
  rintro e w1 ⟨rfl, hb1⟩
  have hn1 := (hb1.block w.heap.size (by simp)).trans HN.out
  have HBW := hide (HB0.out.trans (hb1.mono (by simp)))
  have q1 : w1.cell? ⟨w.heap.size, 1, none⟩ = some (.slice A keys.length cap) := by rw [Lib.cell_of_heap hn1]; rfl
  have q2 : w1.cell? ⟨w.heap.size, 2, none⟩ = some (.bool rv) := by rw [Lib.cell_of_heap hn1]; rfl
  have q3 : w1.cell? ⟨w.heap.size, 3, none⟩ = some (.bool st) := by rw [Lib.cell_of_heap hn1]; rfl
  have q4 : w1.cell? ⟨w.heap.size, 4, none⟩ = some (.bool un) := by rw [Lib.cell_of_heap hn1]; rfl
  clear hb1 hn1 HKC HN HB0
  by_cases h0 : c = 0
  · subst h0
    by_cases hl : 0 < keys.length
    · have hkne : keys ≠ [] := fun e => by rw [e] at hl; simp at hl
      have HK := hide hkne
      clear hkne
      cases st
      · cases un
        · have HO2 : Hid (ordCmp ⟨sep, keys, rv, false, false⟩ a b = if rv then -d else d) := hide (HO.out.trans (if_neg (by simp)))
          clear HO
          cases rv
          all_goals
            go_wp2_with fail
            refine (HCS.out _).mono ?_
            rintro e w' ⟨rfl, rfl⟩
            go_wp2_with fail
            go_ret
            exact ⟨by rw [HO2.out]; rfl, HBW.out⟩
        · have HO2 : Hid (ordCmp ⟨sep, keys, rv, false, true⟩ a b = 0) := hide (HO.out.trans (if_pos (.inr ⟨HK.out, .inr rfl⟩)))
          go_wp2_with fail
          go_ret
          exact ⟨by rw [HO2.out]; rfl, HBW.out⟩
      · have HO2 : Hid (ordCmp ⟨sep, keys, rv, true, un⟩ a b = 0) := hide (HO.out.trans (if_pos (.inr ⟨HK.out, .inl rfl⟩)))
        go_wp2_with fail
        go_ret
        exact ⟨by rw [HO2.out]; rfl, HBW.out⟩
    · obtain rfl : keys = [] := List.eq_nil_of_length_eq_zero (by omega)
      have HO2 : Hid (ordCmp ⟨sep, [], rv, st, un⟩ a b = if rv then -d else d) := hide (HO.out.trans (if_neg (by simp)))
      clear HO
      cases rv
      all_goals
        go_wp2_with fail
        refine (HCS.out _).mono ?_
        rintro e w' ⟨rfl, rfl⟩
        go_wp2_with fail
        go_ret
        exact ⟨by rw [HO2.out]; rfl, HBW.out⟩
  · have hne : (c != 0) = true := by simpa using h0
    have HO2 : Hid (ordCmp ⟨sep, keys, rv, st, un⟩ a b = c) := hide (HO.out.trans (if_pos (.inl h0)))
    clear h0
    go_wp2_with fail
    go_ret
    exact ⟨by rw [HO2.out]; rfl, HBW.out⟩
end Go.Proofs.YtifpmigghplmoaaGreatDoor
