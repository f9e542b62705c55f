/- The walks of an order: folded. -/
import Derived.Test.YtifpmigghplmoaaGreatDoorZCmp
import Derived.Laws.IdiomStrings
import Derived.Test.YtifpmigghplmoaaGreatDoorZPrI
/- Folded -/
set_option linter.unusedVariables false
set_option linter.unusedSimpArgs false
namespace Go.Pw
open Go.RowKit
/-- a row of bytes that may be written -/
def RowB (w : World) (b : Nat) (l : List UInt8) : Prop := b < w.heap.size ∧ ∀ j c, l[j]? = some c → w.cell? ⟨b, j, none⟩ = some (.int .u8 (c.toNat : Int)) ∧ w.frozen? ⟨b, j, none⟩ = false
theorem RowB.set {w : World} {b k : Nat} {l : List UInt8} (h : RowB w b l) (hk : k < l.length) (c : UInt8) : RowB (w.setCell ⟨b, k, none⟩ (.int .u8 (c.toNat : Int))) b (l.set k c) := by
  refine ⟨by simpa [World.setCell] using h.1, fun j x hx => ?_⟩
  by_cases e : k = j
  · subst e
    rw [List.getElem?_set_self hk] at hx
    injection hx with hx
    subst hx
    obtain ⟨h1, h2⟩ := h.2 k _ (List.getElem?_eq_getElem hk)
    exact ⟨World.cell?_setCell_same _ _ _ h1, by simpa using h2⟩
  · rw [List.getElem?_set_ne e] at hx
    obtain ⟨h1, h2⟩ := h.2 j x hx
    exact ⟨(World.cell?_setCell_other _ _ _ _ (by intro h; injection h with _ h _; omega)).trans h1, by simpa using h2⟩
def upTo (l : List UInt8) (k : Nat) : List UInt8 := (l.take k).map upB ++ l.drop k
theorem upTo_len (l : List UInt8) (k : Nat) : (upTo l k).length = l.length := by simp [upTo]; omega
theorem upTo_at (l : List UInt8) (k : Nat) (h : k < l.length) : (upTo l k)[k]'(by rw [upTo_len]; exact h) = l[k] := by
  simp only [upTo]
  rw [List.getElem_append_right (by simp; omega)]
  simp [Nat.min_eq_left (Nat.le_of_lt h)]
theorem upTo_step (l : List UInt8) (k : Nat) (h : k < l.length) : upTo l (k + 1) = (upTo l k).set k (upB l[k]) := by
  unfold upTo
  rw [List.take_succ_eq_append_getElem h, List.map_append, List.drop_eq_getElem_cons h]
  rw [List.set_append_right _ _ (by simp; omega)]
  have e : k - (List.map upB (List.take k l)).length = 0 := by simp; omega
  rw [e, List.set_cons_zero]
  simp
theorem upTo_all (l : List UInt8) : upTo l l.length = l.map upB := by simp [upTo]
theorem upTo_same {l : List UInt8} {k : Nat} (h : k < l.length) (e : upB l[k] = l[k]) : upTo l (k + 1) = upTo l k := by
  rw [upTo_step l k h, e]
  conv => lhs; arg 3; rw [← upTo_at l k h]
  exact List.set_getElem_self _
theorem upB_in {c : UInt8} (h1 : 97 ≤ (c.toNat : Int)) (h2 : (c.toNat : Int) ≤ 122) : ((upB c).toNat : Int) = (c.toNat : Int) - 97 + 65 := by
  unfold upB
  rw [if_pos (by omega)]
  have : (c - 32).toNat = c.toNat - 32 := by
    rw [UInt8.toNat_sub_of_le _ _ (by rw [UInt8.le_iff_toNat_le]; show 32 ≤ _; omega)]; rfl
  rw [this]; omega
theorem upB_out {c : UInt8} (h : ¬ (97 ≤ (c.toNat : Int) ∧ (c.toNat : Int) ≤ 122)) : upB c = c := by
  unfold upB
  rw [if_neg (by omega)]
theorem row_of_string {P : Program} (w : World) (src dst e : TypeId) (s : ByteArray) (hs : P.underlying src = some .string) (hd : P.underlying dst = some (.slice e)) (he : P.underlying e = some (.int .u8)) :
    ∃ (cap : Nat) (w1 : World), (convert src dst (.string s)).run P w = .ok (.slice (some ⟨w.heap.size, 0, none⟩) s.size cap) w1 ∧ s.size ≤ cap ∧ RowB w1 w.heap.size s.data.toList ∧ Below w.heap.size w w1 := by
  refine ⟨_, _, run_bytes_of_string w src dst e s hs hd he, ?_, ⟨?_, ?_⟩, ?_⟩
  · exact grownCap_ge _ _ _ _
  · simp
  · intro j c hj
    have hjl : j < s.data.toList.length := (List.getElem?_eq_some_iff.1 hj).1
    have hjs : j < s.data.size := by simpa using hjl
    have hc : s.data[j] = c := by
      have := (List.getElem?_eq_some_iff.1 hj).2
      simpa using this
    have hn := heap_alloc_new w.drew (.cells (bytesRow s (grownCap w s.size 0 e)) e ((bytesRow s (grownCap w s.size 0 e)).size, (bytesRow s (grownCap w s.size 0 e)).size + 1))
    have hsz : j < (bytesRow s (grownCap w s.size 0 e)).size := by
      have h2 : s.size = s.data.size := rfl
      unfold bytesRow; simp; omega
    refine ⟨?_, ?_⟩
    · have hn' : (w.drew.alloc (.cells (bytesRow s (grownCap w s.size 0 e)) e ((bytesRow s (grownCap w s.size 0 e)).size, (bytesRow s (grownCap w s.size 0 e)).size + 1))).heap[w.heap.size]? = some (.cells (bytesRow s (grownCap w s.size 0 e)) e ((bytesRow s (grownCap w s.size 0 e)).size, (bytesRow s (grownCap w s.size 0 e)).size + 1)) := hn
      rw [Lib.cell_of_heap hn']
      unfold bytesRow
      have h2 : j < s.size := hjs
      simp [Array.getElem?_append, h2, Array.getElem?_eq_getElem hjs, hc]
    · have hn' : (w.drew.alloc (.cells (bytesRow s (grownCap w s.size 0 e)) e ((bytesRow s (grownCap w s.size 0 e)).size, (bytesRow s (grownCap w s.size 0 e)).size + 1))).heap[w.heap.size]? = some (.cells (bytesRow s (grownCap w s.size 0 e)) e ((bytesRow s (grownCap w s.size 0 e)).size, (bytesRow s (grownCap w s.size 0 e)).size + 1)) := hn
      unfold World.frozen?
      simp only [hn']
      simp
      omega
  · exact (Below.drew (Below.refl _ _)).alloc (Nat.le_refl _) _
end Go.Pw
namespace Go.Proofs.YtifpmigghplmoaaGreatDoor
open Go.RowKit Go.Pw
set_option maxHeartbeats 1000000 in
set_option maxRecDepth 100000 in
theorem folded_any (s : ByteArray) (w : World) (hs : s.size ≤ 1000000) : Calls Tryz.prog 145 #[.string s] w fun e w' => e = .returned (.string ⟨(s.data.toList.map upB).toArray⟩) ∧ Below w.heap.size w w' := by
  obtain ⟨cap, w1, hconv, hcap, hrow, hbel⟩ := row_of_string (P := Tryz.prog) w 9 41 5 s Tryz.underlying9 Tryz.underlying41 Tryz.underlying5
  have HROW := hide hrow
  have HBEL := hide hbel
  have hz := hrow.1
  clear hrow hbel
  go_enter Tryz.func145, Tryz.ntmps145
  go_wp2_with fail
  clear hconv
  go_loopw [10] (fun i wr => ∃ k : Nat, k ≤ s.size ∧ i = .int .i64 (k : Int) ∧ RowB wr w.heap.size (upTo s.data.toList k) ∧ Below w.heap.size w wr) (fun i _ => s.size - (intOf i).toNat)
  case atStart => exact ⟨0, by omega, rfl, by simpa [upTo] using HROW.out, HBEL.out⟩
  case round =>
    obtain ⟨k, hk, rfl, hr, hb⟩ := hrel
    by_cases hlt : k < s.size
    · have hlt' : k < s.data.toList.length := by rw [len_size]; exact hlt
      have hl2 : k < (upTo s.data.toList k).length := by rw [upTo_len]; exact hlt'
      have hc := (hr.2 k _ (List.getElem?_eq_getElem hl2)).1
      have hf := (hr.2 k _ (List.getElem?_eq_getElem hl2)).2
      rw [upTo_at _ _ hlt'] at hc
      obtain ⟨c, hcc⟩ : ∃ c, s.data.toList[k] = c := ⟨_, rfl⟩
      rw [hcc] at hc
      have hlB := hr.1
      by_cases h1 : 97 ≤ (c.toNat : Int)
      · by_cases h2 : (c.toNat : Int) ≤ 122
        · have hu := upB_in h1 h2
          have hn : RowB (wr.setCell ⟨w.heap.size, k, none⟩ (.int .u8 ((c.toNat : Int) - 97 + 65))) w.heap.size (upTo s.data.toList (k + 1)) := by
            rw [upTo_step _ _ hlt', hcc, ← hu]
            exact hr.set hl2 _
          have HN := hide hn
          clear hn hu hr hcc
          go_wp2_with fail
          go_roundw
          case rel => exact ⟨k + 1, by omega, by go_num, HN.out, hb.setCell (by simp) _⟩
          case measure => simp [intOf]; omega
        · have HN : Hid (RowB wr w.heap.size (upTo s.data.toList (k + 1))) := hide (by rw [upTo_same hlt' (by rw [hcc]; exact upB_out (fun e => h2 e.2))]; exact hr)
          clear hr hcc
          go_wp2_with fail
          go_roundw
          case rel => exact ⟨k + 1, by omega, by go_num, HN.out, hb⟩
          case measure => simp [intOf]; omega
      · have HN : Hid (RowB wr w.heap.size (upTo s.data.toList (k + 1))) := hide (by rw [upTo_same hlt' (by rw [hcc]; exact upB_out (fun e => h1 e.1))]; exact hr)
        clear hr hcc
        go_wp2_with fail
        go_roundw
        case rel => exact ⟨k + 1, by omega, by go_num, HN.out, hb⟩
        case measure => simp [intOf]; omega
    · obtain rfl : k = s.size := by omega
      have hback : (convert 41 9 (.slice (some ⟨w.heap.size, 0, none⟩) s.size cap)).run Tryz.prog wr = .ok (.string ⟨(s.data.toList.map upB).toArray⟩) wr := by
        have := run_convert_bytes_back (P := Tryz.prog) wr 41 9 5 ⟨w.heap.size, 0, none⟩ cap (s.data.toList.map upB) Tryz.underlying41 Tryz.underlying5 Tryz.underlying9 (fun j hj => by
          rw [← len_size, upTo_all] at hr
          have := (hr.2 j _ (List.getElem?_eq_getElem hj)).1
          have ea : Addr.add ⟨w.heap.size, 0, none⟩ j = ⟨w.heap.size, j, none⟩ := by
            unfold Addr.add; split
            · rename_i h; rw [h]
            · simp
          rw [ea]; exact this)
        rw [List.length_map, len_size] at this
        exact this
      clear hr
      go_wp2_with fail
      go_ret
      exact ⟨rfl, hb⟩
end Go.Proofs.YtifpmigghplmoaaGreatDoor

/- Keys -/
set_option linter.unusedVariables false
set_option linter.unusedSimpArgs false
namespace Go.Pw
open Go.RowKit
theorem below_next {N M : Nat} {w0 w W w' : World} (h : Below N w0 w) (hb : Below M W w') (e1 : W.heap = w.heap) (e2 : W.os = w.os) (e3 : W.tape = w.tape) (e4 : W.output = w.output) (hM : N ≤ M) : Below N w0 w' :=
  h.trans (⟨by rw [← e2]; exact hb.os, by rw [← e3]; exact hb.tape, by rw [← e4]; exact hb.output, by rw [← e1]; exact hb.size, fun k hk => by rw [← e1]; exact hb.block k (by omega)⟩)
theorem KyAt.next {w W w' : World} {b M : Nat} {k : Ky} (h : Go.Proofs.YtifpmigghplmoaaGreatDoor.KyAt w b k) (hb : Below M W w') (e : W.heap = w.heap) (hM : b < M) : Go.Proofs.YtifpmigghplmoaaGreatDoor.KyAt w' b k := (hb.block b hM).trans (by rw [e]; exact h)
theorem cell_next {w W w' : World} {M : Nat} {p : Addr} {u : Value} (h : w.cell? p = some u) (hb : Below M W w') (e : W.heap = w.heap) (hM : p.block < M) : w'.cell? p = some u :=
  (hb.cell hM).trans (by rw [← h]; unfold World.cell?; rw [e])
/-- the cells of a key -/
def kyCells (k : Ky) : List Value := [.int .i64 k.first, .int .i64 k.firstB, .int .i64 k.last, .int .i64 k.lastB, .bool k.numeric, .bool k.reverse, .bool k.fold, .bool k.blanks]
def kysCells : List Ky → List Value
  | [] => []
  | k :: ks => kyCells k ++ kysCells ks
theorem kysCells_len : ∀ l : List Ky, (kysCells l).length = l.length * 8
  | [] => rfl
  | k :: l => by rw [kysCells, List.length_append, kysCells_len l]; simp [kyCells]; omega
theorem kysCells_at : ∀ (l : List Ky) (i j : Nat) (k : Ky), l[i]? = some k → j < 8 → (kysCells l)[i * 8 + j]? = (kyCells k)[j]?
  | x :: l, 0, j, k, h, hj => by
    simp at h; subst h
    rw [kysCells, List.getElem?_append_left (by simp [kyCells]; omega)]; simp
  | x :: l, i + 1, j, k, h, hj => by
    rw [kysCells, List.getElem?_append_right (by simp [kyCells]; omega)]
    have := kysCells_at l i j k (by simpa using h) hj
    rw [show (i + 1) * 8 + j - (kyCells x).length = i * 8 + j by simp [kyCells]; omega]
    exact this
  | [], i, j, k, h, hj => by simp at h
/-- the keys that a slice value reads -/
def KeysIn (w : World) (v : Value) (ks : List Ky) : Prop := Rd w 8 v ks.length (kysCells ks)
theorem KeysIn.below {w w' : World} {v : Value} {ks : List Ky} (h : KeysIn w v ks) (hb : Below w.heap.size w w') : KeysIn w' v ks := Rd.below h hb
theorem KeysIn.cells {w : World} {b o n cap i : Nat} {ks : List Ky} {k : Ky} (hj : ∀ j u, (kysCells ks)[j]? = some u → w.cell? ⟨b, o + j, none⟩ = some u) (hk : ks[i]? = some k) :
    w.cell? ⟨b, o + i * 8, none⟩ = some (.int .i64 k.first) ∧ w.cell? ⟨b, o + i * 8 + 1, none⟩ = some (.int .i64 k.firstB) ∧ w.cell? ⟨b, o + i * 8 + 2, none⟩ = some (.int .i64 k.last) ∧ w.cell? ⟨b, o + i * 8 + 3, none⟩ = some (.int .i64 k.lastB)
    ∧ w.cell? ⟨b, o + i * 8 + 4, none⟩ = some (.bool k.numeric) ∧ w.cell? ⟨b, o + i * 8 + 5, none⟩ = some (.bool k.reverse) ∧ w.cell? ⟨b, o + i * 8 + 6, none⟩ = some (.bool k.fold) ∧ w.cell? ⟨b, o + i * 8 + 7, none⟩ = some (.bool k.blanks) := by
  have h : ∀ j u, j < 8 → (kyCells k)[j]? = some u → w.cell? ⟨b, o + i * 8 + j, none⟩ = some u := fun j u h8 hu => by
    have := hj (i * 8 + j) u (by rw [kysCells_at ks i j k hk h8]; exact hu)
    rw [← Nat.add_assoc] at this; exact this
  exact ⟨h 0 _ (by omega) rfl, h 1 _ (by omega) rfl, h 2 _ (by omega) rfl, h 3 _ (by omega) rfl, h 4 _ (by omega) rfl, h 5 _ (by omega) rfl, h 6 _ (by omega) rfl, h 7 _ (by omega) rfl⟩
theorem kyAt_cells {w : World} {b : Nat} {k : Ky} (h : Go.Proofs.YtifpmigghplmoaaGreatDoor.KyAt w b k) :
    w.cell? ⟨b, 0, none⟩ = some (.int .i64 k.first) ∧ w.cell? ⟨b, 1, none⟩ = some (.int .i64 k.firstB) ∧ w.cell? ⟨b, 2, none⟩ = some (.int .i64 k.last) ∧ w.cell? ⟨b, 3, none⟩ = some (.int .i64 k.lastB)
    ∧ w.cell? ⟨b, 4, none⟩ = some (.bool k.numeric) ∧ w.cell? ⟨b, 5, none⟩ = some (.bool k.reverse) ∧ w.cell? ⟨b, 6, none⟩ = some (.bool k.fold) ∧ w.cell? ⟨b, 7, none⟩ = some (.bool k.blanks) := by
  refine ⟨?_, ?_, ?_, ?_, ?_, ?_, ?_, ?_⟩ <;> (rw [Lib.cell_of_heap h]; rfl)
theorem keyOf_size (k : Ky) (line sep : ByteArray) : (keyOf k line sep).size ≤ line.size := by
  unfold keyOf
  split
  · exact Nat.zero_le _
  · rw [ByteArray.size_extract]; omega
theorem fnz3_range {A B C : Int} (h1 : -1 ≤ A ∧ A ≤ 1) (h2 : -1 ≤ B ∧ B ≤ 1) (h3 : -1 ≤ C ∧ C ≤ 1) : -1 ≤ firstNZ [A, B, C] ∧ firstNZ [A, B, C] ≤ 1 := by
  unfold firstNZ; split
  · unfold firstNZ; split
    · unfold firstNZ; split
      · simp [firstNZ]
      · exact h3
    · exact h2
  · exact h1
theorem cmpNum_range (x y : Nm) : -1 ≤ cmpNum x y ∧ cmpNum x y ≤ 1 := by
  have := fnz3_range (ci_range x.whole.length y.whole.length) (cb_range x.whole y.whole) (cb_range x.part y.part)
  unfold cmpNum
  split
  · split <;> omega
  · split <;> omega
end Go.Pw
namespace Go.Proofs.YtifpmigghplmoaaGreatDoor
open Go.RowKit Go.Pw
/-- an order as a value -/
def spV (o : Sp) (ks : Value) : Value := .agg #[.string o.sep, ks, .bool o.reverse, .bool o.stable, .bool o.unique]

set_option maxHeartbeats 2000000 in
set_option maxRecDepth 100000 in
theorem keys_any (o : Sp) (kv : Value) (a b : ByteArray) (w : World) (hk : KeysIn w kv o.keys) (hg : ∀ k ∈ o.keys, k.good) (ha : a.size ≤ 1000000) (hb : b.size ≤ 1000000) :
    Calls Tryz.prog 108 #[spV o kv, .string a, .string b] w fun e w' => e = .returned (.int .i64 (keysCmp o a b)) ∧ Below w.heap.size w w' := by
  obtain ⟨sep, keys, rv, st, un⟩ := o
  obtain ⟨_, A, cap, rfl, hcap, hmax, hx⟩ := hk
  unfold maxLen at hmax
  have HX := hide hx
  have HG := hide hg
  clear hx hg
  unfold spV
  dsimp only at HX HG hcap hmax ⊢
  have HB0 := hide ((Below.refl w.heap.size w).alloc (Nat.le_refl _) (.cells #[.string sep, .slice A keys.length cap, .bool rv, .bool st, .bool un] 124))
  go_enter Tryz.func108, Tryz.ntmps108
  go_wp2_with fail
  have hW1 : (w.alloc (.cells #[.string sep, .slice A keys.length cap, .bool rv, .bool st, .bool un] 124)).cell? ⟨w.heap.size, 0, none⟩ = some (.string sep) := by simp
  obtain ⟨W1, hWW⟩ : ∃ W1, w.alloc (.cells #[.string sep, .slice A keys.length cap, .bool rv, .bool st, .bool un] 124) = W1 := ⟨_, rfl⟩
  have hz1 : W1.heap.size = w.heap.size + 1 := by rw [← hWW]; simp
  rw [hWW] at HB0 hW1 ⊢
  have HC0 := hide hW1
  have HZ1 := hide hz1
  clear hWW hW1 hz1
  go_loopw [16] (fun i wr => ∃ k : Nat, k ≤ keys.length ∧ i = .int .i64 (k : Int) ∧ Below W1.heap.size W1 wr ∧ Hid (keysCmp ⟨sep, keys, rv, st, un⟩ a b = firstNZ ((keys.drop k).map (keyCmp sep a b)))) (fun i _ => keys.length - (intOf i).toNat)
  case atStart => exact ⟨0, by omega, rfl, Below.refl _ _, hide rfl⟩
  case round =>
    obtain ⟨k, hkn, rfl, hbw, HV⟩ := hrel
    by_cases hlt : k < keys.length
    · obtain ⟨g, o, rfl, hgl, hj⟩ := HX.out (by omega)
      have hzz := hbw.size
      rw [HZ1.out] at hzz
      have hj' : ∀ j u, (kysCells keys)[j]? = some u → wr.cell? ⟨g, o + j, none⟩ = some u := fun j u hu => (hbw.cell (p := ⟨g, o + j, none⟩) (by rw [HZ1.out]; show g < _; omega)).trans ((HB0.out.cell (p := ⟨g, o + j, none⟩) hgl).trans (hj j u hu))
      have hK := List.getElem?_eq_getElem hlt
      have hgd := HG.out _ (List.getElem_mem hlt)
      obtain ⟨c0, c1, c2, c3, c4, c5, c6, c7⟩ := KeysIn.cells (n := 0) (cap := 0) hj' hK
      obtain ⟨K, hKK⟩ : ∃ K, keys[k] = K := ⟨_, rfl⟩
      have HM := hide (fun (e : keyCmp sep a b K = 0) => fnz_miss (f := keyCmp sep a b) HV hlt (by rw [hKK]; exact e))
      have HH := hide (fun (e : ¬ keyCmp sep a b K = 0) => fnz_hit (f := keyCmp sep a b) HV hlt (by rw [hKK]) e)
      rw [hKK] at hgd c0 c1 c2 c3 c4 c5 c6 c7
      clear hj hj' hK hKK
      obtain ⟨X, hX⟩ : ∃ X, Pw.keyOf K a sep = X := ⟨_, rfl⟩
      obtain ⟨Y, hY⟩ : ∃ Y, Pw.keyOf K b sep = Y := ⟨_, rfl⟩
      have hXs : X.size ≤ 1000000 := by rw [← hX]; exact Nat.le_trans (keyOf_size _ _ _) ha
      have hYs : Y.size ≤ 1000000 := by rw [← hY]; exact Nat.le_trans (keyOf_size _ _ _) hb
      have HKA := hide (fun W => key_any K a sep W hgd ha)
      have HKB := hide (fun W => key_any K b sep W hgd hb)
      simp only [hX] at HKA
      simp only [hY] at HKB
      have HR : Hid (keyCmp sep a b K = if K.reverse then -rawCmp K X Y else rawCmp K X Y) := by
        show _ = _
        unfold keyCmp; rw [hX, hY]
      clear hX hY hgd
      obtain ⟨f1, f2, l1, l2, nu, re, fo, bl⟩ := K
      unfold kyV at HKA HKB
      dsimp only at HKA HKB c0 c1 c2 c3 c4 c5 c6 c7
      have hnw := heap_alloc_new wr (.cells #[.int .i64 f1, .int .i64 f2, .int .i64 l1, .int .i64 l2, .bool nu, .bool re, .bool fo, .bool bl] 70)
      have KA : Hid (KyAt (wr.alloc (.cells #[.int .i64 f1, .int .i64 f2, .int .i64 l1, .int .i64 l2, .bool nu, .bool re, .bool fo, .bool bl] 70)) wr.heap.size ⟨f1, f2, l1, l2, nu, re, fo, bl⟩) := hide hnw
      have BW : Hid (Below W1.heap.size W1 (wr.alloc (.cells #[.int .i64 f1, .int .i64 f2, .int .i64 l1, .int .i64 l2, .bool nu, .bool re, .bool fo, .bool bl] 70))) := hide (hbw.alloc hbw.size _)
      have SC : Hid ((wr.alloc (.cells #[.int .i64 f1, .int .i64 f2, .int .i64 l1, .int .i64 l2, .bool nu, .bool re, .bool fo, .bool bl] 70)).cell? ⟨w.heap.size, 0, none⟩ = some (.string sep)) := hide ((BW.out.cell (p := ⟨w.heap.size, 0, none⟩) (by rw [HZ1.out]; simp)).trans HC0.out)
      have qs := SC.out
      have hne : w.heap.size ≠ wr.heap.size := by omega
      have HSZ := hide hzz
      clear hnw
      go_wp2_with fail
      go_region_held3 (fun w' => w'.cell? ⟨w.heap.size, 0, none⟩ = some (.string sep) ∧ w'.cell? ⟨wr.heap.size, 0, none⟩ = some (.int .i64 f1) ∧ w'.cell? ⟨wr.heap.size, 1, none⟩ = some (.int .i64 f2) ∧ w'.cell? ⟨wr.heap.size, 2, none⟩ = some (.int .i64 l1) ∧ w'.cell? ⟨wr.heap.size, 3, none⟩ = some (.int .i64 l2) ∧ w'.cell? ⟨wr.heap.size, 4, none⟩ = some (.bool nu) ∧ w'.cell? ⟨wr.heap.size, 5, none⟩ = some (.bool re) ∧ w'.cell? ⟨wr.heap.size, 6, none⟩ = some (.bool fo) ∧ w'.cell? ⟨wr.heap.size, 7, none⟩ = some (.bool bl)) (go_keep)
        (first
          | (go_at_call 142; (with_reducible refine (HKA.out _).mono ?_); rintro e w' ⟨rfl, hbl⟩; have SC := hide (cell_next SC.out hbl rfl (by have := BW.out.size; rw [HZ1.out] at this; show w.heap.size < _; exact this)); have BW := hide (below_next BW.out hbl rfl rfl rfl rfl BW.out.size); have KA := hide (KyAt.next KA.out hbl rfl KA.out.lt); clear hbl; have qs := SC.out; obtain ⟨q0, q1, q2, q3, q4, q5, q6, q7⟩ := kyAt_cells KA.out; dsimp only at q0 q1 q2 q3 q4 q5 q6 q7)
          | (go_at_call 142; (with_reducible refine (HKB.out _).mono ?_); rintro e w' ⟨rfl, hbl⟩; have SC := hide (cell_next SC.out hbl rfl (by have := BW.out.size; rw [HZ1.out] at this; show w.heap.size < _; exact this)); have BW := hide (below_next BW.out hbl rfl rfl rfl rfl BW.out.size); have KA := hide (KyAt.next KA.out hbl rfl KA.out.lt); clear hbl; have qs := SC.out; obtain ⟨q0, q1, q2, q3, q4, q5, q6, q7⟩ := kyAt_cells KA.out; dsimp only at q0 q1 q2 q3 q4 q5 q6 q7))
      have BN := BW
      have KN := KA
      clear c0 c1 c2 c3 c4 c5 c6 c7 qs q0 q1 q2 q3 q4 q5 q6 q7 SC HKA HKB HSZ
      have q4 := (kyAt_cells KN.out).2.2.2.2.1
      have q6 := (kyAt_cells KN.out).2.2.2.2.2.2.1
      dsimp only at q4 q6
      by_cases hnu : nu = true
      case' pos =>
        subst hnu
        go_wp2_with fail
        refine (numberOf_any X _ hXs).mono ?_
        rintro e w3 ⟨rfl, hbl⟩
        have BN := hide (below_next BN.out hbl rfl rfl rfl rfl BN.out.size)
        have KN := hide (KyAt.next KN.out hbl rfl KN.out.lt)
        clear hbl
        go_wp2_with fail
        refine (numberOf_any Y _ hYs).mono ?_
        rintro e w4 ⟨rfl, hbl⟩
        have BN := hide (below_next BN.out hbl rfl rfl rfl rfl BN.out.size)
        have KN := hide (KyAt.next KN.out hbl rfl KN.out.lt)
        clear hbl
        go_wp2_with fail
        refine (compareNumbers_any _ _ _).mono ?_
        rintro e w5 ⟨rfl, hbl⟩
        have BN := hide (below_next BN.out hbl rfl rfl rfl rfl BN.out.size)
        have KN := hide (KyAt.next KN.out hbl rfl KN.out.lt)
        clear hbl
        obtain ⟨c, hc⟩ : ∃ c, cmpNum (numOf X.data.toList) (numOf Y.data.toList) = c := ⟨_, rfl⟩
        have hcr := cmpNum_range (numOf X.data.toList) (numOf Y.data.toList)
        rw [hc] at hcr
        rw [hc]
        have RC : Hid (rawCmp ⟨f1, f2, l1, l2, true, re, fo, bl⟩ X Y = c) := hide (by unfold rawCmp; rw [if_pos rfl]; exact hc)
        clear hc q4 q6
      case' neg =>
        obtain rfl : nu = false := by simpa using hnu
        clear hnu
        by_cases hfo : fo = true
        case' pos =>
          subst hfo
          go_wp2_with fail
          refine (folded_any X _ hXs).mono ?_
          rintro e w3 ⟨rfl, hbl⟩
          have BN := hide (below_next BN.out hbl rfl rfl rfl rfl BN.out.size)
          have KN := hide (KyAt.next KN.out hbl rfl KN.out.lt)
          clear hbl
          go_wp2_with fail
          refine (folded_any Y _ hYs).mono ?_
          rintro e w5 ⟨rfl, hbl⟩
          have BN := hide (below_next BN.out hbl rfl rfl rfl rfl BN.out.size)
          have KN := hide (KyAt.next KN.out hbl rfl KN.out.lt)
          clear hbl
          go_wp2_with fail
          refine (compareS_any _ _ _).mono ?_
          rintro e w' ⟨rfl, rfl⟩
          obtain ⟨c, hc⟩ : ∃ c, Lib.compareBytes (X.data.toList.map upB) (Y.data.toList.map upB) = c := ⟨_, rfl⟩
          have hcr := cb_range (X.data.toList.map upB) (Y.data.toList.map upB)
          rw [hc] at hcr
          dsimp only
          rw [hc]
          have RC : Hid (rawCmp ⟨f1, f2, l1, l2, false, re, true, bl⟩ X Y = c) := hide (by unfold rawCmp; rw [if_neg (by simp), if_pos rfl]; exact hc)
          clear hc q4 q6
        case' neg =>
          obtain rfl : fo = false := by simpa using hfo
          clear hfo
          go_wp2_with fail
          refine (compareS_any _ _ _).mono ?_
          rintro e w' ⟨rfl, rfl⟩
          obtain ⟨c, hc⟩ : ∃ c, Lib.compareBytes X.data.toList Y.data.toList = c := ⟨_, rfl⟩
          have hcr := cb_range X.data.toList Y.data.toList
          rw [hc] at hcr
          rw [hc]
          have RC : Hid (rawCmp ⟨f1, f2, l1, l2, false, re, false, bl⟩ X Y = c) := hide (by unfold rawCmp; rw [if_neg (by simp), if_neg (by simp)]; exact hc)
          clear hc q4 q6
      all_goals
        have q5 := (kyAt_cells KN.out).2.2.2.2.2.1
        dsimp only at q5
        cases re
        · have HC : Hid (keyCmp sep a b ⟨f1, f2, l1, l2, _, false, _, bl⟩ = c) := hide (HR.out.trans ((if_neg (by simp)).trans RC.out))
          by_cases h0 : c = 0
          · subst h0
            go_wp2_with fail
            go_roundw
            case rel => exact ⟨k + 1, by omega, by go_num, BN.out, HM.out HC.out⟩
            case measure => simp [intOf]; omega
          · have hne : (c != 0) = true := by simpa using h0
            have HQ := hide (HC.out.symm.trans (HH.out (by rw [HC.out]; exact h0)))
            clear h0
            go_wp2_with fail
            go_ret
            exact ⟨ret_int HQ.out, HB0.out.trans (BN.out.mono (by rw [HZ1.out]; omega))⟩
        · have HC : Hid (keyCmp sep a b ⟨f1, f2, l1, l2, _, true, _, bl⟩ = -c) := hide (HR.out.trans ((if_pos rfl).trans (by rw [RC.out])))
          by_cases h0 : c = 0
          · subst h0
            go_wp2_with fail
            go_roundw
            case rel => exact ⟨k + 1, by omega, by go_num, BN.out, HM.out HC.out⟩
            case measure => simp [intOf]; omega
          · have hne : (c != 0) = true := by simpa using h0
            have hne2 : (-c != 0) = true := by simpa using h0
            have HQ := hide (HC.out.symm.trans (HH.out (by rw [HC.out]; omega)))
            clear h0
            go_wp2_with fail
            go_ret
            exact ⟨ret_int HQ.out, HB0.out.trans (BN.out.mono (by rw [HZ1.out]; omega))⟩
    · have HE := hide (fnz_end (f := keyCmp sep a b) HV hlt)
      go_wp2_with fail
      go_ret
      exact ⟨ret_int HE.out, HB0.out.trans (hbw.mono (by rw [HZ1.out]; omega))⟩

theorem fnz_range : ∀ (l : List Int), (∀ x ∈ l, -1 ≤ x ∧ x ≤ 1) → -1 ≤ firstNZ l ∧ firstNZ l ≤ 1
  | [], _ => by simp [firstNZ]
  | x :: l, h => by
    rw [firstNZ]
    split
    · exact fnz_range l fun y hy => h y (by simp [hy])
    · exact h x (by simp)
theorem rawCmp_range (k : Ky) (x y : ByteArray) : -1 ≤ rawCmp k x y ∧ rawCmp k x y ≤ 1 := by
  unfold rawCmp
  split
  · exact cmpNum_range _ _
  · split <;> exact cb_range _ _
theorem keyCmp_range (sep a b : ByteArray) (k : Ky) : -1 ≤ keyCmp sep a b k ∧ keyCmp sep a b k ≤ 1 := by
  have := rawCmp_range k (Pw.keyOf k a sep) (Pw.keyOf k b sep)
  unfold keyCmp
  split <;> omega
theorem keysCmp_range (o : Sp) (a b : ByteArray) : -1 ≤ keysCmp o a b ∧ keysCmp o a b ≤ 1 := by
  unfold keysCmp
  refine fnz_range _ fun x hx => ?_
  obtain ⟨k, _, rfl⟩ := List.mem_map.1 hx
  exact keyCmp_range _ _ _ _

set_option maxHeartbeats 2000000 in
set_option maxRecDepth 100000 in
theorem compare_any (o : Sp) (kv : Value) (a b : ByteArray) (w : World) (hk : KeysIn w kv o.keys) (hg : ∀ k ∈ o.keys, k.good) (ha : a.size ≤ 1000000) (hb : b.size ≤ 1000000) :
    Calls Tryz.prog 68 #[spV o kv, .string a, .string b] w fun e w' => e = .returned (.int .i64 (ordCmp o a b)) ∧ Below w.heap.size w w' := by
  have hB0 := ((Below.refl w.heap.size w).alloc (Nat.le_refl _) (.cells #[.string o.sep, kv, .bool o.reverse, .bool o.stable, .bool o.unique] 124))
  have hk' : KeysIn (w.alloc (.cells #[.string o.sep, kv, .bool o.reverse, .bool o.stable, .bool o.unique] 124)) kv o.keys := hk.below hB0
  have HKC := hide (keys_any o kv a b (w.alloc (.cells #[.string o.sep, kv, .bool o.reverse, .bool o.stable, .bool o.unique] 124)) hk' hg ha hb)
  have HB0 := hide hB0
  clear hB0 hk'
  obtain ⟨c, hc⟩ : ∃ c, keysCmp o a b = c := ⟨_, rfl⟩
  obtain ⟨d, hd⟩ : ∃ d, Lib.compareBytes a.data.toList b.data.toList = d := ⟨_, rfl⟩
  have hcr := keysCmp_range o a b
  have hdr := cb_range a.data.toList b.data.toList
  have HO : Hid (ordCmp o a b = if c ≠ 0 ∨ (o.keys ≠ [] ∧ (o.stable = true ∨ o.unique = true)) then c else if o.reverse then -d else d) := by
    show _ = _
    unfold ordCmp wholeCmp; rw [hc, hd]
  have HCS := hide (fun W => compareS_any a b W)
  simp only [hd] at HCS
  rw [hc] at HKC hcr
  rw [hd] at hdr
  clear hc hd
  obtain ⟨sep, keys, rv, st, un⟩ := o
  obtain ⟨_, A, cap, rfl, hcap, hmax, hx⟩ := hk
  unfold maxLen at hmax
  clear hx hg
  unfold spV at HKC ⊢
  dsimp only at HB0 HKC HO ⊢ hcap hmax
  have hn := heap_alloc_new w (.cells #[.string sep, .slice A keys.length cap, .bool rv, .bool st, .bool un] 124)
  have HN := hide hn
  clear hn
  go_enter Tryz.func68, Tryz.ntmps68
  go_wp2_with fail
  refine HKC.out.mono ?_
  rintro e w1 ⟨rfl, hb1⟩
  have hn1 := (hb1.block w.heap.size (by simp)).trans HN.out
  have HBW := hide (HB0.out.trans (hb1.mono (by simp)))
  have q1 : w1.cell? ⟨w.heap.size, 1, none⟩ = some (.slice A keys.length cap) := by rw [Lib.cell_of_heap hn1]; rfl
  have q2 : w1.cell? ⟨w.heap.size, 2, none⟩ = some (.bool rv) := by rw [Lib.cell_of_heap hn1]; rfl
  have q3 : w1.cell? ⟨w.heap.size, 3, none⟩ = some (.bool st) := by rw [Lib.cell_of_heap hn1]; rfl
  have q4 : w1.cell? ⟨w.heap.size, 4, none⟩ = some (.bool un) := by rw [Lib.cell_of_heap hn1]; rfl
  clear hb1 hn1 HKC HN HB0
  by_cases h0 : c = 0
  · subst h0
    by_cases hl : 0 < keys.length
    · have hkne : keys ≠ [] := fun e => by rw [e] at hl; simp at hl
      have HK := hide hkne
      clear hkne
      cases st
      · cases un
        · have HO2 : Hid (ordCmp ⟨sep, keys, rv, false, false⟩ a b = if rv then -d else d) := hide (HO.out.trans (if_neg (by simp)))
          clear HO
          cases rv
          all_goals
            go_wp2_with fail
            refine (HCS.out _).mono ?_
            rintro e w' ⟨rfl, rfl⟩
            go_wp2_with fail
            go_ret
            exact ⟨by rw [HO2.out]; rfl, HBW.out⟩
        · have HO2 : Hid (ordCmp ⟨sep, keys, rv, false, true⟩ a b = 0) := hide (HO.out.trans (if_pos (.inr ⟨HK.out, .inr rfl⟩)))
          go_wp2_with fail
          go_ret
          exact ⟨by rw [HO2.out]; rfl, HBW.out⟩
      · have HO2 : Hid (ordCmp ⟨sep, keys, rv, true, un⟩ a b = 0) := hide (HO.out.trans (if_pos (.inr ⟨HK.out, .inl rfl⟩)))
        go_wp2_with fail
        go_ret
        exact ⟨by rw [HO2.out]; rfl, HBW.out⟩
    · obtain rfl : keys = [] := List.eq_nil_of_length_eq_zero (by omega)
      have HO2 : Hid (ordCmp ⟨sep, [], rv, st, un⟩ a b = if rv then -d else d) := hide (HO.out.trans (if_neg (by simp)))
      clear HO
      cases rv
      all_goals
        go_wp2_with fail
        refine (HCS.out _).mono ?_
        rintro e w' ⟨rfl, rfl⟩
        go_wp2_with fail
        go_ret
        exact ⟨by rw [HO2.out]; rfl, HBW.out⟩
  · have hne : (c != 0) = true := by simpa using h0
    have HO2 : Hid (ordCmp ⟨sep, keys, rv, st, un⟩ a b = c) := hide (HO.out.trans (if_pos (.inl h0)))
    clear h0
    go_wp2_with fail
    go_ret
    exact ⟨by rw [HO2.out]; rfl, HBW.out⟩
end Go.Proofs.YtifpmigghplmoaaGreatDoor

/- Valid -/
set_option linter.unusedVariables false
set_option linter.unusedSimpArgs false
namespace Go.Proofs.YtifpmigghplmoaaGreatDoor
open Go.RowKit Go.Pw
theorem within_any (n lo hi : Int) (w : World) : Calls Tryz.prog 71 #[.int .i64 n, .int .i64 lo, .int .i64 hi] w fun e w' => e = .returned (.bool (decide (lo ≤ n) && decide (n ≤ hi))) ∧ w = w' := by
  by_cases h : lo ≤ n
  · have h1 : decide (lo ≤ n) = true := by simpa using h
    go_enter Tryz.func71, Tryz.ntmps71
    go_wp2
    go_ret
    exact ⟨by simp [h], rfl⟩
  · have h1 : decide (lo ≤ n) = false := by simpa using h
    go_enter Tryz.func71, Tryz.ntmps71
    go_wp2
    go_ret
    exact ⟨by simp [h], rfl⟩
theorem keyErr_eq (f1 f2 l1 l2 : Int) (nu re fo bl b1 b2 b3 b4 b5 : Bool) (h1 : (decide (1 ≤ f1) && decide (f1 ≤ 4096)) = b1) (h2 : (decide (1 ≤ f2) && decide (f2 ≤ 4096)) = b2) (h3 : (decide (0 ≤ l1) && decide (l1 ≤ 4096)) = b3) (h4 : (decide (0 ≤ l2) && decide (l2 ≤ 4096)) = b4) (h5 : ((l1 == 0) && (l2 != 0)) = b5) :
    keyErr ⟨f1, f2, l1, l2, nu, re, fo, bl⟩ = if (b1 && b2 && b3 && b4 && !b5) = true then 0 else 3 := by
  subst h1 h2 h3 h4 h5
  unfold keyErr
  simp only [Bool.and_eq_true, decide_eq_true_eq, Bool.not_eq_true', Bool.and_eq_false_iff, beq_eq_false_iff_ne, bne_eq_false_iff_eq]
  congr 1
  apply propext
  constructor
  · rintro ⟨a, b, c, d, e⟩
    refine ⟨⟨⟨⟨a, b⟩, c⟩, d⟩, ?_⟩
    by_cases h : l1 = 0
    · right
      by_cases h2 : l2 = 0
      · exact h2
      · exact absurd ⟨h, h2⟩ e
    · exact .inl h
  · rintro ⟨⟨⟨⟨a, b⟩, c⟩, d⟩, e⟩
    refine ⟨a, b, c, d, ?_⟩
    rintro ⟨x, y⟩
    rcases e with e | e
    · exact e x
    · exact y e
set_option maxHeartbeats 2000000 in
set_option maxRecDepth 100000 in
theorem valid_any (o : Sp) (kv : Value) (w : World) (hk : KeysIn w kv o.keys) (hsp : o.sep.size ≤ 9223372036854775807) :
    Calls Tryz.prog 64 #[spV o kv] w fun e w' => e = .returned (.int .i64 (ordErr o)) ∧ Below w.heap.size w w' := by
  obtain ⟨sep, keys, rv, st, un⟩ := o
  obtain ⟨_, A, cap, rfl, hcap, hmax, hx⟩ := hk
  unfold maxLen at hmax
  have HX := hide hx
  clear hx
  unfold spV
  dsimp only at HX hcap hmax hsp ⊢
  have HB0 := hide ((Below.refl w.heap.size w).alloc (Nat.le_refl _) (.cells #[.string sep, .slice A keys.length cap, .bool rv, .bool st, .bool un] 73))
  by_cases h1 : 1 < sep.size
  · have HE : Hid (ordErr ⟨sep, keys, rv, st, un⟩ = 5) := hide (by unfold ordErr; rw [if_pos (.inl h1)])
    have hd : decide (1 < sep.size) = true := by simpa using h1
    go_enter Tryz.func64, Tryz.ntmps64
    go_wp2_with fail
    go_ret
    exact ⟨by rw [HE.out]; rfl, HB0.out⟩
  · have hd : ¬ ((1 : Int) < (sep.size : Int)) := by omega
    by_cases h2 : sep = ⟨#[10]⟩
    · subst h2
      have HE : Hid (ordErr ⟨⟨#[10]⟩, keys, rv, st, un⟩ = 5) := hide (by unfold ordErr; rw [if_pos (.inr rfl)])
      go_enter Tryz.func64, Tryz.ntmps64
      go_wp2_with fail
      go_ret
      exact ⟨by rw [HE.out]; rfl, HB0.out⟩
    · have h2' : (sep.toList == [10]) = false := by
        rw [Lib.toList_data, beq_eq_false_iff_ne]
        intro e; exact h2 (of_list e)
      by_cases h3 : 8 < keys.length
      · have HE : Hid (ordErr ⟨sep, keys, rv, st, un⟩ = 2) := hide (by unfold ordErr; rw [if_neg (by intro h; rcases h with h | h; exact h1 h; exact h2 h), if_pos h3])
        clear h2 h1
        go_enter Tryz.func64, Tryz.ntmps64
        go_wp2_with fail
        go_ret
        exact ⟨by rw [HE.out]; rfl, HB0.out⟩
      · have HE : Hid (ordErr ⟨sep, keys, rv, st, un⟩ = firstNZ ((keys.drop 0).map keyErr)) := hide (by unfold ordErr; rw [if_neg (by intro h; rcases h with h | h; exact h1 h; exact h2 h), if_neg h3]; rfl)
        clear h2 h1
        go_enter Tryz.func64, Tryz.ntmps64
        go_wp2_with fail
        obtain ⟨W1, hWW⟩ : ∃ W1, w.alloc (.cells #[.string sep, .slice A keys.length cap, .bool rv, .bool st, .bool un] 73) = W1 := ⟨_, rfl⟩
        have hz1 : W1.heap.size = w.heap.size + 1 := by rw [← hWW]; simp
        rw [hWW] at HB0 ⊢
        have HZ1 := hide hz1
        clear hWW hz1 hd h2'
        go_loopw [21] (fun i wr => ∃ k : Nat, k ≤ keys.length ∧ i = .int .i64 (k : Int) ∧ Below W1.heap.size W1 wr ∧ Hid (ordErr ⟨sep, keys, rv, st, un⟩ = firstNZ ((keys.drop k).map keyErr))) (fun i _ => keys.length - (intOf i).toNat)
        case atStart => exact ⟨0, by omega, rfl, Below.refl _ _, HE⟩
        case round =>
          obtain ⟨k, hkn, rfl, hbw, HV⟩ := hrel
          by_cases hlt : k < keys.length
          · obtain ⟨g, o, rfl, hgl, hj⟩ := HX.out (by omega)
            have hzz := hbw.size
            rw [HZ1.out] at hzz
            have hj' : ∀ j u, (kysCells keys)[j]? = some u → wr.cell? ⟨g, o + j, none⟩ = some u := fun j u hu => (hbw.cell (p := ⟨g, o + j, none⟩) (by rw [HZ1.out]; show g < _; omega)).trans ((HB0.out.cell (p := ⟨g, o + j, none⟩) hgl).trans (hj j u hu))
            have hK := List.getElem?_eq_getElem hlt
            obtain ⟨c0, c1, c2, c3, c4, c5, c6, c7⟩ := KeysIn.cells (n := 0) (cap := 0) hj' hK
            obtain ⟨K, hKK⟩ : ∃ K, keys[k] = K := ⟨_, rfl⟩
            have HM := hide (fun (e : keyErr K = 0) => fnz_miss (f := keyErr) HV hlt (by rw [hKK]; exact e))
            have HH := hide (fun (e : keyErr K = 3) => fnz_hit (f := keyErr) (e := 3) HV hlt (by rw [hKK]; exact e) (by decide))
            rw [hKK] at c0 c1 c2 c3 c4 c5 c6 c7
            clear hj hj' hK hKK
            obtain ⟨f1, f2, l1, l2, nu, re, fo, bl⟩ := K
            dsimp only at c0 c1 c2 c3 c4 c5 c6 c7
            obtain ⟨b1, hb1⟩ : ∃ b, (decide (1 ≤ f1) && decide (f1 ≤ 4096)) = b := ⟨_, rfl⟩
            obtain ⟨b2, hb2⟩ : ∃ b, (decide (1 ≤ f2) && decide (f2 ≤ 4096)) = b := ⟨_, rfl⟩
            obtain ⟨b3, hb3⟩ : ∃ b, (decide (0 ≤ l1) && decide (l1 ≤ 4096)) = b := ⟨_, rfl⟩
            obtain ⟨b4, hb4⟩ : ∃ b, (decide (0 ≤ l2) && decide (l2 ≤ 4096)) = b := ⟨_, rfl⟩
            obtain ⟨b5, hb5⟩ : ∃ b, ((l1 == 0) && (l2 != 0)) = b := ⟨_, rfl⟩
            have HKE := hide (keyErr_eq f1 f2 l1 l2 nu re fo bl b1 b2 b3 b4 b5 hb1 hb2 hb3 hb4 hb5)
            have H1 := hide (fun W => within_any f1 1 4096 W)
            have H2 := hide (fun W => within_any f2 1 4096 W)
            have H3 := hide (fun W => within_any l1 0 4096 W)
            have H4 := hide (fun W => within_any l2 0 4096 W)
            simp only [hb1] at H1
            simp only [hb2] at H2
            simp only [hb3] at H3
            simp only [hb4] at H4
            have H5 := hide hb5
            clear hb1 hb2 hb3 hb4 hb5
            have BN := hide (hbw.alloc (o := .cells #[.int .i64 f1, .int .i64 f2, .int .i64 l1, .int .i64 l2, .bool nu, .bool re, .bool fo, .bool bl] 70) hbw.size)
            cases b1
            · have HQ := hide (HH.out (by rw [HKE.out]; rfl))
              go_wp2_with fail
              refine (H1.out _).mono ?_
              rintro e w' ⟨rfl, rfl⟩
              go_wp2_with fail
              go_ret
              exact ⟨by rw [← HQ.out]; rfl, HB0.out.trans (BN.out.mono (by rw [HZ1.out]; omega))⟩
            · cases b2
              · have HQ := hide (HH.out (by rw [HKE.out]; rfl))
                go_wp2_with fail
                refine (H1.out _).mono ?_
                rintro e w' ⟨rfl, rfl⟩
                go_wp2_with fail
                refine (H2.out _).mono ?_
                rintro e w' ⟨rfl, rfl⟩
                go_wp2_with fail
                go_ret
                exact ⟨by rw [← HQ.out]; rfl, HB0.out.trans (BN.out.mono (by rw [HZ1.out]; omega))⟩
              · cases b3
                · have HQ := hide (HH.out (by rw [HKE.out]; rfl))
                  go_wp2_with fail
                  refine (H1.out _).mono ?_
                  rintro e w' ⟨rfl, rfl⟩
                  go_wp2_with fail
                  refine (H2.out _).mono ?_
                  rintro e w' ⟨rfl, rfl⟩
                  go_wp2_with fail
                  refine (H3.out _).mono ?_
                  rintro e w' ⟨rfl, rfl⟩
                  go_wp2_with fail
                  go_ret
                  exact ⟨by rw [← HQ.out]; rfl, HB0.out.trans (BN.out.mono (by rw [HZ1.out]; omega))⟩
                · cases b4
                  · have HQ := hide (HH.out (by rw [HKE.out]; rfl))
                    go_wp2_with fail
                    refine (H1.out _).mono ?_
                    rintro e w' ⟨rfl, rfl⟩
                    go_wp2_with fail
                    refine (H2.out _).mono ?_
                    rintro e w' ⟨rfl, rfl⟩
                    go_wp2_with fail
                    refine (H3.out _).mono ?_
                    rintro e w' ⟨rfl, rfl⟩
                    go_wp2_with fail
                    refine (H4.out _).mono ?_
                    rintro e w' ⟨rfl, rfl⟩
                    go_wp2_with fail
                    go_ret
                    exact ⟨by rw [← HQ.out]; rfl, HB0.out.trans (BN.out.mono (by rw [HZ1.out]; omega))⟩
                  · cases b5
                    · have HQ := hide (HM.out (by rw [HKE.out]; rfl))
                      go_wp2_with fail
                      refine (H1.out _).mono ?_
                      rintro e w' ⟨rfl, rfl⟩
                      go_wp2_with fail
                      refine (H2.out _).mono ?_
                      rintro e w' ⟨rfl, rfl⟩
                      go_wp2_with fail
                      refine (H3.out _).mono ?_
                      rintro e w' ⟨rfl, rfl⟩
                      go_wp2_with fail
                      refine (H4.out _).mono ?_
                      rintro e w' ⟨rfl, rfl⟩
                      have h5 := H5.out
                      cases e5 : (l1 == 0)
                      · clear h5
                        go_wp2_with fail
                        go_roundw
                        case rel => exact ⟨k + 1, by omega, by go_num, BN.out, HQ.out⟩
                        case measure => simp [intOf]; omega
                      · rw [e5] at h5
                        have h6 : (l2 != 0) = false := by simpa using h5
                        clear h5
                        go_wp2_with fail
                        go_roundw
                        case rel => exact ⟨k + 1, by omega, by go_num, BN.out, HQ.out⟩
                        case measure => simp [intOf]; omega
                    · have HQ := hide (HH.out (by rw [HKE.out]; rfl))
                      have h5 := H5.out
                      simp only [Bool.and_eq_true] at h5
                      obtain ⟨e5, e6⟩ := h5
                      go_wp2_with fail
                      refine (H1.out _).mono ?_
                      rintro e w' ⟨rfl, rfl⟩
                      go_wp2_with fail
                      refine (H2.out _).mono ?_
                      rintro e w' ⟨rfl, rfl⟩
                      go_wp2_with fail
                      refine (H3.out _).mono ?_
                      rintro e w' ⟨rfl, rfl⟩
                      go_wp2_with fail
                      refine (H4.out _).mono ?_
                      rintro e w' ⟨rfl, rfl⟩
                      go_wp2_with fail
                      go_ret
                      exact ⟨by rw [← HQ.out]; rfl, HB0.out.trans (BN.out.mono (by rw [HZ1.out]; omega))⟩
          · have HQ := hide (fnz_end (f := keyErr) HV hlt)
            go_wp2_with fail
            go_ret
            exact ⟨ret_int HQ.out, HB0.out.trans (hbw.mono (by rw [HZ1.out]; omega))⟩
theorem good_of_valid {o : Sp} (h : ordErr o = 0) : ∀ k ∈ o.keys, k.good := by
  unfold ordErr at h
  split at h
  · cases h
  · split at h
    · cases h
    · intro k hk
      have : ∀ (l : List Ky), firstNZ (l.map keyErr) = 0 → ∀ k ∈ l, keyErr k = 0 := by
        intro l
        induction l with
        | nil => intro _ k hk; cases hk
        | cons x l ih =>
          intro h k hk
          rw [List.map_cons, firstNZ] at h
          split at h
          · rename_i h0
            rcases List.mem_cons.1 hk with rfl | hk
            · exact h0
            · exact ih h k hk
          · rename_i h0; exact absurd h h0
      have := this _ h k hk
      unfold keyErr at this
      split at this
      · rename_i hh; exact ⟨hh.1, hh.2.1, hh.2.2.1, hh.2.2.2.1⟩
      · cases this
end Go.Proofs.YtifpmigghplmoaaGreatDoor

/- Sorts -/
set_option linter.unusedVariables false
set_option linter.unusedSimpArgs false
namespace Go.Pw
open Go.RowKit
theorem keysIn_but {w w' : World} {N B : Nat} {v : Value} {ks : List Ky} (h : KeysIn w v ks) (hb : But N B w w') (hN : w.heap.size ≤ N) (hB : w.heap.size ≤ B) : KeysIn w' v ks :=
  Rd.keep h hb.size fun p hp => hb.cell (by omega) (by omega)
theorem strs_of_row {w : World} {B n cap : Nat} {l : List ByteArray} (h : RowS w B 0 l) (hl : l.length ≤ cap) (hc : cap ≤ maxLen) (hs : ∀ s ∈ l, s.size ≤ maxLen) : Strs w (.slice (some ⟨B, 0, none⟩) l.length cap) l := by
  refine ⟨⟨by simp, _, _, rfl, hl, hc, fun _ => ⟨B, 0, rfl, h.1, fun j u hu => ?_⟩⟩, hs⟩
  rw [List.getElem?_map] at hu
  cases e : l[j]? with
  | none => rw [e] at hu; cases hu
  | some s => rw [e] at hu; simp at hu; subst hu; exact (h.2 j s e).1
theorem resL_le {m : Nat} : ∀ {l : List ByteArray}, (∀ s ∈ l, s.size ≤ m) → (resL l).length ≤ l.length * (m + 1)
  | [], _ => by simp [resL]
  | s :: l, h => by
    have h1 := h s (by simp)
    have h2 := resL_le (l := l) fun x hx => h x (by simp [hx])
    rw [resL, List.length_append, List.length_cons, len_size, List.length_cons, Nat.succ_mul]
    omega
/-- an order in memory -/
def SpIn (w : World) (b : Nat) (T : TypeId) (o : Sp) (kv : Value) : Prop := w.heap[b]? = some (.cells #[.string o.sep, kv, .bool o.reverse, .bool o.stable, .bool o.unique] T (0, 0))
theorem SpIn.lt {w : World} {b : Nat} {T : TypeId} {o : Sp} {kv : Value} (h : SpIn w b T o kv) : b < w.heap.size := by
  rcases Nat.lt_or_ge b w.heap.size with h' | h'
  · exact h'
  · simp [SpIn, Array.getElem?_eq_none h'] at h
theorem SpIn.below {w w' : World} {b M : Nat} {T : TypeId} {o : Sp} {kv : Value} (h : SpIn w b T o kv) (hb : Below M w w') (hM : b < M) : SpIn w' b T o kv := (hb.block b hM).trans h
theorem SpIn.but {w w' : World} {b N B : Nat} {T : TypeId} {o : Sp} {kv : Value} (h : SpIn w b T o kv) (hb : But N B w w') (hN : b < N) (hB : b ≠ B) : SpIn w' b T o kv := (hb.block b hN hB).trans h
theorem SpIn.cells {w : World} {b : Nat} {T : TypeId} {o : Sp} {kv : Value} (h : SpIn w b T o kv) : w.cell? ⟨b, 0, none⟩ = some (.string o.sep) ∧ w.cell? ⟨b, 1, none⟩ = some kv ∧ w.cell? ⟨b, 2, none⟩ = some (.bool o.reverse) ∧ w.cell? ⟨b, 3, none⟩ = some (.bool o.stable) ∧ w.cell? ⟨b, 4, none⟩ = some (.bool o.unique) := by
  refine ⟨?_, ?_, ?_, ?_, ?_⟩ <;> (rw [Lib.cell_of_heap h]; rfl)
theorem strs_one (w : World) (s : ByteArray) (t : TypeId) (hs : s.size ≤ maxLen) : Strs (w.alloc (.cells #[.string s] t)) (.slice (some ⟨w.heap.size, 0, none⟩) 1 1) [s] := by
  refine ⟨⟨rfl, _, _, rfl, Nat.le_refl _, by unfold maxLen; omega, fun _ => ⟨w.heap.size, 0, rfl, by simp, fun j u hu => ?_⟩⟩, fun x hx => by simp at hx; subst hx; exact hs⟩
  rw [World.cell?_alloc_new]
  simpa using hu
end Go.Pw
namespace Go.Proofs.YtifpmigghplmoaaGreatDoor
open Go.RowKit Go.Pw
set_option maxHeartbeats 1000000 in
theorem told_plain (o : Sp) (kv v : Value) (l : List ByteArray) (w : World) (hu : o.unique = false) (h : Strs w v l) (hlen : (resL l).length ≤ 1000000000) :
    Calls Tryz.prog 69 #[spV o kv, v] w fun e w' => e = .returned (.string (mkB (resL l))) ∧ Below w.heap.size w w' := by
  obtain ⟨sep, keys, rv, st, un⟩ := o
  dsimp only at hu
  subst hu
  have hB0 := ((Below.refl w.heap.size w).alloc (Nat.le_refl _) (.cells #[.string sep, kv, .bool rv, .bool st, .bool false] 124))
  have HR := hide (result_any v l _ (h.below hB0) hlen)
  have HB0 := hide hB0
  clear h hB0
  unfold spV
  dsimp only
  go_enter Tryz.func69, Tryz.ntmps69
  go_wp2_with fail
  refine HR.out.mono ?_
  rintro e w1 ⟨rfl, hb⟩
  have hb2 := HB0.out.trans (hb.mono (by simp))
  clear hb
  go_wp2_with fail
  go_ret
  exact ⟨rfl, hb2⟩

set_option maxHeartbeats 2000000 in
set_option maxRecDepth 100000 in
theorem sort_few (o : Sp) (kv : Value) (s : ByteArray) (w : World) (hk : KeysIn w kv o.keys) (he : ordErr o = 0) (hu : o.unique = false) (hb : bigB s = false) (h0 : 0 < (linesOf s).length) (h20 : (linesOf s).length < 20) :
    Calls Tryz.prog 28 #[spV o kv, .string s] w fun e w' => e = .returned (.tuple #[.string (mkB (resL (insL (fun x y => decide (ordCmp o x y < 0)) 0 (linesOf s).length (linesOf s)))), .int .i64 0]) ∧ Below w.heap.size w w' := by
  obtain ⟨A, cap, rfl⟩ : ∃ A cap, kv = .slice A o.keys.length cap := by
    obtain ⟨_, A, cap, h, _⟩ := hk
    exact ⟨A, cap, h⟩
  have hsz : s.size ≤ 65536 := by
    unfold bigB at hb; simp at hb; omega
  obtain ⟨hlb1, hlb2⟩ := linesOf_bound s
  have hB0 := ((Below.refl w.heap.size w).alloc (Nat.le_refl _) (.cells #[.string o.sep, (.slice A o.keys.length cap), .bool o.reverse, .bool o.stable, .bool o.unique] 73))
  have HN0 : Hid (SpIn (w.alloc (.cells #[.string o.sep, (.slice A o.keys.length cap), .bool o.reverse, .bool o.stable, .bool o.unique] 73)) w.heap.size 73 o (.slice A o.keys.length cap)) := hide (heap_alloc_new _ _)
  have HV := hide (valid_any o (.slice A o.keys.length cap) _ (hk.below hB0) (by
    unfold ordErr at he
    split at he
    · cases he
    · rename_i h; omega))
  have HGD := hide (good_of_valid he)
  have HK := hide hk
  have HB0 := hide hB0
  rw [he] at HV
  have HLB := hide hlb2
  have HBIG := hide hb
  have HU := hide hu
  obtain ⟨L, hL⟩ : ∃ L, linesOf s = L := ⟨_, rfl⟩
  have HLN := hide (lines_any s · (by omega))
  rw [hL] at h0 h20 hlb1 HLB
  simp only [hL] at HLN ⊢
  clear hk hB0 he hb hu hlb2 hL
  obtain ⟨M, hM⟩ : ∃ M, insL (fun x y => decide (ordCmp o x y < 0)) 0 L.length L = M := ⟨_, rfl⟩
  rw [hM]
  have HM := hide hM
  clear hM
  unfold spV at HV ⊢
  go_enter Tryz.func28, Tryz.ntmps28
  go_wp2_with fail
  obtain ⟨W1, hW1⟩ : ∃ W1, w.alloc (.cells #[.string o.sep, (.slice A o.keys.length cap), .bool o.reverse, .bool o.stable, .bool o.unique] 73) = W1 := ⟨_, rfl⟩
  have hz1 : W1.heap.size = w.heap.size + 1 := by rw [← hW1]; simp
  rw [hW1] at HV HB0 HN0 ⊢
  have HZ1 := hide hz1
  clear hW1 hz1
  refine HV.out.mono ?_
  rintro e w1 ⟨rfl, hb1⟩
  have n1 := HN0.out.below hb1 (by rw [HZ1.out]; omega)
  have HB1 := hide (HB0.out.trans (hb1.mono (by rw [HZ1.out]; omega)))
  have HN1 := hide n1
  clear hb1 n1 HV
  have HST := hide (sized_any _ [s] _ (strs_one w1 s 9 (by unfold maxLen; omega)))
  have e0 : ([s].any bigB) = false := by simp [HBIG.out]
  rw [e0] at HST
  clear e0
  go_wp2_with fail
  refine HST.out.mono ?_
  rintro e w2 ⟨rfl, hb2⟩
  have hb2' : Below w1.heap.size w1 w2 := ((Below.refl w1.heap.size w1).alloc (Nat.le_refl _) _).trans (hb2.mono (by simp))
  have n2 := HN1.out.below hb2' HN1.out.lt
  obtain ⟨c0, c1, c2, c3, c4⟩ := n2.cells
  have HB2 := hide (HB1.out.trans (hb2'.mono HB1.out.size))
  clear hb2 hb2' n2 HST
  have HN3 : Hid (SpIn (w2.alloc (.cells #[.string o.sep, (.slice A o.keys.length cap), .bool o.reverse, .bool o.stable, .bool o.unique] 124)) w2.heap.size 124 o (.slice A o.keys.length cap)) := hide (heap_alloc_new _ _)
  have HB3 := hide (HB2.out.alloc HB2.out.size (.cells #[.string o.sep, (.slice A o.keys.length cap), .bool o.reverse, .bool o.stable, .bool o.unique] 124))
  go_wp2_with fail
  obtain ⟨W3, hW3⟩ : ∃ W3, w2.alloc (.cells #[.string o.sep, (.slice A o.keys.length cap), .bool o.reverse, .bool o.stable, .bool o.unique] 124) = W3 := ⟨_, rfl⟩
  have hz3 : W3.heap.size = w2.heap.size + 1 := by rw [← hW3]; simp
  rw [hW3] at HN3 HB3 ⊢
  have HZ3 := hide hz3
  clear hW3 hz3 c0 c1 c2 c3 c4
  refine (HLN.out _).mono ?_
  rintro e w4 ⟨v, rfl, hr⟩
  have hb4 := linesRes_below hr
  obtain ⟨rfl, hrow⟩ := linesRes_row hr h0
  have hwz : w.heap.size ≤ W3.heap.size := HB3.out.size
  have HB4 := hide (HB3.out.trans (hb4.mono hwz))
  have HN4 := hide (HN3.out.below hb4 (by rw [HZ3.out]; omega))
  have hz4 : W3.heap.size < w4.heap.size := hrow.1
  have n4 := HN4.out.cells
  obtain ⟨c0, c1, c2, c3, c4⟩ := n4
  have hkw4 : KeysIn w4 (.slice A o.keys.length cap) o.keys := HK.out.below (HB4.out.mono (Nat.le_refl _))
  have HKW := hide hkw4
  have HSS := hide (sortStable_few (ordCmp o) (spV o (.slice A o.keys.length cap)) w4.heap.size W3.heap.size 0 L.length L w4 hz4 (Nat.le_refl _) hrow (Nat.le_refl _) (by omega) (fun x hx => Nat.le_trans (HLB.out x hx) hsz)
    (fun x y w1' hx hy hbut => compare_any o (.slice A o.keys.length cap) x y w1' (Rd.keep HK.out (Nat.le_trans HB4.out.size hbut.size) fun p hp => (hbut.cell (by have := HB4.out.size; omega) (by omega)).trans (HB4.out.cell hp)) HGD.out (by omega) (by omega)) h20)
  unfold spV at HSS
  clear hr hrow hb4 hkw4
  go_wp2_with fail
  refine HSS.out.mono ?_
  rintro e w5 ⟨rfl, hr5, hb5⟩
  have n5 := HN4.out.but hb5 HN4.out.lt (by rw [HZ3.out]; omega)
  have HB5 := hide (HB4.out.trans (hb5.below HB4.out.size hwz))
  obtain ⟨d0, d1, d2, d3, d4⟩ := n5.cells
  have hMl : M.length = L.length := by rw [← HM.out, insL_length]
  have hMs : ∀ x ∈ M, x.size ≤ 65536 := fun x hx => Nat.le_trans (HLB.out x (mem_insL (by rw [HM.out]; exact hx))) hsz
  rw [HM.out] at hr5
  have hst := strs_of_row (n := 0) (cap := L.length) hr5 (by omega) (by unfold maxLen; omega) (fun x hx => by have := hMs x hx; unfold maxLen; omega)
  rw [hMl] at hst
  have HTD := hide (told_plain o (.slice A o.keys.length cap) _ M w5 HU.out hst (by
    have := resL_le hMs
    rw [hMl] at this
    have : L.length * (65536 + 1) ≤ 20 * 65537 := Nat.mul_le_mul (by omega) (by omega)
    omega))
  unfold spV at HTD
  clear c0 c1 c2 c3 c4 n5 hr5 hb5 hst hMs hMl HSS HB4 HN4 HKW
  go_wp2_with fail
  refine HTD.out.mono ?_
  rintro e w6 ⟨rfl, hb6⟩
  have HB6 := hide (HB5.out.trans (hb6.mono HB5.out.size))
  clear hb6 d0 d1 d2 d3 d4 HTD
  go_wp2_with fail
  go_ret2
  exact ⟨rfl, HB6.out⟩

/-- the order of 'sorts' -/
def soK : Ky := ⟨1, 1, 1, 0, true, false, false, false⟩
def soO : Sp := ⟨⟨#[]⟩, [soK], false, false, false⟩
def soT : ByteArray := ⟨#[49, 48, 32, 97, 10, 57, 32, 98, 10, 57, 32, 97]⟩
theorem soRes : mkB (resL (insL (fun x y => decide (ordCmp soO x y < 0)) 0 (linesOf soT).length (linesOf soT))) = ⟨#[57, 32, 97, 10, 57, 32, 98, 10, 49, 48, 32, 97, 10]⟩ := by decide +kernel
theorem soErr : ordErr soO = 0 := by decide +kernel
theorem soBig : bigB soT = false := by decide +kernel
theorem soLen : (linesOf soT).length = 3 := by decide +kernel

set_option maxHeartbeats 1000000 in
theorem sorts_any (w : World) : Calls Tryz.prog 8 #[] w fun e w' => e = .returned (.bool true) ∧ Below w.heap.size w w' := by
  have hk : KeysIn (w.alloc (.cells #[.int .i64 1, .int .i64 1, .int .i64 1, .int .i64 0, .bool true, .bool false, .bool false, .bool false] 70)) (.slice (some ⟨w.heap.size, 0, none⟩) 1 1) soO.keys := by
    refine ⟨rfl, _, 1, rfl, Nat.le_refl _, by unfold maxLen; omega, fun _ => ⟨w.heap.size, 0, rfl, by simp, fun j u hu => ?_⟩⟩
    rw [World.cell?_alloc_new]
    simpa [kysCells, kyCells, soO, soK] using hu
  have HS := hide (sort_few soO _ soT _ hk soErr rfl soBig (by rw [soLen]; omega) (by rw [soLen]; omega))
  rw [soRes] at HS
  have HB := hide ((Below.refl w.heap.size w).alloc (Nat.le_refl _) (.cells #[.int .i64 1, .int .i64 1, .int .i64 1, .int .i64 0, .bool true, .bool false, .bool false, .bool false] 70))
  clear hk
  unfold spV soO soT at HS
  go_enter Tryz.func8, Tryz.ntmps8
  go_wp2_with fail
  refine HS.out.mono ?_
  rintro e w1 ⟨rfl, hb⟩
  have HB2 := hide (HB.out.trans (hb.mono (by simp)))
  clear hb HS
  go_wp2_with fail
  go_ret
  exact ⟨rfl, HB2.out⟩
end Go.Proofs.YtifpmigghplmoaaGreatDoor

/- LawKit -/
set_option linter.unusedVariables false
set_option linter.unusedSimpArgs false
namespace Go.Proofs.YtifpmigghplmoaaGreatDoor
open Go.RowKit Go.Pw
theorem outcome_bad (t : ByteArray) (n : Int) (w : World) (h : ¬ n = 0) :
    Calls Tryz.prog 13 #[.string ⟨#[]⟩, .int .i64 n, .string t, .int .i64 n] w fun e w' => e = .returned (.bool true) ∧ w = w' := by
  have h' : (n != 0) = true := by simpa using h
  go_enter Tryz.func13, Tryz.ntmps13
  go_wp2
  go_ret
  exact ⟨ret_bool (by simp), rfl⟩
theorem outcome_good (t : ByteArray) (w : World) :
    Calls Tryz.prog 13 #[.string t, .int .i64 0, .string t, .int .i64 0] w fun e w' => e = .returned (.bool true) ∧ w = w' := by
  go_enter Tryz.func13, Tryz.ntmps13
  go_wp2
  go_ret
  exact ⟨ret_bool (by simp), rfl⟩
end Go.Proofs.YtifpmigghplmoaaGreatDoor
