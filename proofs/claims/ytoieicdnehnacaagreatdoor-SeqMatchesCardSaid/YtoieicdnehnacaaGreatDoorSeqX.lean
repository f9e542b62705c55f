/- The program's numbers of a sequence: compare, add, text. -/
import Derived.Test.YtoieicdnehnacaaGreatDoorSeqW
import Derived.Test.YtoieicdnehnacaaGreatDoorKeys
set_option linter.unusedVariables false
set_option linter.unusedSimpArgs false
namespace Go.Pw
open Go.RowKit
/-- a number: its sign, its digits -/
structure ExI (v : Int) (b : Bool) (d : ByteArray) : Prop where
  canon : Canon d.data.toList
  val : valL d.data.toList = v.natAbs
  neg : b = decide (v < 0)
/-- an ending that hands back a number -/
def ExR (v : Int) (e : Ending) : Prop := ∃ b d, e = .returned (.agg #[.bool b, .string d]) ∧ ExI v b d
theorem canon_size {d : ByteArray} {K : Nat} (h : Canon d.data.toList) (hv : valL d.data.toList < 10 ^ K) : d.size ≤ K := by
  have hs := len_size d
  by_cases h0 : 0 < d.data.toList.length
  · have h1 := valL_ge h h0
    have h2 : d.data.toList.length - 1 < K := by
      rcases Nat.lt_or_ge (d.data.toList.length - 1) K with h | h
      · exact h
      · have := Nat.pow_le_pow_right (show 0 < 10 by omega) h
        omega
    omega
  · omega
theorem ExI.size {v : Int} {b : Bool} {d : ByteArray} (h : ExI v b d) (hv : v.natAbs < 10 ^ 100) : d.size ≤ 100 := canon_size h.canon (by rw [h.val]; exact hv)
theorem ExI.zero {v : Int} {b : Bool} {d : ByteArray} (h : ExI v b d) : d.size = 0 ↔ v = 0 := by
  have hs := len_size d
  constructor
  · intro h0
    have : d.data.toList = [] := List.eq_nil_of_length_eq_zero (by omega)
    have hv := h.val
    rw [this] at hv
    simp [valL] at hv
    omega
  · intro h0
    subst h0
    have := canon_zero h.canon (by rw [h.val]; rfl)
    rw [this] at hs
    simpa using hs.symm
/-- a number written, with so many digits behind the full stop, some of them shown -/
def exTx (b : Bool) (l : List UInt8) (pl sh : Nat) : ByteArray :=
  mkB ((if b then [45] else []) ++ ((padL (pl + 1) l).take ((padL (pl + 1) l).length - pl) ++ (if 0 < sh then 46 :: (((padL (pl + 1) l).drop ((padL (pl + 1) l).length - pl)).take sh) else [])))
/-- a number in memory -/
def ExAt (w : World) (b : Nat) (T : TypeId) (s : Bool) (d : ByteArray) : Prop := w.heap[b]? = some (.cells #[.bool s, .string d] T (0, 0))
theorem ExAt.lt {w : World} {b : Nat} {T : TypeId} {s : Bool} {d : ByteArray} (h : ExAt w b T s d) : b < w.heap.size := by
  rcases Nat.lt_or_ge b w.heap.size with h' | h'
  · exact h'
  · simp [ExAt, Array.getElem?_eq_none h'] at h
theorem ExAt.below {w w' : World} {b M : Nat} {T : TypeId} {s : Bool} {d : ByteArray} (h : ExAt w b T s d) (hb : Below M w w') (hM : b < M) : ExAt w' b T s d := (hb.block b hM).trans h
theorem ExAt.cells {w : World} {b : Nat} {T : TypeId} {s : Bool} {d : ByteArray} (h : ExAt w b T s d) : w.cell? ⟨b, 0, none⟩ = some (.bool s) ∧ w.cell? ⟨b, 1, none⟩ = some (.string d) := by
  refine ⟨?_, ?_⟩ <;> (rw [Lib.cell_of_heap h]; rfl)
theorem ExAt.frozen {w : World} {b : Nat} {T : TypeId} {s : Bool} {d : ByteArray} (h : ExAt w b T s d) (j : Nat) : w.frozen? ⟨b, j, none⟩ = false := Lib.frozen_of_heap h j
theorem ExAt.set {w : World} {b : Nat} {T : TypeId} {s : Bool} {d : ByteArray} (h : ExAt w b T s d) (s' : Bool) (d' : ByteArray) : ExAt ((w.setCell ⟨b, 0, none⟩ (.bool s')).setCell ⟨b, 1, none⟩ (.string d')) b T s' d' := by
  unfold ExAt at h ⊢
  simp [World.setCell, Array.getElem?_modify, h]
theorem ex_two (w : World) (T : TypeId) (b1 b2 : Bool) (d1 d2 : ByteArray) : ExAt ((w.alloc (.cells #[.bool b1, .string d1] T)).alloc (.cells #[.bool b2, .string d2] T)) w.heap.size T b1 d1 ∧ ExAt ((w.alloc (.cells #[.bool b1, .string d1] T)).alloc (.cells #[.bool b2, .string d2] T)) (w.heap.size + 1) T b2 d2 := by
  constructor
  · have h : ExAt (w.alloc (.cells #[.bool b1, .string d1] T)) w.heap.size T b1 d1 := heap_alloc_new _ _
    exact h.below ((Below.refl _ _).alloc (Nat.le_refl _) _) (by simp)
  · have h : ExAt ((w.alloc (.cells #[.bool b1, .string d1] T)).alloc (.cells #[.bool b2, .string d2] T)) (w.alloc (.cells #[.bool b1, .string d1] T)).heap.size T b2 d2 := heap_alloc_new _ _
    rw [World.size_alloc] at h
    exact h
/-- the three numbers of an addition in memory -/
structure AEnv (T : TypeId) (b1 b2 : Bool) (d1 d2 : ByteArray) (w W : World) : Prop where
  x : ExAt W w.heap.size T b1 d1
  y : ExAt W (w.heap.size + 1) T b2 d2
  r : ExAt W (w.heap.size + 1 + 1) T false ⟨#[]⟩
  bel : Below w.heap.size w W
theorem AEnv.start (w : World) (T : TypeId) (b1 b2 : Bool) (d1 d2 : ByteArray) : AEnv T b1 b2 d1 d2 w (((w.alloc (.cells #[.bool b1, .string d1] T)).alloc (.cells #[.bool b2, .string d2] T)).alloc (.cells #[.bool false, .string ⟨#[]⟩] T)) := by
  obtain ⟨h1, h2⟩ := ex_two w T b1 b2 d1 d2
  have h3 : ExAt (((w.alloc (.cells #[.bool b1, .string d1] T)).alloc (.cells #[.bool b2, .string d2] T)).alloc (.cells #[.bool false, .string ⟨#[]⟩] T)) ((w.alloc (.cells #[.bool b1, .string d1] T)).alloc (.cells #[.bool b2, .string d2] T)).heap.size T false ⟨#[]⟩ := heap_alloc_new _ _
  rw [World.size_alloc, World.size_alloc] at h3
  have hb := (Below.refl ((w.alloc (.cells #[.bool b1, .string d1] T)).alloc (.cells #[.bool b2, .string d2] T)).heap.size ((w.alloc (.cells #[.bool b1, .string d1] T)).alloc (.cells #[.bool b2, .string d2] T))).alloc (Nat.le_refl _) (.cells #[.bool false, .string ⟨#[]⟩] T)
  exact ⟨h1.below hb h1.lt, h2.below hb h2.lt, h3, (((Below.refl w.heap.size w).alloc (Nat.le_refl _) _).alloc (by simp) _).alloc (by simp; omega) _⟩
theorem AEnv.next {T : TypeId} {b1 b2 : Bool} {d1 d2 : ByteArray} {w W V w' : World} {M : Nat} (h : AEnv T b1 b2 d1 d2 w W) (hb : Below M V w') (e1 : V.heap = W.heap) (e2 : V.os = W.os) (e3 : V.tape = W.tape) (e4 : V.output = W.output) (hM : W.heap.size ≤ M) : AEnv T b1 b2 d1 d2 w w' :=
  ⟨(hb.block _ (Nat.lt_of_lt_of_le h.x.lt hM)).trans (by rw [e1]; exact h.x), (hb.block _ (Nat.lt_of_lt_of_le h.y.lt hM)).trans (by rw [e1]; exact h.y), (hb.block _ (Nat.lt_of_lt_of_le h.r.lt hM)).trans (by rw [e1]; exact h.r), below_next h.bel hb e1 e2 e3 e4 (Nat.le_trans h.bel.size hM)⟩
theorem heap_other {w : World} {b b' j : Nat} {v : Value} (h : b ≠ b') : (w.setCell ⟨b, j, none⟩ v).heap[b']? = w.heap[b']? := by
  simp [World.setCell, Array.getElem?_modify, h]
theorem AEnv.swap {T : TypeId} {b1 b2 : Bool} {d1 d2 : ByteArray} {w W : World} (h : AEnv T b1 b2 d1 d2 w W) : AEnv T b2 b1 d2 d1 w ((((W.setCell ⟨w.heap.size, 0, none⟩ (.bool b2)).setCell ⟨w.heap.size, 1, none⟩ (.string d2)).setCell ⟨w.heap.size + 1, 0, none⟩ (.bool b1)).setCell ⟨w.heap.size + 1, 1, none⟩ (.string d1)) := by
  obtain ⟨h1, h2, h3, h4⟩ := h
  refine ⟨?_, ?_, ?_, ?_⟩
  · unfold ExAt
    rw [heap_other (by omega), heap_other (by omega)]
    exact h1.set b2 d2
  · refine ExAt.set (s := b2) (d := d2) ?_ b1 d1
    unfold ExAt
    rw [heap_other (by omega), heap_other (by omega)]
    exact h2
  · unfold ExAt
    rw [heap_other (by omega), heap_other (by omega), heap_other (by omega), heap_other (by omega)]
    exact h3
  · exact (((h4.setCell (by simp) _).setCell (by simp) _).setCell (by simp) _).setCell (by simp) _
end Go.Pw
namespace Go.Proofs.YtoieicdnehnacaaGreatDoor
open Go.RowKit Go.Pw
theorem info_ex : (Tryz.prog.info? 63).map (·.size) = some 2 := by kernel_rfl
set_option maxHeartbeats 4000000 in
theorem exCmp_any (v1 v2 : Int) (b1 b2 : Bool) (d1 d2 : ByteArray) (w : World) (h1 : ExI v1 b1 d1) (h2 : ExI v2 b2 d2) (hz1 : d1.size ≤ 100) (hz2 : d2.size ≤ 100) :
    Calls Tryz.prog 37 #[.agg #[.bool b1, .string d1], .agg #[.bool b2, .string d2]] w fun e w' => e = .returned (.int .i64 (Lib.compareInt v1 v2)) ∧ Below w.heap.size w w' := by
  have HCD := hide (fun W => cmpDig_any d1 d2 W h1.canon h2.canon (by omega) (by omega))
  rw [h1.val, h2.val] at HCD
  have n1 := h1.neg
  have n2 := h2.neg
  have HB := hide (((Below.refl w.heap.size w).alloc (Nat.le_refl _) (.cells #[.bool b1, .string d1] 63)).alloc (by simp) (.cells #[.bool b2, .string d2] 63))
  clear h1 h2
  cases b1
  · cases b2
    · have HV : Hid (Lib.compareInt (v1.natAbs : Int) (v2.natAbs : Int) = Lib.compareInt v1 v2) := hide (by
        simp at n1 n2
        rw [show (v1.natAbs : Int) = v1 by omega, show (v2.natAbs : Int) = v2 by omega])
      have E0 := (ex_two w 63 false false d1 d2).1
      clear n1 n2
      go_enter Tryz.func37, Tryz.ntmps37
      go_wp2_with fail
      refine (HCD.out _).mono ?_
      rintro e w2 ⟨rfl, hb2⟩
      have HB2 := hide (HB.out.trans (hb2.mono (by simp; omega)))
      obtain ⟨q0, q1⟩ := (E0.below hb2 (by simp; omega)).cells
      clear hb2 E0
      go_wp2_with fail
      go_ret
      exact ⟨by rw [HV.out]; rfl, HB2.out⟩
    · have HV : Hid (Lib.compareInt v1 v2 = 1) := hide (by
        simp at n1 n2
        unfold Lib.compareInt
        rw [if_neg (by omega), if_pos (by omega)])
      clear n1 n2
      go_enter Tryz.func37, Tryz.ntmps37
      go_wp2_with fail
      go_ret
      exact ⟨by rw [HV.out]; rfl, HB.out⟩
  · cases b2
    · have HV : Hid (Lib.compareInt v1 v2 = -1) := hide (by
        simp at n1 n2
        unfold Lib.compareInt
        rw [if_pos (by omega)])
      clear n1 n2
      go_enter Tryz.func37, Tryz.ntmps37
      go_wp2_with fail
      go_ret
      exact ⟨by rw [HV.out]; rfl, HB.out⟩
    · have HV : Hid (Lib.compareInt (v1.natAbs : Int) (v2.natAbs : Int) = -Lib.compareInt v1 v2) := hide (by
        simp at n1 n2
        rw [show (v1.natAbs : Int) = -v1 by omega, show (v2.natAbs : Int) = -v2 by omega]
        unfold Lib.compareInt
        repeat' split
        all_goals omega)
      obtain ⟨C, hC⟩ : ∃ C, Lib.compareInt (v1.natAbs : Int) (v2.natAbs : Int) = C := ⟨_, rfl⟩
      have hcr := ci_range (v1.natAbs : Int) (v2.natAbs : Int)
      rw [hC] at HV hcr
      simp only [hC] at HCD
      obtain ⟨hcr1, hcr2⟩ := hcr
      clear hC
      have E0 := (ex_two w 63 true true d1 d2).1
      clear n1 n2
      go_enter Tryz.func37, Tryz.ntmps37
      go_wp2_with fail
      refine (HCD.out _).mono ?_
      rintro e w2 ⟨rfl, hb2⟩
      have HB2 := hide (HB.out.trans (hb2.mono (by simp; omega)))
      obtain ⟨q0, q1⟩ := (E0.below hb2 (by simp; omega)).cells
      clear hb2 E0
      go_wp2_with fail
      go_ret
      exact ⟨by rw [show Lib.compareInt v1 v2 = -C by have := HV.out; omega]; rfl, HB2.out⟩
set_option maxHeartbeats 4000000 in
set_option maxRecDepth 100000 in
theorem exText_any (v : Int) (b : Bool) (d : ByteArray) (pl sh : Nat) (w : World) (h : Canon d.data.toList) (hz : d.size ≤ 100) (hp : pl ≤ 100) (hs : sh ≤ pl) :
    Calls Tryz.prog 39 #[.agg #[.bool b, .string d], .int .i64 (pl : Int), .int .i64 (sh : Int)] w fun e w' => e = .returned (.string (exTx b d.data.toList pl sh)) ∧ Below w.heap.size w w' := by
  have hdl := len_size d
  have hP : (padL (pl + 1) d.data.toList).length = max (pl + 1) d.size := by
    unfold padL; rw [List.length_append, List.length_replicate]; omega
  have HF := hide (fun W => filled_any d ((pl : Int) + 1) true W (by omega) (by omega) (by omega))
  rw [show ((pl : Int) + 1).toNat = pl + 1 by omega, fillS_dig h.1] at HF
  have HT : Hid (exTx b d.data.toList pl sh = mkB ((if b then [45] else []) ++ ((padL (pl + 1) d.data.toList).take ((padL (pl + 1) d.data.toList).length - pl) ++ (if 0 < sh then 46 :: (((padL (pl + 1) d.data.toList).drop ((padL (pl + 1) d.data.toList).length - pl)).take sh) else [])))) := hide rfl
  obtain ⟨P, hPP⟩ : ∃ P, padL (pl + 1) d.data.toList = P := ⟨_, rfl⟩
  rw [hPP] at hP HF HT
  obtain ⟨S, hS⟩ : ∃ S, mkB P = S := ⟨_, rfl⟩
  have hSd : S.data.toList = P := by rw [← hS]; rfl
  have hSz : S.size = P.length := by rw [← hS, mkB_size]
  rw [hS] at HF
  obtain ⟨q, hq⟩ : ∃ q, S.size - pl = q := ⟨_, rfl⟩
  have hqs : q ≤ S.size := by omega
  have hq0 : pl + 1 ≤ S.size := by omega
  have hqi : (S.size : Int) - (pl : Int) = (q : Int) := by omega
  have hS200 : S.size ≤ 201 := by omega
  have HX1 : Hid (S.extract 0 q = mkB (P.take (P.length - pl))) := hide (by
    rw [← mkB_list (S.extract 0 q), ByteArray.data_extract, Array.toList_extract, List.extract_eq_take_drop, hSd, show q = P.length - pl by omega]
    rfl)
  have HX2 : Hid (S.extract q (q + sh) = mkB ((P.drop (P.length - pl)).take sh)) := hide (by
    rw [← mkB_list (S.extract q (q + sh)), ByteArray.data_extract, Array.toList_extract, List.extract_eq_take_drop, hSd, show q + sh - q = sh by omega, show q = P.length - pl by omega])
  have hqq : q + sh ≤ S.size := by omega
  have E0 : ExAt (w.alloc (.cells #[.bool b, .string d] 63)) w.heap.size 63 b d := heap_alloc_new _ _
  have HB := hide ((Below.refl w.heap.size w).alloc (Nat.le_refl _) (.cells #[.bool b, .string d] 63))
  clear hP hPP hS hSd hSz hq hdl h
  have hqsi : (q : Int) + (sh : Int) ≤ (S.size : Int) := by omega
  have hqn : (q : Int) ≤ (S.size : Int) := by omega
  have hqt : ((q : Int) + (sh : Int)).toNat = q + sh := by omega
  obtain ⟨X1, hX1⟩ : ∃ X1, S.extract 0 q = X1 := ⟨_, rfl⟩
  have hX1s : X1.size ≤ 201 := by rw [← hX1, ByteArray.size_extract]; omega
  obtain ⟨X2, hX2⟩ : ∃ X2, S.extract q (q + sh) = X2 := ⟨_, rfl⟩
  have hX2s : X2.size ≤ 201 := by rw [← hX2, ByteArray.size_extract]; omega
  rw [hX1] at HX1
  rw [hX2] at HX2
  cases b
  · by_cases h0 : 0 < sh
    · skip
      have h0i : (0 : Int) < (sh : Int) := by omega
      have HR : Hid (exTx false d.data.toList pl sh = X1 ++ ((⟨#[46]⟩ : ByteArray) ++ X2)) := hide (by
        rw [HT.out, if_pos h0, HX1.out, HX2.out]
        show _ = mkB _ ++ (mkB [46] ++ mkB _)
        rw [mkB_app', mkB_app']; rfl)
      clear HT
      go_enter Tryz.func39, Tryz.ntmps39
      go_wp2_with fail
      refine (HF.out _).mono ?_
      rintro e w2 ⟨rfl, hb2⟩
      have HB2 := hide (HB.out.trans (hb2.mono (by simp)))
      obtain ⟨q0, q1⟩ := (E0.below hb2 (by simp)).cells
      clear hb2 E0
      go_wp2_with fail
      go_ret
      exact ⟨by rw [HR.out]; rfl, HB2.out⟩
    · skip
      have h0i : ¬ ((0 : Int) < (sh : Int)) := by omega
      have HR : Hid (exTx false d.data.toList pl sh = X1) := hide (by
        rw [HT.out, if_neg h0, HX1.out]
        skip
        simp)
      clear HT
      go_enter Tryz.func39, Tryz.ntmps39
      go_wp2_with fail
      refine (HF.out _).mono ?_
      rintro e w2 ⟨rfl, hb2⟩
      have HB2 := hide (HB.out.trans (hb2.mono (by simp)))
      obtain ⟨q0, q1⟩ := (E0.below hb2 (by simp)).cells
      clear hb2 E0
      go_wp2_with fail
      go_ret
      exact ⟨by rw [HR.out]; rfl, HB2.out⟩
  · by_cases h0 : 0 < sh
    · skip
      have h0i : (0 : Int) < (sh : Int) := by omega
      have HR : Hid (exTx true d.data.toList pl sh = (⟨#[45]⟩ : ByteArray) ++ (X1 ++ ((⟨#[46]⟩ : ByteArray) ++ X2))) := hide (by
        rw [HT.out, if_pos h0, HX1.out, HX2.out]
        show _ = mkB [45] ++ (mkB _ ++ (mkB [46] ++ mkB _))
        rw [mkB_app', mkB_app', mkB_app']; rfl)
      clear HT
      go_enter Tryz.func39, Tryz.ntmps39
      go_wp2_with fail
      refine (HF.out _).mono ?_
      rintro e w2 ⟨rfl, hb2⟩
      have HB2 := hide (HB.out.trans (hb2.mono (by simp)))
      obtain ⟨q0, q1⟩ := (E0.below hb2 (by simp)).cells
      clear hb2 E0
      go_wp2_with fail
      go_ret
      exact ⟨by rw [HR.out]; rfl, HB2.out⟩
    · skip
      have h0i : ¬ ((0 : Int) < (sh : Int)) := by omega
      have HR : Hid (exTx true d.data.toList pl sh = (⟨#[45]⟩ : ByteArray) ++ (X1)) := hide (by
        rw [HT.out, if_neg h0, HX1.out]
        show _ = mkB [45] ++ (mkB _)
        rw [mkB_app', List.append_nil]; rfl)
      clear HT
      go_enter Tryz.func39, Tryz.ntmps39
      go_wp2_with fail
      refine (HF.out _).mono ?_
      rintro e w2 ⟨rfl, hb2⟩
      have HB2 := hide (HB.out.trans (hb2.mono (by simp)))
      obtain ⟨q0, q1⟩ := (E0.below hb2 (by simp)).cells
      clear hb2 E0
      go_wp2_with fail
      go_ret
      exact ⟨by rw [HR.out]; rfl, HB2.out⟩
theorem exResult {fn : Func} {p : Tmp} (h : fn.results = #[.cell p 63]) (tmps : Array Value) (w : World) (g : Nat) (b : Bool) (d : ByteArray)
    (hp : tmps.getD p undef = .pointer (some ⟨g, 0, none⟩)) (hg : ExAt w g 63 b d) : (results fn tmps).run Tryz.prog w = .ok (.agg #[.bool b, .string d]) w :=
  results_cell_row h tmps w g 63 #[.bool b, .string d] (0, 0) _ hp hg Tryz.underlying63 rfl info_ex
theorem exI_same {v1 v2 : Int} {b : Bool} {d : ByteArray} (h1 : b = decide (v1 < 0)) (h2 : b = decide (v2 < 0)) (hc : Canon d.data.toList) (hv : valL d.data.toList = v1.natAbs + v2.natAbs) : ExI (v1 + v2) b d := by
  refine ⟨hc, ?_, ?_⟩
  · cases b <;> simp at h1 h2 <;> omega
  · cases b <;> simp at h1 h2 ⊢ <;> omega
set_option maxHeartbeats 4000000 in
/- add -/
set_option maxRecDepth 100000 in
theorem exAdd_any (v1 v2 : Int) (b1 b2 : Bool) (d1 d2 : ByteArray) (w : World) (h1 : ExI v1 b1 d1) (h2 : ExI v2 b2 d2) (hz1 : d1.size ≤ 100) (hz2 : d2.size ≤ 100) :
    Calls Tryz.prog 38 #[.agg #[.bool b1, .string d1], .agg #[.bool b2, .string d2]] w fun e w' => ExR (v1 + v2) e ∧ Below w.heap.size w w' := by
  cases b1
  · cases b2
    · skip
      have HC := hide (fun W => combAdd_any d1 d2 W h1.canon.1 h2.canon.1 (by omega) (by omega))
      have HV : Hid (∀ d : ByteArray, Canon d.data.toList → valL d.data.toList = valL d1.data.toList + valL d2.data.toList → ExI (v1 + v2) false d) := hide (fun d hc hv => exI_same h1.neg h2.neg hc (by rw [hv, h1.val, h2.val]))
      have EN := hide (AEnv.start w 63 false false d1 d2)
      obtain ⟨W3, hW3⟩ : ∃ W3, ((w.alloc (.cells #[.bool false, .string d1] 63)).alloc (.cells #[.bool false, .string d2] 63)).alloc (.cells #[.bool false, .string ⟨#[]⟩] 63) = W3 := ⟨_, rfl⟩
      have HW3 := hide hW3
      rw [hW3] at EN
      clear h1 h2 hW3
      go_enter Tryz.func38, Tryz.ntmps38
      go_wp2_with fail
      rw [HW3.out]
      obtain ⟨a0, a1⟩ := EN.out.x.cells
      obtain ⟨c0, c1⟩ := EN.out.y.cells
      have hne1 : ¬ (w.heap.size = w.heap.size + 1 + 1) := by omega
      have hne2 : ¬ (w.heap.size + 1 + 1 = w.heap.size) := by omega
      go_region_held3 (fun w' => w'.cell? ⟨w.heap.size, 0, none⟩ = some (.bool false) ∧ w'.cell? ⟨w.heap.size, 1, none⟩ = some (.string d1) ∧ w'.cell? ⟨w.heap.size + 1, 1, none⟩ = some (.string d2)) (go_keep)
        ((go_at_call 101; (with_reducible refine (HC.out _).mono ?_); rintro e w4 ⟨⟨d, rfl, hcd, hvd⟩, hb4⟩; have HD := hide (HV.out d hcd hvd); have EN := hide (AEnv.next EN.out hb4 rfl rfl rfl rfl (Nat.le_refl _)); clear hb4 hcd hvd; obtain ⟨q0, q1⟩ := EN.out.x.cells; obtain ⟨_, q3⟩ := EN.out.y.cells; obtain ⟨q4, q5⟩ := EN.out.r.cells; have q6 := EN.out.r.frozen 0; have q7 := EN.out.r.frozen 1))
      have HR := hide (EN.out.r.set false d)
      have HBZ := hide ((EN.out.bel.setCell (p := ⟨w.heap.size + 1 + 1, 0, none⟩) (by simp; omega) (.bool false)).setCell (p := ⟨w.heap.size + 1 + 1, 1, none⟩) (by simp; omega) (.string d))
      obtain ⟨w5, hw5⟩ : ∃ w5, (w4.setCell ⟨w.heap.size + 1 + 1, 0, none⟩ (.bool false)).setCell ⟨w.heap.size + 1 + 1, 1, none⟩ (.string d) = w5 := ⟨_, rfl⟩
      rw [hw5] at HR HBZ
      rw [hw5]
      clear hw5
      go_wp2_with fail
      (try simp only [Exit.inBlock, Exit.then])
      refine bodyPost_ret (exResult rfl _ _ (w.heap.size + 1 + 1) false d rfl HR.out) rfl ?_
      exact ⟨⟨_, _, rfl, HD.out⟩, HBZ.out⟩
    · skip
      have hva := h1.val
      have hvb := h2.val
      have hn1 := h1.neg
      have hn2 := h2.neg
      simp at hn1 hn2
      have HCD := hide (fun W => cmpDig_any d1 d2 W h1.canon h2.canon (by omega) (by omega))
      rw [hva, hvb] at HCD
      have EN := hide (AEnv.start w 63 false true d1 d2)
      obtain ⟨W3, hW3⟩ : ∃ W3, ((w.alloc (.cells #[.bool false, .string d1] 63)).alloc (.cells #[.bool true, .string d2] 63)).alloc (.cells #[.bool false, .string ⟨#[]⟩] 63) = W3 := ⟨_, rfl⟩
      have HW3 := hide hW3
      rw [hW3] at EN
      clear hW3
      by_cases hlt : v1.natAbs < v2.natAbs
      · have hci : Lib.compareInt (v1.natAbs : Int) (v2.natAbs : Int) = -1 := by unfold Lib.compareInt; rw [if_pos (by omega)]
        rw [hci] at HCD
        have HC := hide (fun W => combSub_any d2 d1 W h2.canon.1 h1.canon.1 (by omega) (by omega) (by omega))
        rw [hva, hvb] at HC
        have HVV := hide (show (v1 + v2).natAbs = v2.natAbs - v1.natAbs ∧ v1 + v2 < 0 by omega)
        clear h1 h2 hva hvb hn1 hn2 hci hlt
        go_enter Tryz.func38, Tryz.ntmps38
        go_wp2_with fail
        rw [HW3.out]
        refine (HCD.out _).mono ?_
        rintro e w4 ⟨rfl, hb4⟩
        have EN := hide (AEnv.next EN.out hb4 rfl rfl rfl rfl (Nat.le_refl _))
        clear hb4
        obtain ⟨a0, a1⟩ := EN.out.x.cells
        obtain ⟨c0, c1⟩ := EN.out.y.cells
        have f0 := EN.out.x.frozen 0
        have f1 := EN.out.x.frozen 1
        have g0 := EN.out.y.frozen 0
        have g1 := EN.out.y.frozen 1
        go_wp2_with fail
        have EN := hide (AEnv.swap EN.out)
        obtain ⟨W5, hW5⟩ : ∃ W5, (((w4.setCell ⟨w.heap.size, 0, none⟩ (.bool true)).setCell ⟨w.heap.size, 1, none⟩ (.string d2)).setCell ⟨w.heap.size + 1, 0, none⟩ (.bool false)).setCell ⟨w.heap.size + 1, 1, none⟩ (.string d1) = W5 := ⟨_, rfl⟩
        rw [hW5] at EN
        rw [hW5]
        clear hW5 a0 a1 c0 c1 f0 f1 g0 g1
        refine (HC.out _).mono ?_
        rintro e w6 ⟨⟨d, rfl, hcd, hvd⟩, hb6⟩
        have EN := hide (AEnv.next EN.out hb6 rfl rfl rfl rfl (Nat.le_refl _))
        clear hb6
        obtain ⟨q0, q1⟩ := EN.out.x.cells
        obtain ⟨q4, q5⟩ := EN.out.r.cells
        have q6 := EN.out.r.frozen 0
        have q7 := EN.out.r.frozen 1
        have hds := len_size d
        have HD : Hid (ExI (v1 + v2) true d) := hide ⟨hcd, by rw [hvd, HVV.out.1], by have := HVV.out.2; simp; omega⟩
        have hd0 : 0 < d.size := by
          have := HVV.out
          rcases Nat.eq_zero_or_pos d.size with h | h
          · have e0 : d.data.toList = [] := List.eq_nil_of_length_eq_zero (by omega)
            rw [e0] at hvd
            simp [valL] at hvd
            omega
          · exact h
        have he := isEmpty_of hd0
        clear hcd hvd hds hd0
        have HR := hide (EN.out.r.set true d)
        have HBZ := hide ((EN.out.bel.setCell (p := ⟨w.heap.size + 1 + 1, 0, none⟩) (by simp; omega) (.bool true)).setCell (p := ⟨w.heap.size + 1 + 1, 1, none⟩) (by simp; omega) (.string d))
        go_wp2_with fail
        (try simp only [Exit.inBlock, Exit.then])
        refine bodyPost_ret (exResult rfl _ _ (w.heap.size + 1 + 1) true d rfl HR.out) rfl ?_
        exact ⟨⟨_, _, rfl, HD.out⟩, HBZ.out⟩
      · have hci : ¬ Lib.compareInt (v1.natAbs : Int) (v2.natAbs : Int) < 0 := by unfold Lib.compareInt; rw [if_neg (by omega)]; split <;> omega
        obtain ⟨C, hC⟩ : ∃ C, Lib.compareInt (v1.natAbs : Int) (v2.natAbs : Int) = C := ⟨_, rfl⟩
        simp only [hC] at HCD
        rw [hC] at hci
        have HC := hide (fun W => combSub_any d1 d2 W h1.canon.1 h2.canon.1 (by omega) (by omega) (by omega))
        rw [hva, hvb] at HC
        have HVV := hide (show (v1 + v2).natAbs = v1.natAbs - v2.natAbs ∧ 0 ≤ v1 + v2 by omega)
        clear h1 h2 hva hvb hn1 hn2 hlt hC
        go_enter Tryz.func38, Tryz.ntmps38
        go_wp2_with fail
        rw [HW3.out]
        refine (HCD.out _).mono ?_
        rintro e w4 ⟨rfl, hb4⟩
        have EN := hide (AEnv.next EN.out hb4 rfl rfl rfl rfl (Nat.le_refl _))
        clear hb4
        obtain ⟨a0, a1⟩ := EN.out.x.cells
        obtain ⟨c0, c1⟩ := EN.out.y.cells
        go_wp2_with fail
        refine (HC.out _).mono ?_
        rintro e w6 ⟨⟨d, rfl, hcd, hvd⟩, hb6⟩
        have EN := hide (AEnv.next EN.out hb6 rfl rfl rfl rfl (Nat.le_refl _))
        clear hb6 a0 a1 c0 c1
        obtain ⟨q0, q1⟩ := EN.out.x.cells
        obtain ⟨q4, q5⟩ := EN.out.r.cells
        have q6 := EN.out.r.frozen 0
        have q7 := EN.out.r.frozen 1
        have hds := len_size d
        have HD : Hid (ExI (v1 + v2) false d) := hide ⟨hcd, by rw [hvd, HVV.out.1], by have := HVV.out.2; simp; omega⟩
        clear hcd hvd hds
        have HR := hide (EN.out.r.set false d)
        have HBZ := hide ((EN.out.bel.setCell (p := ⟨w.heap.size + 1 + 1, 0, none⟩) (by simp; omega) (.bool false)).setCell (p := ⟨w.heap.size + 1 + 1, 1, none⟩) (by simp; omega) (.string d))
        go_wp2_with fail
        (try simp only [Exit.inBlock, Exit.then])
        refine bodyPost_ret (exResult rfl _ _ (w.heap.size + 1 + 1) false d rfl HR.out) rfl ?_
        exact ⟨⟨_, _, rfl, HD.out⟩, HBZ.out⟩
  · cases b2
    · skip
      have hva := h1.val
      have hvb := h2.val
      have hn1 := h1.neg
      have hn2 := h2.neg
      simp at hn1 hn2
      have HCD := hide (fun W => cmpDig_any d1 d2 W h1.canon h2.canon (by omega) (by omega))
      rw [hva, hvb] at HCD
      have EN := hide (AEnv.start w 63 true false d1 d2)
      obtain ⟨W3, hW3⟩ : ∃ W3, ((w.alloc (.cells #[.bool true, .string d1] 63)).alloc (.cells #[.bool false, .string d2] 63)).alloc (.cells #[.bool false, .string ⟨#[]⟩] 63) = W3 := ⟨_, rfl⟩
      have HW3 := hide hW3
      rw [hW3] at EN
      clear hW3
      by_cases hlt : v1.natAbs < v2.natAbs
      · have hci : Lib.compareInt (v1.natAbs : Int) (v2.natAbs : Int) = -1 := by unfold Lib.compareInt; rw [if_pos (by omega)]
        rw [hci] at HCD
        have HC := hide (fun W => combSub_any d2 d1 W h2.canon.1 h1.canon.1 (by omega) (by omega) (by omega))
        rw [hva, hvb] at HC
        have HVV := hide (show (v1 + v2).natAbs = v2.natAbs - v1.natAbs ∧ 0 ≤ v1 + v2 by omega)
        clear h1 h2 hva hvb hn1 hn2 hci hlt
        go_enter Tryz.func38, Tryz.ntmps38
        go_wp2_with fail
        rw [HW3.out]
        refine (HCD.out _).mono ?_
        rintro e w4 ⟨rfl, hb4⟩
        have EN := hide (AEnv.next EN.out hb4 rfl rfl rfl rfl (Nat.le_refl _))
        clear hb4
        obtain ⟨a0, a1⟩ := EN.out.x.cells
        obtain ⟨c0, c1⟩ := EN.out.y.cells
        have f0 := EN.out.x.frozen 0
        have f1 := EN.out.x.frozen 1
        have g0 := EN.out.y.frozen 0
        have g1 := EN.out.y.frozen 1
        go_wp2_with fail
        have EN := hide (AEnv.swap EN.out)
        obtain ⟨W5, hW5⟩ : ∃ W5, (((w4.setCell ⟨w.heap.size, 0, none⟩ (.bool false)).setCell ⟨w.heap.size, 1, none⟩ (.string d2)).setCell ⟨w.heap.size + 1, 0, none⟩ (.bool true)).setCell ⟨w.heap.size + 1, 1, none⟩ (.string d1) = W5 := ⟨_, rfl⟩
        rw [hW5] at EN
        rw [hW5]
        clear hW5 a0 a1 c0 c1 f0 f1 g0 g1
        refine (HC.out _).mono ?_
        rintro e w6 ⟨⟨d, rfl, hcd, hvd⟩, hb6⟩
        have EN := hide (AEnv.next EN.out hb6 rfl rfl rfl rfl (Nat.le_refl _))
        clear hb6
        obtain ⟨q0, q1⟩ := EN.out.x.cells
        obtain ⟨q4, q5⟩ := EN.out.r.cells
        have q6 := EN.out.r.frozen 0
        have q7 := EN.out.r.frozen 1
        have hds := len_size d
        have HD : Hid (ExI (v1 + v2) false d) := hide ⟨hcd, by rw [hvd, HVV.out.1], by have := HVV.out.2; simp; omega⟩
        clear hcd hvd hds
        have HR := hide (EN.out.r.set false d)
        have HBZ := hide ((EN.out.bel.setCell (p := ⟨w.heap.size + 1 + 1, 0, none⟩) (by simp; omega) (.bool false)).setCell (p := ⟨w.heap.size + 1 + 1, 1, none⟩) (by simp; omega) (.string d))
        go_wp2_with fail
        (try simp only [Exit.inBlock, Exit.then])
        refine bodyPost_ret (exResult rfl _ _ (w.heap.size + 1 + 1) false d rfl HR.out) rfl ?_
        exact ⟨⟨_, _, rfl, HD.out⟩, HBZ.out⟩
      · have hci : ¬ Lib.compareInt (v1.natAbs : Int) (v2.natAbs : Int) < 0 := by unfold Lib.compareInt; rw [if_neg (by omega)]; split <;> omega
        obtain ⟨C, hC⟩ : ∃ C, Lib.compareInt (v1.natAbs : Int) (v2.natAbs : Int) = C := ⟨_, rfl⟩
        simp only [hC] at HCD
        rw [hC] at hci
        have HC := hide (fun W => combSub_any d1 d2 W h1.canon.1 h2.canon.1 (by omega) (by omega) (by omega))
        rw [hva, hvb] at HC
        have HVV := hide (show (v1 + v2).natAbs = v1.natAbs - v2.natAbs ∧ v1 + v2 ≤ 0 by omega)
        clear h1 h2 hva hvb hn1 hn2 hlt hC
        go_enter Tryz.func38, Tryz.ntmps38
        go_wp2_with fail
        rw [HW3.out]
        refine (HCD.out _).mono ?_
        rintro e w4 ⟨rfl, hb4⟩
        have EN := hide (AEnv.next EN.out hb4 rfl rfl rfl rfl (Nat.le_refl _))
        clear hb4
        obtain ⟨a0, a1⟩ := EN.out.x.cells
        obtain ⟨c0, c1⟩ := EN.out.y.cells
        go_wp2_with fail
        refine (HC.out _).mono ?_
        rintro e w6 ⟨⟨d, rfl, hcd, hvd⟩, hb6⟩
        have EN := hide (AEnv.next EN.out hb6 rfl rfl rfl rfl (Nat.le_refl _))
        clear hb6 a0 a1 c0 c1
        obtain ⟨q0, q1⟩ := EN.out.x.cells
        obtain ⟨q4, q5⟩ := EN.out.r.cells
        have q6 := EN.out.r.frozen 0
        have q7 := EN.out.r.frozen 1
        have hds := len_size d
        by_cases hd0 : 0 < d.size
        · have HD : Hid (ExI (v1 + v2) true d) := hide ⟨hcd, by rw [hvd, HVV.out.1], by
            have h1 := HVV.out
            have h2 : valL d.data.toList ≠ 0 := fun h0 => by
              have := canon_zero hcd h0
              rw [this] at hds
              simp at hds
              omega
            simp; omega⟩
          have he := isEmpty_of hd0
          clear hcd hvd hds hd0
          have HR := hide (EN.out.r.set true d)
          have HBZ := hide ((EN.out.bel.setCell (p := ⟨w.heap.size + 1 + 1, 0, none⟩) (by simp; omega) (.bool true)).setCell (p := ⟨w.heap.size + 1 + 1, 1, none⟩) (by simp; omega) (.string d))
          go_wp2_with fail
          (try simp only [Exit.inBlock, Exit.then])
          refine bodyPost_ret (exResult rfl _ _ (w.heap.size + 1 + 1) true d rfl HR.out) rfl ?_
          exact ⟨⟨_, _, rfl, HD.out⟩, HBZ.out⟩
        · obtain rfl := empty_of (s := d) (by omega)
          have HD : Hid (ExI (v1 + v2) false ⟨#[]⟩) := hide ⟨hcd, by rw [hvd, HVV.out.1], by
            have h1 := HVV.out
            have h2 : valL (⟨#[]⟩ : ByteArray).data.toList = 0 := rfl
            rw [h2] at hvd
            simp; omega⟩
          clear hcd hvd hds hd0
          have HR := hide (EN.out.r.set false ⟨#[]⟩)
          have HBZ := hide ((EN.out.bel.setCell (p := ⟨w.heap.size + 1 + 1, 0, none⟩) (by simp; omega) (.bool false)).setCell (p := ⟨w.heap.size + 1 + 1, 1, none⟩) (by simp; omega) (.string ⟨#[]⟩))
          go_wp2_with fail
          (try simp only [Exit.inBlock, Exit.then])
          refine bodyPost_ret (exResult rfl _ _ (w.heap.size + 1 + 1) false ⟨#[]⟩ rfl HR.out) rfl ?_
          exact ⟨⟨_, _, rfl, HD.out⟩, HBZ.out⟩
    · skip
      have HC := hide (fun W => combAdd_any d1 d2 W h1.canon.1 h2.canon.1 (by omega) (by omega))
      have HV : Hid (∀ d : ByteArray, Canon d.data.toList → valL d.data.toList = valL d1.data.toList + valL d2.data.toList → ExI (v1 + v2) true d) := hide (fun d hc hv => exI_same h1.neg h2.neg hc (by rw [hv, h1.val, h2.val]))
      have EN := hide (AEnv.start w 63 true true d1 d2)
      obtain ⟨W3, hW3⟩ : ∃ W3, ((w.alloc (.cells #[.bool true, .string d1] 63)).alloc (.cells #[.bool true, .string d2] 63)).alloc (.cells #[.bool false, .string ⟨#[]⟩] 63) = W3 := ⟨_, rfl⟩
      have HW3 := hide hW3
      rw [hW3] at EN
      clear h1 h2 hW3
      go_enter Tryz.func38, Tryz.ntmps38
      go_wp2_with fail
      rw [HW3.out]
      obtain ⟨a0, a1⟩ := EN.out.x.cells
      obtain ⟨c0, c1⟩ := EN.out.y.cells
      have hne1 : ¬ (w.heap.size = w.heap.size + 1 + 1) := by omega
      have hne2 : ¬ (w.heap.size + 1 + 1 = w.heap.size) := by omega
      go_region_held3 (fun w' => w'.cell? ⟨w.heap.size, 0, none⟩ = some (.bool true) ∧ w'.cell? ⟨w.heap.size, 1, none⟩ = some (.string d1) ∧ w'.cell? ⟨w.heap.size + 1, 1, none⟩ = some (.string d2)) (go_keep)
        ((go_at_call 101; (with_reducible refine (HC.out _).mono ?_); rintro e w4 ⟨⟨d, rfl, hcd, hvd⟩, hb4⟩; have HD := hide (HV.out d hcd hvd); have EN := hide (AEnv.next EN.out hb4 rfl rfl rfl rfl (Nat.le_refl _)); clear hb4 hcd hvd; obtain ⟨q0, q1⟩ := EN.out.x.cells; obtain ⟨_, q3⟩ := EN.out.y.cells; obtain ⟨q4, q5⟩ := EN.out.r.cells; have q6 := EN.out.r.frozen 0; have q7 := EN.out.r.frozen 1))
      have HR := hide (EN.out.r.set true d)
      have HBZ := hide ((EN.out.bel.setCell (p := ⟨w.heap.size + 1 + 1, 0, none⟩) (by simp; omega) (.bool true)).setCell (p := ⟨w.heap.size + 1 + 1, 1, none⟩) (by simp; omega) (.string d))
      obtain ⟨w5, hw5⟩ : ∃ w5, (w4.setCell ⟨w.heap.size + 1 + 1, 0, none⟩ (.bool true)).setCell ⟨w.heap.size + 1 + 1, 1, none⟩ (.string d) = w5 := ⟨_, rfl⟩
      rw [hw5] at HR HBZ
      rw [hw5]
      clear hw5
      go_wp2_with fail
      (try simp only [Exit.inBlock, Exit.then])
      refine bodyPost_ret (exResult rfl _ _ (w.heap.size + 1 + 1) true d rfl HR.out) rfl ?_
      exact ⟨⟨_, _, rfl, HD.out⟩, HBZ.out⟩
end Go.Proofs.YtoieicdnehnacaaGreatDoor
