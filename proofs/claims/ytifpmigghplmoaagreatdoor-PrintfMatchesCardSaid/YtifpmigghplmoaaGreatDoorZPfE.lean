/- Printf: the program's read. -/
import Derived.Test.YtifpmigghplmoaaGreatDoorZPfD
import Derived.StillTailTactics
set_option linter.unusedVariables false
set_option linter.unusedSimpArgs false
namespace Go.Pw
open Go.RowKit
/-- a directive in memory -/
def DvRow (t : TypeId) (b : Nat) (d : Dv) (w : World) : Prop := w.heap[b]? = some (.cells (dvC d) t (0, 0))
section
variable {t b : Nat} {d : Dv} {w w' : World}
theorem DvRow.lt (h : DvRow t b d w) : b < w.heap.size := (Array.getElem?_eq_some_iff.1 h).1
theorem DvRow.cells (h : DvRow t b d w) : (w.cell? ⟨b, 0, none⟩ = some (.string (mkB d.tx)) ∧ w.cell? ⟨b, 1, none⟩ = some (.string (mkB d.fl)) ∧ w.cell? ⟨b, 2, none⟩ = some (.int .i64 (d.wd : Int))) ∧ w.cell? ⟨b, 3, none⟩ = some (.bool d.dot) ∧ w.cell? ⟨b, 4, none⟩ = some (.int .i64 (d.pr : Int)) ∧ w.cell? ⟨b, 5, none⟩ = some (.int .u8 (d.lt.toNat : Int)) := by
  unfold DvRow dvC at h
  refine ⟨⟨?_, ?_, ?_⟩, ?_, ?_, ?_⟩ <;> rw [cell_of_row _ _ _ _ _ _ h] <;> rfl
theorem DvRow.frozen (h : DvRow t b d w) (j : Nat) : w.frozen? ⟨b, j, none⟩ = false := Lib.frozen_of_heap h j
theorem DvRow.keep (h : DvRow t b d w) (hb : Below w.heap.size w w') : DvRow t b d w' := (hb.block b h.lt).trans h
theorem DvRow.drew (h : DvRow t b d w) : DvRow t b d w.drew := h
theorem DvRow.setFl (h : DvRow t b d w) (q : List UInt8) : DvRow t b {d with fl := q} (w.setCell ⟨b, 1, none⟩ (.string (mkB q))) := by
  unfold DvRow dvC at h ⊢
  simp [World.setCell, Array.getElem?_modify, h]
theorem DvRow.setWd (h : DvRow t b d w) (n : Nat) : DvRow t b {d with wd := n} (w.setCell ⟨b, 2, none⟩ (.int .i64 (n : Int))) := by
  unfold DvRow dvC at h ⊢
  simp [World.setCell, Array.getElem?_modify, h]
theorem DvRow.setDot (h : DvRow t b d w) (x : Bool) : DvRow t b {d with dot := x} (w.setCell ⟨b, 3, none⟩ (.bool x)) := by
  unfold DvRow dvC at h ⊢
  simp [World.setCell, Array.getElem?_modify, h]
theorem DvRow.setPr (h : DvRow t b d w) (n : Nat) : DvRow t b {d with pr := n} (w.setCell ⟨b, 4, none⟩ (.int .i64 (n : Int))) := by
  unfold DvRow dvC at h ⊢
  simp [World.setCell, Array.getElem?_modify, h]
theorem DvRow.setLt (h : DvRow t b d w) (c : UInt8) : DvRow t b {d with lt := c} (w.setCell ⟨b, 5, none⟩ (.int .u8 (c.toNat : Int))) := by
  unfold DvRow dvC at h ⊢
  simp [World.setCell, Array.getElem?_modify, h]
/-- behind the width -/
def dirC (fl : List UInt8) (wd : Nat) (l2 : List UInt8) : Option (Dv × List UInt8) :=
  let dot := l2.headD 0 == 46
  let pr := if dot then valL ((l2.drop 1).take (dgK (l2.drop 1))) else 0
  let l3 := if dot then (l2.drop 1).drop (dgK (l2.drop 1)) else l2
  match l3 with
  | [] => none
  | c :: r => if c ∈ letL then some (⟨[], fl, wd, dot, pr, c⟩, r) else none
def finD (fl : List UInt8) (wd : Nat) (dot : Bool) (pr : Nat) : List UInt8 → Option (Dv × List UInt8)
  | [] => none
  | c :: r => if c ∈ letL then some (⟨[], fl, wd, dot, pr, c⟩, r) else none
theorem dirC_eq (fl : List UInt8) (wd : Nat) (l2 : List UInt8) : dirC fl wd l2 = finD fl wd (l2.headD 0 == 46) (if l2.headD 0 == 46 then valL ((l2.drop 1).take (dgK (l2.drop 1))) else 0) (if l2.headD 0 == 46 then (l2.drop 1).drop (dgK (l2.drop 1)) else l2) := by
  unfold dirC finD
  first | rfl | (simp only; done) | (simp only; rfl)
def szOf2 (v : Value) : Nat := match v with | .string b => b.size | _ => 0
theorem u8_ne46 {c : UInt8} (h : ¬ c = 46) : ((c.toNat : Int) == 46) = false := by
  have : c.toNat ≠ 46 := fun e => h (UInt8.toNat_inj.1 e)
  simp; omega
theorem rdP_dir {l : List UInt8} (h : ∀ r, l ≠ 37 :: r) : rdP l = match flR [] l with | none => none | some (fl, l1) => dirB fl l1 := by
  unfold rdP
  split
  · rename_i r; exact absurd rfl (h r)
  · rfl
theorem DvRow.setTx (h : DvRow t b d w) (q : List UInt8) : DvRow t b {d with tx := q} (w.setCell ⟨b, 0, none⟩ (.string (mkB q))) := by
  unfold DvRow dvC at h ⊢
  simp [World.setCell, Array.getElem?_modify, h]
theorem DvRow.setFar (h : DvRow t b d w) {b' j : Nat} (hne : b' ≠ b) (u : Value) : DvRow t b d (w.setCell ⟨b', j, none⟩ u) := by
  unfold DvRow at h ⊢
  rw [show (w.setCell ⟨b', j, none⟩ u).heap[b]? = w.heap[b]? by simp [World.setCell, Array.getElem?_modify, hne]]
  exact h
end
section
variable {t b : Nat} {d : Dv} {w w' : World}
/-- a directive laid whole over another one -/
theorem DvRow.all (h : DvRow t b d w) (e : Dv) : DvRow t b e ((((((w.setCell ⟨b, 0, none⟩ (.string (mkB e.tx))).setCell ⟨b, 1, none⟩ (.string (mkB e.fl))).setCell ⟨b, 2, none⟩ (.int .i64 (e.wd : Int))).setCell ⟨b, 3, none⟩ (.bool e.dot)).setCell ⟨b, 4, none⟩ (.int .i64 (e.pr : Int))).setCell ⟨b, 5, none⟩ (.int .u8 (e.lt.toNat : Int))) :=
  (((((h.setTx e.tx).setFl e.fl).setWd e.wd).setDot e.dot).setPr e.pr).setLt e.lt
end
theorem below_six {M b : Nat} {w W : World} (h : Below M w W) (hb : M ≤ b) (e : Dv) : Below M w ((((((W.setCell ⟨b, 0, none⟩ (.string (mkB e.tx))).setCell ⟨b, 1, none⟩ (.string (mkB e.fl))).setCell ⟨b, 2, none⟩ (.int .i64 (e.wd : Int))).setCell ⟨b, 3, none⟩ (.bool e.dot)).setCell ⟨b, 4, none⟩ (.int .i64 (e.pr : Int))).setCell ⟨b, 5, none⟩ (.int .u8 (e.lt.toNat : Int))) :=
  (((((h.setCell (p := ⟨b, 0, none⟩) hb _).setCell (p := ⟨b, 1, none⟩) hb _).setCell (p := ⟨b, 2, none⟩) hb _).setCell (p := ⟨b, 3, none⟩) hb _).setCell (p := ⟨b, 4, none⟩) hb _).setCell (p := ⟨b, 5, none⟩) hb _
def dv0 : Dv := ⟨[], [], 0, false, 0, 0⟩
theorem empty_iff (s : ByteArray) : s.toList.isEmpty = s.data.toList.isEmpty := by rw [Lib.toList_data]
end Go.Pw
namespace Go.Proofs.YtifpmigghplmoaaGreatDoor
open Go.RowKit Go.Pw Go.Shelf
theorem flag_any (c : UInt8) (w : World) : Calls Tryz.prog 42 #[.string ⟨#[45, 43, 32, 48, 35]⟩, .int .u8 (c.toNat : Int)] w fun e w' => e = .returned (.int .i64 (Lib.indexByte flagL c)) ∧ w' = w := by
  have := Tryz.strings_IndexByte ⟨#[45, 43, 32, 48, 35]⟩ (c.toNat : Int) w
  rw [show ((c.toNat : Int)).toNat.toUInt8 = c by simp] at this
  exact this
theorem let_any (c : UInt8) (w : World) : Calls Tryz.prog 42 #[.string ⟨#[100, 105, 117, 111, 120, 88, 99, 115, 98]⟩, .int .u8 (c.toNat : Int)] w fun e w' => e = .returned (.int .i64 (Lib.indexByte letL c)) ∧ w' = w := by
  have := Tryz.strings_IndexByte ⟨#[100, 105, 117, 111, 120, 88, 99, 115, 98]⟩ (c.toNat : Int) w
  rw [show ((c.toNat : Int)).toNat.toUInt8 = c by simp] at this
  exact this
theorem index_iff (l : List UInt8) (c : UInt8) : decide (0 ≤ Lib.indexByte l c) = decide (c ∈ l) := by
  rw [← Lib.contains_iff_indexByte]
  by_cases h : c ∈ l
  · rw [List.contains_iff_mem.2 h, decide_eq_true h]
  · rw [Bool.eq_false_iff.2 (fun e => h (List.contains_iff_mem.1 e)), decide_eq_false h]
set_option maxHeartbeats 8000000 in
set_option maxRecDepth 100000 in
theorem read_pct (s : ByteArray) (w : World) (hs : s.size ≤ 1000000) (r : List UInt8) (h : s.data.toList = 37 :: r) :
    Calls Tryz.prog 79 #[.string s] w fun e w' => readR s.data.toList e ∧ Below w.heap.size w w' := by
  have HPX := hide (fun W => Tryz.strings_HasPrefix s ⟨#[37]⟩ W)
  have hp : Lib.hasPrefix s.data.toList (⟨#[37]⟩ : ByteArray).data.toList = true := by rw [h]; rfl
  simp only [hp] at HPX
  have HX : Hid (s.extract 1 s.size = mkB r) := hide (by rw [extract_drop, h]; rfl)
  have hlen : 1 ≤ s.size := by rw [← len_size s, h]; simp
  have g0 : (1 : Int) ≤ (s.size : Int) := by omega
  have HV : Hid (rdP s.data.toList = some (⟨[37], [], 0, false, 0, 0⟩, r)) := hide (by rw [h]; rfl)
  clear hp h
  go_enter Tryz.func79, Tryz.ntmps79
  go_wp2_with fail
  refine (HPX.out _).mono ?_
  rintro e w' ⟨rfl, rfl⟩
  go_wp2_with fail
  go_region
  all_goals
    go_wp2_with fail
    refine bodyPost_ret (results_dv rfl _ _ _ ⟨[37], [], 0, false, 0, 0⟩ rfl (heap_alloc_new _ _)) rfl ⟨?_, ((Below.refl _ _).alloc (Nat.le_refl _) _).drew⟩
    unfold readR
    rw [HV.out]
    simp only
    rw [← HX.out]
    rfl
set_option maxHeartbeats 8000000 in
set_option maxRecDepth 100000 in
theorem read_dir (s : ByteArray) (w : World) (hs : s.size ≤ 1000000) (h : ∀ r, s.data.toList ≠ 37 :: r) :
    Calls Tryz.prog 79 #[.string s] w fun e w' => readR s.data.toList e ∧ Below w.heap.size w w' := by
  have HPX := hide (fun W => Tryz.strings_HasPrefix s ⟨#[37]⟩ W)
  have hp : Lib.hasPrefix s.data.toList (⟨#[37]⟩ : ByteArray).data.toList = false := by
    cases hl : s.data.toList with
    | nil => rfl
    | cons c r =>
      have hc : c ≠ 37 := fun e => h r (by rw [hl, e])
      show Lib.hasPrefix (c :: r) [37] = false
      simp [Lib.hasPrefix, List.isPrefixOf, Ne.symm hc]
  simp only [hp] at HPX
  have HV : Hid (rdP s.data.toList = match flR [] s.data.toList with | none => none | some (fl, l1) => dirB fl l1) := hide (rdP_dir h)
  have HLS := hide (len_size s)
  clear hp h
  go_enter Tryz.func79, Tryz.ntmps79
  go_wp2_with fail
  refine (HPX.out _).mono ?_
  rintro e w' ⟨rfl, rfl⟩
  go_wp2_with fail
  have hW1 : ∃ W1, (w.alloc (.cells #[.string ⟨#[]⟩, .string ⟨#[]⟩, .int .i64 0, .bool false, .int .i64 0, .int .u8 0] 89)).alloc (.cells #[.string ⟨#[]⟩, .string ⟨#[]⟩, .int .i64 0, .bool false, .int .i64 0, .int .u8 0] 89) = W1 := ⟨_, rfl⟩
  obtain ⟨W1, hW1⟩ := hW1
  have HR1 : Hid (DvRow 89 w.heap.size dv0 W1) := hide (by rw [← hW1]; exact (heap_alloc_old _ _ (by simp)).trans (heap_alloc_new w _))
  have HR2 : Hid (DvRow 89 (w.heap.size + 1) dv0 W1) := hide (by
    rw [← hW1]
    have h := heap_alloc_new (w.alloc (.cells #[.string ⟨#[]⟩, .string ⟨#[]⟩, .int .i64 0, .bool false, .int .i64 0, .int .u8 0] 89)) (.cells #[.string ⟨#[]⟩, .string ⟨#[]⟩, .int .i64 0, .bool false, .int .i64 0, .int .u8 0] 89)
    rw [show (w.alloc (.cells #[.string ⟨#[]⟩, .string ⟨#[]⟩, .int .i64 0, .bool false, .int .i64 0, .int .u8 0] 89)).heap.size = w.heap.size + 1 by simp] at h
    exact h)
  have HBW1 : Hid (Below w.heap.size w W1) := hide (by rw [← hW1]; exact ((Below.refl _ _).alloc (Nat.le_refl _) _).alloc (by simp) _)
  rw [hW1]
  clear hW1
  obtain ⟨b, hb0⟩ : ∃ b, w.heap.size = b := ⟨_, rfl⟩
  have HBN := hide hb0
  rw [hb0] at HR1 HR2 ⊢
  have HS0 : Hid (s = mkB s.data.toList) := hide (mkB_list s).symm
  have hsz0 : s.data.toList.length = s.size := len_size s
  clear hb0
  go_loopw [0] (fun v wr => ∃ (fl l : List UInt8), v = .string (mkB l) ∧ fl.length + l.length ≤ s.size ∧ Hid (flR [] s.data.toList = flR fl l) ∧ Hid (DvRow 89 b dv0 wr) ∧ Hid (DvRow 89 (b + 1) {dv0 with fl := fl} wr) ∧ Hid (Below w.heap.size w wr)) (fun v _ => szOf2 v)
  case atStart => exact ⟨[], s.data.toList, by rw [← HS0.out], by simp [hsz0], hide rfl, HR1, HR2, HBW1⟩
  case round =>
    obtain ⟨fl, l, rfl, hlen, HF, HB1R, HB2R, HBW⟩ := hrel
    have hlb := HB2R.out.lt
    cases l with
    | nil =>
      have hemp : (mkB ([] : List UInt8)).toList.isEmpty = true := by rw [Lib.toList_data, mkB_data2]; rfl
      have HN : Hid (rdP s.data.toList = none) := hide (by rw [HV.out, HF.out]; rfl)
      have HDI := hide (fun W => digitsIn_any (mkB []) W (by simp [mkB, ByteArray.size]))
      simp only [mkB_data2] at HDI
      have ev : valL (([] : List UInt8).take (dgK [])) = 0 := by simp [valL]
      have ed : ([] : List UInt8).drop (dgK []) = [] := by simp
      rw [ev, ed] at HDI
      go_wp2_with fail
      refine (HDI.out _).mono ?_
      rintro e w3 ⟨rfl, hb3⟩
      have HBW3 := hide (HBW.out.trans (hb3.mono HBW.out.size))
      have R1a : Hid (DvRow 89 b dv0 w3) := hide (HB1R.out.keep hb3)
      have R2a : Hid (DvRow 89 (b + 1) {dv0 with fl := fl} w3) := hide (HB2R.out.keep hb3)
      have R2 : Hid (DvRow 89 (b + 1) {dv0 with fl := fl, wd := 0} (w3.setCell ⟨b + 1, 2, none⟩ (.int .i64 0))) := hide (R2a.out.setWd 0)
      have R1 : Hid (DvRow 89 b dv0 (w3.setCell ⟨b + 1, 2, none⟩ (.int .i64 0))) := hide (R1a.out.setFar (by omega) _)
      have HBR : Hid (Below w.heap.size w (w3.setCell ⟨b + 1, 2, none⟩ (.int .i64 0))) := hide (HBW3.out.setCell (p := ⟨b + 1, 2, none⟩) (Nat.le_trans (Nat.le_of_eq HBN.out) (Nat.le_succ b)) _)
      obtain ⟨⟨t0, t1, t2⟩, t3, t4, t5⟩ := R2a.out.cells
      have t6 := R2a.out.frozen 2
      clear hb3
      obtain ⟨⟨x0, x1, x2⟩, x3, x4, x5⟩ := R1.out.cells
      obtain ⟨⟨y0, y1, y2⟩, y3, y4, y5⟩ := R2.out.cells
      have z0 := R1.out.frozen 0
      have z1 := R1.out.frozen 1
      have z2 := R1.out.frozen 2
      have z3 := R1.out.frozen 3
      have z4 := R1.out.frozen 4
      have z5 := R1.out.frozen 5
      have v2 := R2.out.frozen 2
      have v3 := R2.out.frozen 3
      have v4 := R2.out.frozen 4
      have v5 := R2.out.frozen 5
      have hl1 := R1.out.lt
      have hl2 := R2.out.lt
      go_wp2_with fail
      refine bodyPost_ret (results_dv rfl _ _ b {dv0 with fl := fl, wd := 0} rfl (R1.out.all {dv0 with fl := fl, wd := 0})) rfl ⟨?_, below_six HBR.out (Nat.le_of_eq HBN.out) {dv0 with fl := fl, wd := 0}⟩
      unfold readR
      rw [HN.out]
      exact ⟨_, _, rfl⟩
    | cons c r =>
      have hemp : (mkB (c :: r)).toList.isEmpty = false := by rw [Lib.toList_data, mkB_data2]; rfl
      have hml : (mkB (c :: r)).size = r.length + 1 := by unfold mkB; show (c :: r).toArray.size = _; simp
      have HC0 : Hid ((mkB (c :: r))[0]'(by rw [hml]; omega) = c) := hide rfl
      have hixm := index_iff flagL c
      have HFA := hide (fun W => flag_any c W)
      obtain ⟨ix, hix⟩ : ∃ x, Lib.indexByte flagL c = x := ⟨_, rfl⟩
      rw [hix] at hixm
      simp only [hix] at HFA
      have HX1 : Hid ((mkB (c :: r)).extract 0 1 = ⟨#[c]⟩) := hide (by rw [extract_take, mkB_data2]; rfl)
      have HX2 : Hid ((mkB (c :: r)).extract 1 (mkB (c :: r)).size = mkB r) := hide (by rw [extract_drop, mkB_data2]; rfl)
      rw [List.length_cons] at hlen
      obtain ⟨q, hq⟩ : ∃ q, mkB (c :: r) = q := ⟨_, rfl⟩
      have HQ := hide hq
      rw [hq] at hemp
      have hqs : q.size = r.length + 1 := by rw [← hq]; exact hml
      have hq0 : 0 < q.size := by omega
      have HQ0 : Hid (q[0] = c) := hide (by subst hq; rfl)
      rw [hq] at HX1 HX2 ⊢
      have hq1 : (1 : Int) ≤ (q.size : Int) := by omega
      have hq2 : (0 : Int) < (q.size : Int) := by omega
      rw [← HQ0.out] at HFA
      have HQS := hide hqs
      clear hq hml hix HC0 hqs
      by_cases hm : c ∈ flagL
      · have hix0 : 0 ≤ ix := by rw [decide_eq_true hm] at hixm; exact of_decide_eq_true hixm
        have HM := hide hm
        clear hixm hm
        go_wp2_with fail
        refine (HFA.out _).mono ?_
        rintro e w2 ⟨rfl, rfl⟩
        obtain ⟨⟨y0, y1, y2⟩, y3, y4, y5⟩ := HB2R.out.cells
        go_wp2_with fail
        have HHA := hide (fun W => has_any {dv0 with fl := fl} c W)
        simp only [← HX1.out] at HHA
        go_still_tail 3, (by kernel_rfl)
        go_wp2_with fail
        refine (HHA.out _).mono ?_
        rintro e w3 ⟨rfl, hb3⟩
        have HBW3 := hide (HBW.out.drew.trans (hb3.mono HBW.out.size))
        have R1 : Hid (DvRow 89 b dv0 w3) := hide (DvRow.keep (w := w2.drew) HB1R.out hb3)
        have R2 : Hid (DvRow 89 (b + 1) {dv0 with fl := fl} w3) := hide (DvRow.keep (w := w2.drew) HB2R.out hb3)
        clear hb3 y0 y1 y2 y3 y4 y5
        obtain ⟨⟨x0, x1, x2⟩, x3, x4, x5⟩ := R1.out.cells
        obtain ⟨⟨y0, y1, y2⟩, y3, y4, y5⟩ := R2.out.cells
        have z0 := R1.out.frozen 0
        have z1 := R1.out.frozen 1
        have z2 := R1.out.frozen 2
        have z3 := R1.out.frozen 3
        have z4 := R1.out.frozen 4
        have z5 := R1.out.frozen 5
        have hl1 := R1.out.lt
        have hl2 := R2.out.lt
        by_cases hdup : c ∈ fl
        · have hdd : decide (c ∈ ({dv0 with fl := fl} : Dv).fl) = true := decide_eq_true hdup
          have HN : Hid (rdP s.data.toList = none) := hide (by rw [HV.out, HF.out, flR, if_pos HM.out, if_pos hdup])
          rw [hdd]
          clear hdd hdup
          have HBR := HBW3
          go_wp2_with fail
          refine bodyPost_ret (results_dv rfl _ _ b {dv0 with fl := fl} rfl (R1.out.all {dv0 with fl := fl})) rfl ⟨?_, below_six HBR.out (Nat.le_of_eq HBN.out) {dv0 with fl := fl}⟩
          unfold readR
          rw [HN.out]
          exact ⟨_, _, rfl⟩
        · have hdd : decide (c ∈ ({dv0 with fl := fl} : Dv).fl) = false := decide_eq_false hdup
          have HN : Hid (flR [] s.data.toList = flR (fl ++ [c]) r) := hide (by rw [HF.out, flR, if_pos HM.out, if_neg hdup])
          rw [hdd]
          clear hdd hdup
          have zf := R2.out.frozen 1
          have hsa : ¬ (9223372036854775807 < (mkB fl).size + (q.extract 0 1).size) := by
            have e1 : (mkB fl).size = fl.length := by unfold mkB; show fl.toArray.size = _; simp
            rw [e1, ByteArray.size_extract]; have := HQS.out; omega
          have HAPP : Hid (mkB fl ++ q.extract 0 1 = mkB (fl ++ [c])) := hide (by rw [HX1.out]; exact mkB_app' fl [c])
          have hme : szOf2 (.string (q.extract 1 q.size)) < szOf2 (.string q) := by show (q.extract 1 q.size).size < q.size; rw [ByteArray.size_extract]; omega
          go_wp2_with fail
          go_region
          all_goals
            go_wp2_with fail
            rw [HAPP.out]
            go_roundw
            case rel => exact ⟨fl ++ [c], r, by rw [HX2.out], by rw [List.length_append, List.length_singleton]; omega, HN, hide (R1.out.setFar (by omega) _), hide (R2.out.setFl (fl ++ [c])), hide (HBW3.out.setCell (p := ⟨b + 1, 1, none⟩) (Nat.le_trans (Nat.le_of_eq HBN.out) (Nat.le_succ b)) _).drew⟩
            case measure => exact hme
      · have hix0 : ¬ 0 ≤ ix := by rw [decide_eq_false hm] at hixm; exact of_decide_eq_false hixm
        have HST : Hid (rdP s.data.toList = dirB fl (c :: r)) := hide (by rw [HV.out, HF.out, flR, if_neg hm])
        have HQL : Hid (q.data.toList = c :: r) := hide (by rw [← HQ.out, mkB_data2])
        have HDI := hide (fun W => digitsIn_any q W (by have := HQS.out; omega))
        clear hixm hm
        go_wp2_with fail
        refine (HFA.out _).mono ?_
        rintro e w2 ⟨rfl, rfl⟩
        go_wp2_with fail
        refine (HDI.out _).mono ?_
        rintro e w3 ⟨rfl, hb3⟩
        have HBW3 := hide (HBW.out.trans (hb3.mono HBW.out.size))
        have R1a : Hid (DvRow 89 b dv0 w3) := hide (HB1R.out.keep hb3)
        have R2a : Hid (DvRow 89 (b + 1) {dv0 with fl := fl} w3) := hide (HB2R.out.keep hb3)
        rw [HQL.out]
        have hwd := dgK_val (c :: r)
        obtain ⟨wd, hwdE⟩ : ∃ x, valL ((c :: r).take (dgK (c :: r))) = x := ⟨_, rfl⟩
        have HL2 : Hid (((c :: r).drop (dgK (c :: r))).length ≤ r.length + 1) := hide (by rw [List.length_drop]; simp)
        obtain ⟨l2, hl2E⟩ : ∃ x, (c :: r).drop (dgK (c :: r)) = x := ⟨_, rfl⟩
        have HST2 : Hid (rdP s.data.toList = dirC fl wd l2) := hide (by rw [HST.out]; unfold dirB dirC; simp only [hwdE, hl2E]; rfl)
        rw [hl2E] at HL2
        rw [hwdE] at hwd
        rw [hwdE, hl2E]
        have R2b : Hid (DvRow 89 (b + 1) {dv0 with fl := fl, wd := wd} (w3.setCell ⟨b + 1, 2, none⟩ (.int .i64 (wd : Int)))) := hide (R2a.out.setWd wd)
        have R1b : Hid (DvRow 89 b dv0 (w3.setCell ⟨b + 1, 2, none⟩ (.int .i64 (wd : Int)))) := hide (R1a.out.setFar (by omega) _)
        have HBWb : Hid (Below w.heap.size w (w3.setCell ⟨b + 1, 2, none⟩ (.int .i64 (wd : Int)))) := hide (HBW3.out.setCell (p := ⟨b + 1, 2, none⟩) (Nat.le_trans (Nat.le_of_eq HBN.out) (Nat.le_succ b)) _)
        obtain ⟨⟨t0, t1, t2⟩, t3, t4, t5⟩ := R2a.out.cells
        have t6 := R2a.out.frozen 2
        clear hb3 hwdE hl2E
        cases l2 with
        | nil =>
          have HST3 : Hid (rdP s.data.toList = finD fl wd false 0 []) := hide (by rw [HST2.out]; rfl)
          have hem : (mkB ([] : List UInt8)).toList.isEmpty = true := by rw [Lib.toList_data, mkB_data2]; rfl
          have HN : Hid (rdP s.data.toList = none) := hide (by rw [HST3.out]; rfl)
          have R1 := R1b
          have R2 := R2b
          have HBR := HBWb
          obtain ⟨⟨x0, x1, x2⟩, x3, x4, x5⟩ := R1.out.cells
          obtain ⟨⟨y0, y1, y2⟩, y3, y4, y5⟩ := R2.out.cells
          have z0 := R1.out.frozen 0
          have z1 := R1.out.frozen 1
          have z2 := R1.out.frozen 2
          have z3 := R1.out.frozen 3
          have z4 := R1.out.frozen 4
          have z5 := R1.out.frozen 5
          have v2 := R2.out.frozen 2
          have v3 := R2.out.frozen 3
          have v4 := R2.out.frozen 4
          have v5 := R2.out.frozen 5
          have hl1 := R1.out.lt
          have hl2 := R2.out.lt
          go_wp2_with fail
          refine bodyPost_ret (results_dv rfl _ _ b {dv0 with fl := fl, wd := wd} rfl (R1.out.all {dv0 with fl := fl, wd := wd})) rfl ⟨?_, below_six HBR.out (Nat.le_of_eq HBN.out) {dv0 with fl := fl, wd := wd}⟩
          unfold readR
          rw [HN.out]
          exact ⟨_, _, rfl⟩
        | cons c2 r2 =>
          have hem2 : (mkB (c2 :: r2)).toList.isEmpty = false := by rw [Lib.toList_data, mkB_data2]; rfl
          have HX22 : Hid ((mkB (c2 :: r2)).extract 1 (mkB (c2 :: r2)).size = mkB r2) := hide (by rw [extract_drop, mkB_data2]; rfl)
          have HQ2S : Hid ((mkB (c2 :: r2)).size = r2.length + 1) := hide (by unfold mkB; show (c2 :: r2).toArray.size = _; simp)
          by_cases h46 : c2 = 46
          · obtain ⟨q2, hq2E⟩ : ∃ q, mkB (c2 :: r2) = q := ⟨_, rfl⟩
            have hq20 : 0 < q2.size := by rw [← hq2E, HQ2S.out]; omega
            have HQ20 : Hid (q2[0] = c2) := hide (by subst hq2E; rfl)
            rw [hq2E] at hem2 HX22 HQ2S ⊢
            have i0 : (0 : Int) < (q2.size : Int) := by omega
            have i1 : (1 : Int) ≤ (q2.size : Int) := by omega
            clear hq2E
            have e46 : ((q2[0].toNat : Int) == 46) = true := by rw [HQ20.out, h46]; rfl
            have HDI2 := hide (fun W => digitsIn_any (q2.extract 1 q2.size) W (by rw [ByteArray.size_extract]; have := HQ2S.out; have := HL2.out; simp at this; omega))
            have HXQ : Hid ((q2.extract 1 q2.size).data.toList = r2) := hide (by rw [HX22.out, mkB_data2])
            simp only [HXQ.out] at HDI2
            have hpr := dgK_val r2
            obtain ⟨pr, hprE⟩ : ∃ x, valL (r2.take (dgK r2)) = x := ⟨_, rfl⟩
            obtain ⟨l3, hl3E⟩ : ∃ x, r2.drop (dgK r2) = x := ⟨_, rfl⟩
            have HST3 : Hid (rdP s.data.toList = finD fl wd true pr l3) := hide (by
              rw [HST2.out, h46, dirC_eq]
              have e : (((46 : UInt8) :: r2).headD 0 == 46) = true := rfl
              simp only [e, if_true, List.drop_succ_cons, List.drop_zero, hprE, hl3E])
            simp only [hprE, hl3E] at HDI2
            rw [hprE] at hpr
            clear h46 hprE hl3E
            have R2c : Hid (DvRow 89 (b + 1) {dv0 with fl := fl, wd := wd, dot := true} ((w3.setCell ⟨b + 1, 2, none⟩ (.int .i64 (wd : Int))).setCell ⟨b + 1, 3, none⟩ (.bool true))) := hide (R2b.out.setDot true)
            have R1c : Hid (DvRow 89 b dv0 ((w3.setCell ⟨b + 1, 2, none⟩ (.int .i64 (wd : Int))).setCell ⟨b + 1, 3, none⟩ (.bool true))) := hide (R1b.out.setFar (by omega) _)
            have HBWc : Hid (Below w.heap.size w ((w3.setCell ⟨b + 1, 2, none⟩ (.int .i64 (wd : Int))).setCell ⟨b + 1, 3, none⟩ (.bool true))) := hide (HBWb.out.setCell (p := ⟨b + 1, 3, none⟩) (Nat.le_trans (Nat.le_of_eq HBN.out) (Nat.le_succ b)) _)
            have s6 := R2b.out.frozen 3
            have t7 := R2a.out.frozen 3
            go_wp2_with fail
            refine (HDI2.out _).mono ?_
            rintro e w4 ⟨rfl, hb4⟩
            have HBWd := hide (HBWc.out.trans (hb4.mono HBWc.out.size))
            have R1d : Hid (DvRow 89 b dv0 w4) := hide (R1c.out.keep hb4)
            have R2d : Hid (DvRow 89 (b + 1) {dv0 with fl := fl, wd := wd, dot := true} w4) := hide (R2c.out.keep hb4)
            have R2 : Hid (DvRow 89 (b + 1) {dv0 with fl := fl, wd := wd, dot := true, pr := pr} (w4.setCell ⟨b + 1, 4, none⟩ (.int .i64 (pr : Int)))) := hide (R2d.out.setPr pr)
            have R1 : Hid (DvRow 89 b dv0 (w4.setCell ⟨b + 1, 4, none⟩ (.int .i64 (pr : Int)))) := hide (R1d.out.setFar (by omega) _)
            have HBR : Hid (Below w.heap.size w (w4.setCell ⟨b + 1, 4, none⟩ (.int .i64 (pr : Int)))) := hide (HBWd.out.setCell (p := ⟨b + 1, 4, none⟩) (Nat.le_trans (Nat.le_of_eq HBN.out) (Nat.le_succ b)) _)
            obtain ⟨⟨p0, p1, p2⟩, p3, p4, p5⟩ := R2d.out.cells
            have p6 := R2d.out.frozen 4
            clear hb4
            cases l3 with
            | nil =>
              have hem : (mkB ([] : List UInt8)).toList.isEmpty = true := by rw [Lib.toList_data, mkB_data2]; rfl
              have HN : Hid (rdP s.data.toList = none) := hide (by rw [HST3.out]; rfl)
              obtain ⟨⟨x0, x1, x2⟩, x3, x4, x5⟩ := R1.out.cells
              obtain ⟨⟨y0, y1, y2⟩, y3, y4, y5⟩ := R2.out.cells
              have z0 := R1.out.frozen 0
              have z1 := R1.out.frozen 1
              have z2 := R1.out.frozen 2
              have z3 := R1.out.frozen 3
              have z4 := R1.out.frozen 4
              have z5 := R1.out.frozen 5
              have v2 := R2.out.frozen 2
              have v3 := R2.out.frozen 3
              have v4 := R2.out.frozen 4
              have v5 := R2.out.frozen 5
              have hl1 := R1.out.lt
              have hl2 := R2.out.lt
              go_wp2_with fail
              refine bodyPost_ret (results_dv rfl _ _ b {dv0 with fl := fl, wd := wd, dot := true, pr := pr} rfl (R1.out.all {dv0 with fl := fl, wd := wd, dot := true, pr := pr})) rfl ⟨?_, below_six HBR.out (Nat.le_of_eq HBN.out) {dv0 with fl := fl, wd := wd, dot := true, pr := pr}⟩
              unfold readR
              rw [HN.out]
              exact ⟨_, _, rfl⟩
            | cons c3 r3 =>
              have hem : (mkB (c3 :: r3)).toList.isEmpty = false := by rw [Lib.toList_data, mkB_data2]; rfl
              have hml3 : (mkB (c3 :: r3)).size = r3.length + 1 := by unfold mkB; show (c3 :: r3).toArray.size = _; simp
              have hixm3 := index_iff letL c3
              have HLA := hide (fun W => let_any c3 W)
              obtain ⟨ix3, hix3⟩ : ∃ x, Lib.indexByte letL c3 = x := ⟨_, rfl⟩
              rw [hix3] at hixm3
              simp only [hix3] at HLA
              have HX3 : Hid ((mkB (c3 :: r3)).extract 1 (mkB (c3 :: r3)).size = mkB r3) := hide (by rw [extract_drop, mkB_data2]; rfl)
              obtain ⟨q3, hq3⟩ : ∃ q, mkB (c3 :: r3) = q := ⟨_, rfl⟩
              rw [hq3] at hem HX3 hml3 ⊢
              have hp3 : 0 < q3.size := by omega
              have HQ3 : Hid (q3[0] = c3) := hide (by subst hq3; rfl)
              have hr3 : (1 : Int) ≤ (q3.size : Int) := by omega
              have hr4 : (0 : Int) < (q3.size : Int) := by omega
              rw [← HQ3.out] at HLA
              clear hq3 hml3 hix3
              by_cases hm3 : c3 ∈ letL
              · have hj0 : ¬ ix3 < 0 := by rw [decide_eq_true hm3] at hixm3; have := of_decide_eq_true hixm3; omega
                have HY : Hid (rdP s.data.toList = some ({dv0 with fl := fl, wd := wd, dot := true, pr := pr, lt := c3}, r3)) := hide (by rw [HST3.out, finD, if_pos hm3]; rfl)
                have R2' : Hid (DvRow 89 (b + 1) ({dv0 with fl := fl, wd := wd, dot := true, pr := pr, lt := c3}) ((w4.setCell ⟨b + 1, 4, none⟩ (.int .i64 (pr : Int))).setCell ⟨b + 1, 5, none⟩ (.int .u8 (c3.toNat : Int)))) := hide (R2.out.setLt c3)
                have R1' : Hid (DvRow 89 b dv0 ((w4.setCell ⟨b + 1, 4, none⟩ (.int .i64 (pr : Int))).setCell ⟨b + 1, 5, none⟩ (.int .u8 (c3.toNat : Int)))) := hide (R1.out.setFar (by omega) _)
                have HBR' : Hid (Below w.heap.size w ((w4.setCell ⟨b + 1, 4, none⟩ (.int .i64 (pr : Int))).setCell ⟨b + 1, 5, none⟩ (.int .u8 (c3.toNat : Int)))) := hide (HBR.out.setCell (p := ⟨b + 1, 5, none⟩) (Nat.le_trans (Nat.le_of_eq HBN.out) (Nat.le_succ b)) _)
                clear hixm3 hm3
                obtain ⟨⟨x0, x1, x2⟩, x3, x4, x5⟩ := R1.out.cells
                obtain ⟨⟨y0, y1, y2⟩, y3, y4, y5⟩ := R2.out.cells
                have z0 := R1.out.frozen 0
                have z1 := R1.out.frozen 1
                have z2 := R1.out.frozen 2
                have z3 := R1.out.frozen 3
                have z4 := R1.out.frozen 4
                have z5 := R1.out.frozen 5
                have v2 := R2.out.frozen 2
                have v3 := R2.out.frozen 3
                have v4 := R2.out.frozen 4
                have v5 := R2.out.frozen 5
                have hl1 := R1.out.lt
                have hl2 := R2.out.lt
                go_wp2_with fail
                refine (HLA.out _).mono ?_
                rintro e wz ⟨rfl, rfl⟩
                go_wp2_with fail
                obtain ⟨wf, hwf⟩ : ∃ wf, (w4.setCell ⟨b + 1, 4, none⟩ (.int .i64 (pr : Int))).setCell ⟨b + 1, 5, none⟩ (.int .u8 (c3.toNat : Int)) = wf := ⟨_, rfl⟩
                rw [hwf] at R1' R2' HBR'
                rw [HQ3.out, hwf]
                clear hwf x0 x1 x2 x3 x4 x5 y0 y1 y2 y3 y4 y5 z0 z1 z2 z3 z4 z5 v2 v3 v4 v5 hl1 hl2
                obtain ⟨⟨y0, y1, y2⟩, y3, y4, y5⟩ := R2'.out.cells
                obtain ⟨⟨x0, x1, x2⟩, x3, x4, x5⟩ := R1'.out.cells
                have z0 := R1'.out.frozen 0
                have z1 := R1'.out.frozen 1
                have z2 := R1'.out.frozen 2
                have z3 := R1'.out.frozen 3
                have z4 := R1'.out.frozen 4
                have z5 := R1'.out.frozen 5
                have hl1 := R1'.out.lt
                have hl2 := R2'.out.lt
                go_region
                all_goals
                  go_wp2_with fail
                  refine bodyPost_ret (results_dv rfl _ _ b {dv0 with fl := fl, wd := wd, dot := true, pr := pr, lt := c3} rfl (DvRow.drew (R1'.out.all {dv0 with fl := fl, wd := wd, dot := true, pr := pr, lt := c3}))) rfl ⟨?_, (below_six HBR'.out (Nat.le_of_eq HBN.out) {dv0 with fl := fl, wd := wd, dot := true, pr := pr, lt := c3}).drew⟩
                  unfold readR
                  rw [HY.out]
                  simp only
                  rw [← HX3.out]
                  rfl
              · have hj0 : ix3 < 0 := by rw [decide_eq_false hm3] at hixm3; have := of_decide_eq_false hixm3; omega
                have HN : Hid (rdP s.data.toList = none) := hide (by rw [HST3.out, finD, if_neg hm3])
                clear hixm3 hm3
                obtain ⟨⟨x0, x1, x2⟩, x3, x4, x5⟩ := R1.out.cells
                obtain ⟨⟨y0, y1, y2⟩, y3, y4, y5⟩ := R2.out.cells
                have z0 := R1.out.frozen 0
                have z1 := R1.out.frozen 1
                have z2 := R1.out.frozen 2
                have z3 := R1.out.frozen 3
                have z4 := R1.out.frozen 4
                have z5 := R1.out.frozen 5
                have v2 := R2.out.frozen 2
                have v3 := R2.out.frozen 3
                have v4 := R2.out.frozen 4
                have v5 := R2.out.frozen 5
                have hl1 := R1.out.lt
                have hl2 := R2.out.lt
                go_wp2_with fail
                refine (HLA.out _).mono ?_
                rintro e wz ⟨rfl, rfl⟩
                go_wp2_with fail
                refine bodyPost_ret (results_dv rfl _ _ b {dv0 with fl := fl, wd := wd, dot := true, pr := pr} rfl (R1.out.all {dv0 with fl := fl, wd := wd, dot := true, pr := pr})) rfl ⟨?_, below_six HBR.out (Nat.le_of_eq HBN.out) {dv0 with fl := fl, wd := wd, dot := true, pr := pr}⟩
                unfold readR
                rw [HN.out]
                exact ⟨_, _, rfl⟩
          · obtain ⟨q2, hq2E⟩ : ∃ q, mkB (c2 :: r2) = q := ⟨_, rfl⟩
            have hq20 : 0 < q2.size := by rw [← hq2E, HQ2S.out]; omega
            have HQ20 : Hid (q2[0] = c2) := hide (by subst hq2E; rfl)
            have HQ2E := hide hq2E
            rw [hq2E] at hem2 HX22 HQ2S ⊢
            have i0 : (0 : Int) < (q2.size : Int) := by omega
            have i1 : (1 : Int) ≤ (q2.size : Int) := by omega
            clear hq2E
            have e46 : ((q2[0].toNat : Int) == 46) = false := u8_ne46 (by rw [HQ20.out]; exact h46)
            have HST3 : Hid (rdP s.data.toList = finD fl wd false 0 (c2 :: r2)) := hide (by
              rw [HST2.out, dirC_eq]
              have e : ((c2 :: r2).headD 0 == 46) = false := by simpa using h46
              simp only [e]; rfl)
            have R1 := R1b
            have R2 := R2b
            have HBR := HBWb
            clear h46
            have hixm3 := index_iff letL c2
            have HLA := hide (fun W => let_any c2 W)
            obtain ⟨ix3, hix3⟩ : ∃ x, Lib.indexByte letL c2 = x := ⟨_, rfl⟩
            rw [hix3] at hixm3
            simp only [hix3] at HLA
            have HX3 := HX22
            have HQ3 := HQ20
            rw [← HQ20.out] at HLA
            clear hix3
            by_cases hm3 : c2 ∈ letL
            · have hj0 : ¬ ix3 < 0 := by rw [decide_eq_true hm3] at hixm3; have := of_decide_eq_true hixm3; omega
              have HY : Hid (rdP s.data.toList = some ({dv0 with fl := fl, wd := wd, lt := c2}, r2)) := hide (by rw [HST3.out, finD, if_pos hm3]; rfl)
              have R2' : Hid (DvRow 89 (b + 1) ({dv0 with fl := fl, wd := wd, lt := c2}) ((w3.setCell ⟨b + 1, 2, none⟩ (.int .i64 (wd : Int))).setCell ⟨b + 1, 5, none⟩ (.int .u8 (c2.toNat : Int)))) := hide (R2.out.setLt c2)
              have R1' : Hid (DvRow 89 b dv0 ((w3.setCell ⟨b + 1, 2, none⟩ (.int .i64 (wd : Int))).setCell ⟨b + 1, 5, none⟩ (.int .u8 (c2.toNat : Int)))) := hide (R1.out.setFar (by omega) _)
              have HBR' : Hid (Below w.heap.size w ((w3.setCell ⟨b + 1, 2, none⟩ (.int .i64 (wd : Int))).setCell ⟨b + 1, 5, none⟩ (.int .u8 (c2.toNat : Int)))) := hide (HBR.out.setCell (p := ⟨b + 1, 5, none⟩) (Nat.le_trans (Nat.le_of_eq HBN.out) (Nat.le_succ b)) _)
              clear hixm3 hm3
              obtain ⟨⟨x0, x1, x2⟩, x3, x4, x5⟩ := R1.out.cells
              obtain ⟨⟨y0, y1, y2⟩, y3, y4, y5⟩ := R2.out.cells
              have z0 := R1.out.frozen 0
              have z1 := R1.out.frozen 1
              have z2 := R1.out.frozen 2
              have z3 := R1.out.frozen 3
              have z4 := R1.out.frozen 4
              have z5 := R1.out.frozen 5
              have v2 := R2.out.frozen 2
              have v3 := R2.out.frozen 3
              have v4 := R2.out.frozen 4
              have v5 := R2.out.frozen 5
              have hl1 := R1.out.lt
              have hl2 := R2.out.lt
              go_wp2_with fail
              refine (HLA.out _).mono ?_
              rintro e wz ⟨rfl, rfl⟩
              go_wp2_with fail
              obtain ⟨wf, hwf⟩ : ∃ wf, (w3.setCell ⟨b + 1, 2, none⟩ (.int .i64 (wd : Int))).setCell ⟨b + 1, 5, none⟩ (.int .u8 (c2.toNat : Int)) = wf := ⟨_, rfl⟩
              rw [hwf] at R1' R2' HBR'
              rw [HQ3.out, hwf]
              clear hwf x0 x1 x2 x3 x4 x5 y0 y1 y2 y3 y4 y5 z0 z1 z2 z3 z4 z5 v2 v3 v4 v5 hl1 hl2
              obtain ⟨⟨y0, y1, y2⟩, y3, y4, y5⟩ := R2'.out.cells
              obtain ⟨⟨x0, x1, x2⟩, x3, x4, x5⟩ := R1'.out.cells
              have z0 := R1'.out.frozen 0
              have z1 := R1'.out.frozen 1
              have z2 := R1'.out.frozen 2
              have z3 := R1'.out.frozen 3
              have z4 := R1'.out.frozen 4
              have z5 := R1'.out.frozen 5
              have hl1 := R1'.out.lt
              have hl2 := R2'.out.lt
              go_region
              all_goals
                go_wp2_with fail
                refine bodyPost_ret (results_dv rfl _ _ b {dv0 with fl := fl, wd := wd, lt := c2} rfl (DvRow.drew (R1'.out.all {dv0 with fl := fl, wd := wd, lt := c2}))) rfl ⟨?_, (below_six HBR'.out (Nat.le_of_eq HBN.out) {dv0 with fl := fl, wd := wd, lt := c2}).drew⟩
                unfold readR
                rw [HY.out]
                simp only
                rw [← HX3.out]
                rfl
            · have hj0 : ix3 < 0 := by rw [decide_eq_false hm3] at hixm3; have := of_decide_eq_false hixm3; omega
              have HN : Hid (rdP s.data.toList = none) := hide (by rw [HST3.out, finD, if_neg hm3])
              clear hixm3 hm3
              obtain ⟨⟨x0, x1, x2⟩, x3, x4, x5⟩ := R1.out.cells
              obtain ⟨⟨y0, y1, y2⟩, y3, y4, y5⟩ := R2.out.cells
              have z0 := R1.out.frozen 0
              have z1 := R1.out.frozen 1
              have z2 := R1.out.frozen 2
              have z3 := R1.out.frozen 3
              have z4 := R1.out.frozen 4
              have z5 := R1.out.frozen 5
              have v2 := R2.out.frozen 2
              have v3 := R2.out.frozen 3
              have v4 := R2.out.frozen 4
              have v5 := R2.out.frozen 5
              have hl1 := R1.out.lt
              have hl2 := R2.out.lt
              go_wp2_with fail
              refine (HLA.out _).mono ?_
              rintro e wz ⟨rfl, rfl⟩
              go_wp2_with fail
              refine bodyPost_ret (results_dv rfl _ _ b {dv0 with fl := fl, wd := wd} rfl (R1.out.all {dv0 with fl := fl, wd := wd})) rfl ⟨?_, below_six HBR.out (Nat.le_of_eq HBN.out) {dv0 with fl := fl, wd := wd}⟩
              unfold readR
              rw [HN.out]
              exact ⟨_, _, rfl⟩
end Go.Proofs.YtifpmigghplmoaaGreatDoor
