/- Printf, the reference: directiveOf. -/
import Derived.Test.YtifpmigghplmoaaGreatDoorZPrL
import Derived.Test.YtifpmigghplmoaaGreatDoorZInB
import Derived.Test.YtifpmigghplmoaaGreatDoorZPfE
set_option linter.unusedVariables false
set_option linter.unusedSimpArgs false
namespace Go.Pw
open Go.RowKit
/-- a directive as the reference holds it, and the length of its text -/
def rvC (d : Dv) (k : Nat) : Array Value := #[.bool (decide (45 ∈ d.fl)), .bool (decide (43 ∈ d.fl)), .bool (decide (32 ∈ d.fl)), .bool (decide (48 ∈ d.fl)), .bool (decide (35 ∈ d.fl)), .int .i64 (d.wd : Int), .int .i64 (if d.dot = true then (d.pr : Int) else -1), .int .u8 (if d.lt = 0 then 37 else (d.lt.toNat : Int)), .int .i64 (k : Int)]
def rv0 : Array Value := #[.bool false, .bool false, .bool false, .bool false, .bool false, .int .i64 0, .int .i64 0, .int .u8 0, .int .i64 0]
/-- what the reference answers of a percent sign and what follows -/
def dirQ (r : List UInt8) : Array Value := match rdP r with
  | some (d, q) => rvC d (r.length - q.length + 1)
  | none => rv0
/-- how far the flags are read -/
def FlAt (r : List UInt8) (i : Nat) (fl : List UInt8) : Prop := i ≤ r.length ∧ fl.length = i ∧ flR [] r = flR fl (r.drop i)
theorem FlAt.start (r : List UInt8) : FlAt r 0 [] := ⟨by omega, rfl, by simp⟩
theorem FlAt.next {r fl : List UInt8} {i : Nat} {c : UInt8} (h : FlAt r i fl) (hc : r[i]? = some c) (hf : c ∈ flagL) (hn : c ∉ fl) : FlAt r (i + 1) (fl ++ [c]) := by
  obtain ⟨a, b, e⟩ := h
  obtain ⟨hlt, rfl⟩ := List.getElem?_eq_some_iff.1 hc
  refine ⟨by omega, by simp [b], ?_⟩
  rw [e, List.drop_eq_getElem_cons hlt, flR, if_pos hf, if_neg hn]
theorem FlAt.twice {r fl : List UInt8} {i : Nat} {c : UInt8} (h : FlAt r i fl) (hc : r[i]? = some c) (hf : c ∈ flagL) (hn : c ∈ fl) : flR [] r = none := by
  obtain ⟨a, b, e⟩ := h
  obtain ⟨hlt, rfl⟩ := List.getElem?_eq_some_iff.1 hc
  rw [e, List.drop_eq_getElem_cons hlt, flR, if_pos hf, if_pos hn]
theorem FlAt.done {r fl : List UInt8} {i : Nat} (h : FlAt r i fl) (hs : i = r.length ∨ ∃ c, r[i]? = some c ∧ c ∉ flagL) : flR [] r = some (fl, r.drop i) := by
  obtain ⟨a, b, e⟩ := h
  rcases hs with hs | ⟨c, hc, hf⟩
  · rw [e, List.drop_of_length_le (by omega)]; cases fl <;> rfl
  · obtain ⟨hlt, rfl⟩ := List.getElem?_eq_some_iff.1 hc
    rw [e, List.drop_eq_getElem_cons hlt, flR, if_neg hf]
structure Rv where
  m : Bool
  p : Bool
  b : Bool
  z : Bool
  h : Bool
  wd : Int
  pr : Int
  lt : Int
  k : Int
def rvA (x : Rv) : Array Value := #[.bool x.m, .bool x.p, .bool x.b, .bool x.z, .bool x.h, .int .i64 x.wd, .int .i64 x.pr, .int .u8 x.lt, .int .i64 x.k]
def rvZ : Rv := ⟨false, false, false, false, false, 0, 0, 0, 0⟩
def rvM : Rv := ⟨false, false, false, false, false, 0, -1, 0, 0⟩
def RvRow (t : TypeId) (b : Nat) (x : Rv) (w : World) : Prop := w.heap[b]? = some (.cells (rvA x) t (0, 0))
section
variable {t b : Nat} {x : Rv} {w w' : World}
theorem RvRow.lt (h : RvRow t b x w) : b < w.heap.size := (Array.getElem?_eq_some_iff.1 h).1
theorem RvRow.frozen (h : RvRow t b x w) (j : Nat) : w.frozen? ⟨b, j, none⟩ = false := Lib.frozen_of_heap h j
theorem RvRow.keep (h : RvRow t b x w) (hb : Below w.heap.size w w') : RvRow t b x w' := (hb.block b h.lt).trans h
theorem RvRow.setFar (h : RvRow t b x w) {b' j : Nat} (hne : b' ≠ b) (u : Value) : RvRow t b x (w.setCell ⟨b', j, none⟩ u) := by
  unfold RvRow at h ⊢
  rw [show (w.setCell ⟨b', j, none⟩ u).heap[b]? = w.heap[b]? by simp [World.setCell, Array.getElem?_modify, hne]]
  exact h
theorem RvRow.cells (h : RvRow t b x w) : w.cell? ⟨b, 0, none⟩ = some (.bool x.m) ∧ w.cell? ⟨b, 1, none⟩ = some (.bool x.p) ∧ w.cell? ⟨b, 2, none⟩ = some (.bool x.b) ∧ w.cell? ⟨b, 3, none⟩ = some (.bool x.z) ∧ w.cell? ⟨b, 4, none⟩ = some (.bool x.h) ∧ w.cell? ⟨b, 5, none⟩ = some (.int .i64 x.wd) ∧ w.cell? ⟨b, 6, none⟩ = some (.int .i64 x.pr) ∧ w.cell? ⟨b, 7, none⟩ = some (.int .u8 x.lt) ∧ w.cell? ⟨b, 8, none⟩ = some (.int .i64 x.k) := by
  unfold RvRow rvA at h
  refine ⟨?_, ?_, ?_, ?_, ?_, ?_, ?_, ?_, ?_⟩ <;> rw [cell_of_row _ _ _ _ _ _ h] <;> rfl
theorem RvRow.set0 (h : RvRow t b x w) (u : Bool) : RvRow t b {x with m := u} (w.setCell ⟨b, 0, none⟩ (.bool u)) := by
  unfold RvRow rvA at h ⊢
  simp [World.setCell, Array.getElem?_modify, h]
theorem RvRow.set1 (h : RvRow t b x w) (u : Bool) : RvRow t b {x with p := u} (w.setCell ⟨b, 1, none⟩ (.bool u)) := by
  unfold RvRow rvA at h ⊢
  simp [World.setCell, Array.getElem?_modify, h]
theorem RvRow.set2 (h : RvRow t b x w) (u : Bool) : RvRow t b {x with b := u} (w.setCell ⟨b, 2, none⟩ (.bool u)) := by
  unfold RvRow rvA at h ⊢
  simp [World.setCell, Array.getElem?_modify, h]
theorem RvRow.set3 (h : RvRow t b x w) (u : Bool) : RvRow t b {x with z := u} (w.setCell ⟨b, 3, none⟩ (.bool u)) := by
  unfold RvRow rvA at h ⊢
  simp [World.setCell, Array.getElem?_modify, h]
theorem RvRow.set4 (h : RvRow t b x w) (u : Bool) : RvRow t b {x with h := u} (w.setCell ⟨b, 4, none⟩ (.bool u)) := by
  unfold RvRow rvA at h ⊢
  simp [World.setCell, Array.getElem?_modify, h]
theorem RvRow.set5 (h : RvRow t b x w) (u : Int) : RvRow t b {x with wd := u} (w.setCell ⟨b, 5, none⟩ (.int .i64 u)) := by
  unfold RvRow rvA at h ⊢
  simp [World.setCell, Array.getElem?_modify, h]
theorem RvRow.set6 (h : RvRow t b x w) (u : Int) : RvRow t b {x with pr := u} (w.setCell ⟨b, 6, none⟩ (.int .i64 u)) := by
  unfold RvRow rvA at h ⊢
  simp [World.setCell, Array.getElem?_modify, h]
theorem RvRow.set7 (h : RvRow t b x w) (u : Int) : RvRow t b {x with lt := u} (w.setCell ⟨b, 7, none⟩ (.int .u8 u)) := by
  unfold RvRow rvA at h ⊢
  simp [World.setCell, Array.getElem?_modify, h]
theorem RvRow.set8 (h : RvRow t b x w) (u : Int) : RvRow t b {x with k := u} (w.setCell ⟨b, 8, none⟩ (.int .i64 u)) := by
  unfold RvRow rvA at h ⊢
  simp [World.setCell, Array.getElem?_modify, h]
theorem RvRow.all (h : RvRow t b x w) (y : Rv) : RvRow t b y (((((((((w.setCell ⟨b, 0, none⟩ (.bool y.m)).setCell ⟨b, 1, none⟩ (.bool y.p)).setCell ⟨b, 2, none⟩ (.bool y.b)).setCell ⟨b, 3, none⟩ (.bool y.z)).setCell ⟨b, 4, none⟩ (.bool y.h)).setCell ⟨b, 5, none⟩ (.int .i64 y.wd)).setCell ⟨b, 6, none⟩ (.int .i64 y.pr)).setCell ⟨b, 7, none⟩ (.int .u8 y.lt)).setCell ⟨b, 8, none⟩ (.int .i64 y.k)) :=
  (((((((((h.set0 y.m).set1 y.p).set2 y.b).set3 y.z).set4 y.h).set5 y.wd).set6 y.pr).set7 y.lt).set8 y.k)
end
theorem below_nine {M b : Nat} {w W : World} (h : Below M w W) (hb : M ≤ b) (y : Rv) : Below M w (((((((((W.setCell ⟨b, 0, none⟩ (.bool y.m)).setCell ⟨b, 1, none⟩ (.bool y.p)).setCell ⟨b, 2, none⟩ (.bool y.b)).setCell ⟨b, 3, none⟩ (.bool y.z)).setCell ⟨b, 4, none⟩ (.bool y.h)).setCell ⟨b, 5, none⟩ (.int .i64 y.wd)).setCell ⟨b, 6, none⟩ (.int .i64 y.pr)).setCell ⟨b, 7, none⟩ (.int .u8 y.lt)).setCell ⟨b, 8, none⟩ (.int .i64 y.k)) :=
  (((((((((h.setCell (p := ⟨b, 0, none⟩) hb _).setCell (p := ⟨b, 1, none⟩) hb _).setCell (p := ⟨b, 2, none⟩) hb _).setCell (p := ⟨b, 3, none⟩) hb _).setCell (p := ⟨b, 4, none⟩) hb _).setCell (p := ⟨b, 5, none⟩) hb _).setCell (p := ⟨b, 6, none⟩) hb _).setCell (p := ⟨b, 7, none⟩) hb _).setCell (p := ⟨b, 8, none⟩) hb _)
theorem rdP_no_fl {r : List UInt8} (h : flR [] r = none) : rdP r = none := by
  by_cases hp : ∃ r', r = 37 :: r'
  · obtain ⟨r', rfl⟩ := hp
    rw [flR, if_neg (by decide)] at h; cases h
  · rw [rdP_dir (fun r' e => hp ⟨r', e⟩), h]
theorem dirB_pct (r : List UInt8) : dirB [] (37 :: r) = none := by
  have h0 : dgK (37 :: r) = 0 := by unfold dgK; rw [List.takeWhile_cons, show digB 37 = false from rfl]; rfl
  unfold dirB
  simp only [h0, List.drop_zero, List.headD_cons]
  rw [show ((37 : UInt8) == 46) = false from rfl]
  simp only [Bool.false_eq_true, if_false]
  rw [if_neg (by decide)]
theorem flR_pct {r fl l1 : List UInt8} (h : flR [] (37 :: r) = some (fl, l1)) : fl = [] ∧ l1 = 37 :: r := by
  rw [flR, if_neg (by decide)] at h
  injection h with h; injection h with h1 h2
  exact ⟨h1.symm, h2.symm⟩
theorem rdP_fl {r fl l1 : List UInt8} (h : flR [] r = some (fl, l1)) (hp : ∀ r', r ≠ 37 :: r') : rdP r = dirB fl l1 := by
  rw [rdP_dir hp, h]
end Go.Pw
namespace Go.Proofs.YtifpmigghplmoaaGreatDoor
open Go.RowKit Go.Pw Go.Shelf
theorem hasB_mem (c : UInt8) (l : List UInt8) : hasB c l = decide (c ∈ l) := by
  unfold hasB
  induction l with
  | nil => rfl
  | cons x l ih =>
    rw [List.any_cons, ih]
    by_cases h : x = c
    · subst h; simp
    · have h2 : ¬ c = x := fun e => h e.symm
      simp [h, h2]
theorem results_cellR {fn : Func} {p : Tmp} {ty : TypeId} (h : fn.results = #[.cell p ty]) (tmps : Array Value) (P : Program) (w : World) :
    (results fn tmps).run P w = ((asAddr (tmps.getD p undef)).run P w).andThen fun a w₁ => (loadVar ty a).run P w₁ := by
  simp only [results, h]
  simp [Sem.run_bind, Result.andThen]
theorem info_rv : (Tryz.prog.info? 97).map (·.size) = some 9 := by kernel_rfl
theorem results_rv {fn : Func} {p : Tmp} (h : fn.results = #[.cell p 97]) (tmps : Array Value) (w : World) (g : Nat) (x : Rv)
    (hp : tmps.getD p undef = .pointer (some ⟨g, 0, none⟩)) (hg : w.heap[g]? = some (.cells (rvA x) 97 (0, 0))) : (results fn tmps).run Tryz.prog w = .ok (.agg (rvA x)) w := by
  rw [results_cellR h, hp]
  simp [asAddr, run_loadVar_row w g 97 97 _ (0, 0) _ hg Tryz.underlying97 rfl info_rv, Result.andThen, rvA]
theorem one_cut (s : ByteArray) (k : Nat) (h : k < s.size) : s.extract k (k + 1) = mkB [s[k]] := by
  obtain ⟨⟨l⟩⟩ := s
  have h2 : k < l.length := h
  unfold mkB
  rw [show (⟨⟨l⟩⟩ : ByteArray).extract k (k + 1) = ⟨(Array.mk l).extract k (k + 1)⟩ by simp [ByteArray.extract, ByteArray.copySlice]; try (congr 1; try omega)]
  congr 1
  show (Array.mk l).extract k (k + 1) = #[l[k]]
  simp [List.take_one, h2]
theorem inR_any (l : List UInt8) (c : UInt8) (x : Int) (hx : (c.toNat : Int) = x) (w : World) (hs : l.length ≤ 1000000) :
    Calls Tryz.prog 27 #[.string (mkB l), .int .u8 x] w fun e w' => e = .returned (.bool (decide (c ∈ l))) ∧ w' = w := by
  subst hx
  refine (in_any (mkB l) c w (by rw [mkB_size]; unfold maxLen; omega)).mono ?_
  rintro e w' ⟨rfl, rfl⟩
  rw [mkB_data2, hasB_mem]
  exact ⟨rfl, rfl⟩
/-- what the reference's directiveOf answers -/
def dirQV (r : List UInt8) (e : Ending) : Prop := e = .returned (.agg (dirQ r))
set_option maxHeartbeats 32000000 in
set_option maxRecDepth 100000 in
theorem directiveOf_any (s : ByteArray) (w : World) (hs : s.size ≤ 900000) (h0 : 0 < s.size) :
    Calls Tryz.prog 40 #[.string s] w fun e w' => dirQV (s.data.toList.drop 1) e ∧ Below w.heap.size w w' := by
  have HL := hide (len_size s)
  obtain ⟨r, hr⟩ : ∃ r, s.data.toList.drop 1 = r := ⟨_, rfl⟩
  rw [hr]
  have hrl : r.length + 1 = s.size := by rw [← hr, List.length_drop, len_size]; omega
  have HR := hide hr
  have HRL := hide hrl
  have HGE : Hid (∀ (j : Nat) (h : j + 1 < s.size), r[j]? = some (s[j + 1]'h)) := hide (fun j h => by
    rw [← hr, List.getElem?_drop, Nat.add_comm 1 j, List.getElem?_eq_getElem (by rw [len_size]; exact h)]; rfl)
  have HXD : Hid (∀ j, s.extract (j + 1) s.size = mkB (r.drop j)) := hide (fun j => by rw [extract_drop, ← hr, List.drop_drop, Nat.add_comm 1 j])
  clear hr hrl
  go_enter Tryz.func40, Tryz.ntmps40
  go_wp2_with fail
  have hW1 : ∃ W1, (w.alloc (.cells (rvA rvZ) 97)).alloc (.cells (rvA rvM) 97) = W1 := ⟨_, rfl⟩
  obtain ⟨W1, hW1⟩ := hW1
  have HR1 : Hid (RvRow 97 w.heap.size rvZ W1) := hide (by rw [← hW1]; exact (heap_alloc_old _ _ (by simp)).trans (heap_alloc_new w _))
  have HR2 : Hid (RvRow 97 (w.heap.size + 1) rvM W1) := hide (by
    rw [← hW1]
    have h := heap_alloc_new (w.alloc (.cells (rvA rvZ) 97)) (.cells (rvA rvM) 97)
    rw [show (w.alloc (.cells (rvA rvZ) 97)).heap.size = w.heap.size + 1 by simp] at h
    exact h)
  have HBW1 : Hid (Below w.heap.size w W1) := hide (by rw [← hW1]; exact ((Below.refl _ _).alloc (Nat.le_refl _) _).alloc (by simp) _)
  simp only [rvA, rvZ, rvM] at hW1
  rw [hW1]
  clear hW1
  obtain ⟨b, hb0⟩ : ∃ b, w.heap.size = b := ⟨_, rfl⟩
  have HBN := hide hb0
  rw [hb0] at HR1 HR2 ⊢
  clear hb0
  have HZERO : Hid (∀ W, RvRow 97 b rvZ W → Below w.heap.size w W → True) := hide (fun _ _ _ => trivial)
  go_loopw [4, 5] (fun iv fv wr => ∃ (j : Nat) (fl : List UInt8), iv = .int .i64 ((j : Int) + 1) ∧ fv = .string (mkB fl) ∧ Hid (FlAt r j fl) ∧ j + 1 ≤ s.size ∧ wr = W1) (fun iv _ _ => s.size - (intOf iv).toNat)
  case atStart => exact ⟨0, [], rfl, rfl, hide (FlAt.start _), by omega, rfl⟩
  case round =>
    obtain ⟨j, fl, rfl, rfl, HFL, hj, rfl⟩ := hrel
    have hfl : fl.length ≤ 900000 := by rw [HFL.out.2.1]; omega
    have hfz : (mkB fl).size ≤ 900000 := by rw [mkB_size]; exact hfl
    obtain ⟨x0, x1, x2, x3, x4, x5, x6, x7, x8⟩ := HR1.out.cells
    have u0 := HR1.out.frozen 0
    have u1 := HR1.out.frozen 1
    have u2 := HR1.out.frozen 2
    have u3 := HR1.out.frozen 3
    have u4 := HR1.out.frozen 4
    have u5 := HR1.out.frozen 5
    have u6 := HR1.out.frozen 6
    have u7 := HR1.out.frozen 7
    have u8 := HR1.out.frozen 8
    have hl1 := HR1.out.lt
    have hl2 := HR2.out.lt
    by_cases hlt : j + 1 < s.size
    case pos =>
      have d0 : (j : Int) + 1 < (s.size : Int) := by omega
      obtain ⟨c, hc⟩ : ∃ c, s[j + 1]'hlt = c := ⟨_, rfl⟩
      have HC := hide hc
      have HG : Hid (r[j]? = some c) := hide (by rw [HGE.out j hlt, hc])
      have HIN := hide (fun W => inR_any flagL (s[j + 1]'hlt) _ rfl W (by decide))
      by_cases hm : c ∈ flagL
      case pos =>
        rw [hc, decide_eq_true hm, ← hc] at HIN
        have HIF := hide (fun W => inR_any fl (s[j + 1]'hlt) _ rfl W (by omega))
        have HM := hide hm
        by_cases hdup : c ∈ fl
        case pos =>
          have HN : Hid (rdP r = none) := hide (rdP_no_fl (HFL.out.twice HG.out hm hdup))
          rw [hc, decide_eq_true hdup, ← hc] at HIF
          clear hm hdup hc
          go_wp2_with fail
          refine (HIN.out _).mono ?_
          rintro e w2 ⟨rfl, rfl⟩
          go_wp2_with fail
          refine (HIF.out _).mono ?_
          rintro e w2 ⟨rfl, rfl⟩
          go_wp2_with fail
          refine bodyPost_ret (results_rv rfl _ _ b rvZ rfl (HR1.out.all rvZ)) rfl ⟨?_, below_nine HBW1.out (Nat.le_of_eq HBN.out) rvZ⟩
          unfold dirQV dirQ
          rw [HN.out]
          rfl
        case neg =>
          have HF2 := hide (HFL.out.next HG.out hm hdup)
          rw [hc, decide_eq_false hdup, ← hc] at HIF
          have HAPP : Hid (mkB fl ++ s.extract (j + 1) (j + 1 + 1) = mkB (fl ++ [c])) := hide (by
            rw [one_cut s (j + 1) hlt, hc, mkB_app'])
          clear hm hdup hc
          go_wp2_with fail
          refine (HIN.out _).mono ?_
          rintro e w2 ⟨rfl, rfl⟩
          go_wp2_with fail
          refine (HIF.out _).mono ?_
          rintro e w2 ⟨rfl, rfl⟩
          go_wp2_with fail
          go_roundw
          case rel => exact ⟨j + 1, fl ++ [c], by first | go_num | (simp; omega), by rw [← HAPP.out], HF2, by omega, by first | rfl | trivial⟩
          case measure => simp [intOf]; omega
      case neg =>
        rw [hc, decide_eq_false hm, ← hc] at HIN
        have HD := hide (HFL.out.done (Or.inr ⟨c, HG.out, hm⟩))
        clear hm hc
        go_wp2_with fail
        obtain ⟨n, hn⟩ : ∃ n, dgK (r.drop j) = n := ⟨_, rfl⟩
        obtain ⟨wd, hwd⟩ : ∃ wd, valL ((r.drop j).take n) = wd := ⟨_, rfl⟩
        have hn3 : n ≤ 3 ∧ n ≤ (r.drop j).length := by rw [← hn]; exact ⟨(dgK_dig (r.drop j)).2.2.1, (dgK_dig (r.drop j)).2.2.2⟩
        have hnl : j + 1 + n ≤ s.size := by have h1 := hn3.2; rw [List.length_drop] at h1; have := HRL.out; omega
        have hwd9 : wd ≤ 999 := by rw [← hwd, ← hn]; exact val3 _
        have HU := hide (fun W => upTo3_any (s.extract (j + 1) s.size) W (by rw [ByteArray.size_extract]; omega))
        have hxl : (s.extract (j + 1) s.size).data.toList = r.drop j := by rw [HXD.out, mkB_data2]
        simp only [hxl, hn, hwd] at HU
        have HDB : Hid (dirB fl (r.drop j) = finD fl wd ((r.drop (j + n)).headD 0 == 46) (if (r.drop (j + n)).headD 0 == 46 then valL (((r.drop (j + n)).drop 1).take (dgK ((r.drop (j + n)).drop 1))) else 0) (if (r.drop (j + n)).headD 0 == 46 then ((r.drop (j + n)).drop 1).drop (dgK ((r.drop (j + n)).drop 1)) else r.drop (j + n))) := hide (by
          have h1 : dirB fl (r.drop j) = dirC fl (valL ((r.drop j).take (dgK (r.drop j)))) ((r.drop j).drop (dgK (r.drop j))) := rfl
          rw [h1, dirC_eq, hn, hwd, List.drop_drop])
        have I45 := hide (fun W => inR_any fl 45 45 rfl W (by omega))
        have I43 := hide (fun W => inR_any fl 43 43 rfl W (by omega))
        have I32 := hide (fun W => inR_any fl 32 32 rfl W (by omega))
        have I48 := hide (fun W => inR_any fl 48 48 rfl W (by omega))
        have I35 := hide (fun W => inR_any fl 35 35 rfl W (by omega))
        have HPC : Hid (∀ r', r = 37 :: r' → j = 0 ∧ n = 0 ∧ fl = [] ∧ wd = 0) := hide (fun r' e => by
          have hd := HD.out
          rw [e] at hd
          obtain ⟨e1, e2⟩ := flR_pct hd
          have ej : j = 0 := by have := HFL.out.2.1; rw [e1] at this; simpa using this.symm
          have en : n = 0 := by rw [← hn, e, e2]; unfold dgK; rw [List.takeWhile_cons, show digB 37 = false from rfl]; rfl
          exact ⟨ej, en, e1, by rw [← hwd, en]; simp [valL]⟩)
        clear hwd hn hxl
        obtain ⟨b45, hb45⟩ : ∃ x, decide (45 ∈ fl) = x := ⟨_, rfl⟩
        obtain ⟨b43, hb43⟩ : ∃ x, decide (43 ∈ fl) = x := ⟨_, rfl⟩
        obtain ⟨b32, hb32⟩ : ∃ x, decide (32 ∈ fl) = x := ⟨_, rfl⟩
        obtain ⟨b48, hb48⟩ : ∃ x, decide (48 ∈ fl) = x := ⟨_, rfl⟩
        obtain ⟨b35, hb35⟩ : ∃ x, decide (35 ∈ fl) = x := ⟨_, rfl⟩
        rw [hb45] at I45
        rw [hb43] at I43
        rw [hb32] at I32
        rw [hb48] at I48
        rw [hb35] at I35
        have B45 := hide hb45
        have B43 := hide hb43
        have B32 := hide hb32
        have B48 := hide hb48
        have B35 := hide hb35
        clear hb45 hb43 hb32 hb48 hb35
        obtain ⟨y0, y1, y2, y3, y4, y5, y6, y7, y8⟩ := HR2.out.cells
        have v0 := HR2.out.frozen 0
        have v1 := HR2.out.frozen 1
        have v2 := HR2.out.frozen 2
        have v3 := HR2.out.frozen 3
        have v4 := HR2.out.frozen 4
        have v5 := HR2.out.frozen 5
        have v6 := HR2.out.frozen 6
        have v7 := HR2.out.frozen 7
        have v8 := HR2.out.frozen 8
        have hbb : b ≠ b + 1 := by omega
        have hbb2 : b + 1 ≠ b := by omega
        go_wp2_with fail
        refine (HIN.out _).mono ?_
        rintro e w2 ⟨rfl, rfl⟩
        go_wp2_with fail
        refine (I45.out _).mono ?_
        rintro e w2 ⟨rfl, rfl⟩
        go_wp2_with fail
        refine (I43.out _).mono ?_
        rintro e w2 ⟨rfl, rfl⟩
        go_wp2_with fail
        refine (I32.out _).mono ?_
        rintro e w2 ⟨rfl, rfl⟩
        go_wp2_with fail
        refine (I48.out _).mono ?_
        rintro e w2 ⟨rfl, rfl⟩
        go_wp2_with fail
        refine (I35.out _).mono ?_
        rintro e w2 ⟨rfl, rfl⟩
        go_wp2_with fail
        refine (HU.out _).mono ?_
        rintro e w3 ⟨rfl, rfl⟩
        have R5 := hide (((((HR2.out.set0 b45).set1 b43).set2 b32).set3 b48).set4 b35)
        have Z5 := hide (((((HR1.out.setFar (b' := b + 1) (j := 0) (by omega) (.bool b45)).setFar (b' := b + 1) (j := 1) (by omega) (.bool b43)).setFar (b' := b + 1) (j := 2) (by omega) (.bool b32)).setFar (b' := b + 1) (j := 3) (by omega) (.bool b48)).setFar (b' := b + 1) (j := 4) (by omega) (.bool b35))
        have hbM : w.heap.size ≤ b + 1 := Nat.le_trans (Nat.le_of_eq HBN.out) (Nat.le_succ b)
        have HB5 := hide (((((HBW1.out.setCell (p := ⟨b + 1, 0, none⟩) hbM (.bool b45)).setCell (p := ⟨b + 1, 1, none⟩) hbM (.bool b43)).setCell (p := ⟨b + 1, 2, none⟩) hbM (.bool b32)).setCell (p := ⟨b + 1, 3, none⟩) hbM (.bool b48)).setCell (p := ⟨b + 1, 4, none⟩) hbM (.bool b35))
        clear x0 x1 x2 x3 x4 x5 x6 x7 x8 u0 u1 u2 u3 u4 u5 u6 u7 u8 hl1 hl2 y0 y1 y2 y3 y4 y5 y6 y7 y8 v0 v1 v2 v3 v4 v5 v6 v7 v8
        obtain ⟨W5, hW5⟩ : ∃ W5, (((((w2.setCell ⟨b + 1, 0, none⟩ (.bool b45)).setCell ⟨b + 1, 1, none⟩ (.bool b43)).setCell ⟨b + 1, 2, none⟩ (.bool b32)).setCell ⟨b + 1, 3, none⟩ (.bool b48)).setCell ⟨b + 1, 4, none⟩ (.bool b35)) = W5 := ⟨_, rfl⟩
        rw [hW5] at R5 Z5 HB5
        rw [hW5]
        clear hW5
        have R6 := hide (R5.out.set5 (wd : Int))
        have Z6 := hide (Z5.out.setFar (b' := b + 1) (j := 5) (by omega) (.int .i64 (wd : Int)))
        have HB6 := hide (HB5.out.setCell (p := ⟨b + 1, 5, none⟩) hbM (.int .i64 (wd : Int)))
        have t5 := R5.out.frozen 5
        obtain ⟨s0, s1, s2, s3, s4, s5, s6, s7, s8⟩ := R5.out.cells
        by_cases hdot : ∃ h : j + 1 + n < s.size, s[j + 1 + n]'h = 46
        case neg =>
          have HL3 : Hid ((r.drop (j + n)).headD 0 ≠ 46) := hide (fun e => by
            cases hd : r.drop (j + n) with
            | nil => rw [hd] at e; exact absurd e (by decide)
            | cons x y =>
              rw [hd] at e
              have h9 : r[j + n]? = some x := by rw [← List.head?_drop, hd]; rfl
              have h8 : j + n < r.length := (List.getElem?_eq_some_iff.1 h9).1
              have h7 : j + n + 1 < s.size := by have := HRL.out; omega
              have h6 := HGE.out (j + n) h7
              rw [h9] at h6
              refine hdot ⟨by omega, ?_⟩
              have h5 : x = s[j + n + 1]'h7 := Option.some.inj h6
              have : j + 1 + n = j + n + 1 := by omega
              simp only [this, ← h5]; exact e)
          have hb46 : ((r.drop (j + n)).headD 0 == 46) = false := by simpa using HL3.out
          rw [hb46] at HDB
          simp only [Bool.false_eq_true, if_false] at HDB
          obtain ⟨p, hp⟩ : ∃ p, j + n = p := ⟨_, rfl⟩
          have HP := hide hp
          have hpi : (j : Int) + 1 + (n : Int) = (p : Int) + 1 := by omega
          have HDF : Hid (dirB fl (r.drop j) = finD fl wd false 0 (r.drop p)) := hide (by rw [HDB.out, HP.out])
          have hd46 : ∀ h : p + 1 < s.size, ¬ s[p + 1]'h = 46 := fun h e => hdot ⟨by omega, by
            have e9 : j + 1 + n = p + 1 := by omega
            simp only [e9]; exact e⟩
          have HD46 := hide hd46
          obtain ⟨x0, x1, x2, x3, x4, x5, x6, x7, x8⟩ := Z5.out.cells
          have u0 := Z5.out.frozen 0
          have u1 := Z5.out.frozen 1
          have u2 := Z5.out.frozen 2
          have u3 := Z5.out.frozen 3
          have u4 := Z5.out.frozen 4
          have u5 := Z5.out.frozen 5
          have u6 := Z5.out.frozen 6
          have u7 := Z5.out.frozen 7
          have u8 := Z5.out.frozen 8
          have t7 := R5.out.frozen 7
          have t8 := R5.out.frozen 8
          have hl1 := Z5.out.lt
          have hl2 := R5.out.lt
          have hbb : b ≠ b + 1 := by omega
          have hbb2 : b + 1 ≠ b := by omega
          clear hp hdot hb46 hd46
          by_cases hq : p + 1 < s.size
          · have f0 : (p : Int) + 1 < (s.size : Int) := by omega
            have f1 : ¬ (s.size : Int) ≤ (p : Int) + 1 := by omega
            obtain ⟨c, hc⟩ : ∃ c, s[p + 1]'hq = c := ⟨_, rfl⟩
            have HG : Hid (r[p]? = some c) := hide (by rw [HGE.out p hq, hc])
            have HDC : Hid (r.drop p = c :: r.drop (p + 1)) := hide (by
              obtain ⟨h9, h8⟩ := List.getElem?_eq_some_iff.1 HG.out
              rw [List.drop_eq_getElem_cons h9, h8])
            have HIL := hide (fun W => inR_any [100, 105, 117, 111, 120, 88, 99, 115, 98, 37] (s[p + 1]'hq) _ rfl W (by decide))
            have HC := hide hc
            have f46 : (((s[p + 1]'hq).toNat : Int) == 46) = false := u8_neN (HD46.out hq)
            by_cases hm : c ∈ letL
            · have hm2 : c ∈ ([100, 105, 117, 111, 120, 88, 99, 115, 98, 37] : List UInt8) := List.mem_append_left [37] hm
              have h37 : ¬ c = 37 := fun e => by rw [e] at hm; revert hm; decide
              have f37 : (((s[p + 1]'hq).toNat : Int) == 37) = false := by rw [hc]; exact u8_neN h37
              have h00 : ¬ c = 0 := fun e => by rw [e] at hm; revert hm; decide
              rw [hc, decide_eq_true hm2, ← hc] at HIL
              have HRD : Hid (rdP r = some ((⟨[], fl, wd, false, 0, c⟩ : Dv), r.drop (p + 1))) := hide (by
                have h9 : dirB fl (r.drop j) = some ((⟨[], fl, wd, false, 0, c⟩ : Dv), r.drop (p + 1)) := by rw [HDF.out, HDC.out, finD, if_pos hm]
                rw [rdP_fl HD.out (fun r' e => by
                  obtain ⟨e1, e2, e3, e4⟩ := HPC.out r' e
                  rw [e3, e1, e, List.drop_zero, dirB_pct] at h9
                  cases h9), h9])
              have R8 := hide ((R6.out.set7 ((s[p + 1]'hq).toNat : Int)).set8 ((p : Int) + 1 + 1))
              have Z8 : Hid (RvRow 97 b rvZ (((W5.setCell ⟨b + 1, 5, none⟩ (.int .i64 (wd : Int))).setCell ⟨b + 1, 7, none⟩ (.int .u8 ((s[p + 1]'hq).toNat : Int))).setCell ⟨b + 1, 8, none⟩ (.int .i64 ((p : Int) + 1 + 1)))) := hide ((Z6.out.setFar (by omega) _).setFar (by omega) _)
              have HB8 : Hid (Below w.heap.size w (((W5.setCell ⟨b + 1, 5, none⟩ (.int .i64 (wd : Int))).setCell ⟨b + 1, 7, none⟩ (.int .u8 ((s[p + 1]'hq).toNat : Int))).setCell ⟨b + 1, 8, none⟩ (.int .i64 ((p : Int) + 1 + 1)))) := hide ((HB6.out.setCell (p := ⟨b + 1, 7, none⟩) hbM _).setCell (p := ⟨b + 1, 8, none⟩) hbM _)
              have HQ : Hid (dirQ r = rvA ⟨b45, b43, b32, b48, b35, (wd : Int), (-1), ((s[p + 1]'hq).toNat : Int), (p : Int) + 1 + 1⟩) := hide (by
                have e8 : (r.length - (r.drop (p + 1)).length + 1 : Nat) = p + 2 := by rw [List.length_drop]; have := HRL.out; omega
                unfold dirQ
                rw [HRD.out]
                simp only
                rw [e8]
                unfold rvC rvA
                simp only [B45.out, B43.out, B32.out, B48.out, B35.out, if_neg h00, HC.out]
                rfl)
              clear hm hm2 h37 hc h00
              go_wp2_with fail
              refine (HIL.out _).mono ?_
              rintro e w4 ⟨rfl, rfl⟩
              obtain ⟨W6, hW6⟩ : ∃ W6, W5.setCell ⟨b + 1, 5, none⟩ (.int .i64 (wd : Int)) = W6 := ⟨_, rfl⟩
              rw [hW6] at R6 Z6 HB6 R8 Z8 HB8
              rw [hW6]
              clear hW6 x0 x1 x2 x3 x4 x5 x6 x7 x8 u0 u1 u2 u3 u4 u5 u6 u7 u8 s0 s1 s2 s3 s4 s5 s6 s7 s8 t5 t7 t8 hl1 hl2
              obtain ⟨x0, x1, x2, x3, x4, x5, x6, x7, x8⟩ := Z6.out.cells
              simp only [rvZ] at x0 x1 x2 x3 x4 x5 x6 x7 x8
              have u0 := Z6.out.frozen 0
              have u1 := Z6.out.frozen 1
              have u2 := Z6.out.frozen 2
              have u3 := Z6.out.frozen 3
              have u4 := Z6.out.frozen 4
              have u5 := Z6.out.frozen 5
              have u6 := Z6.out.frozen 6
              have u7 := Z6.out.frozen 7
              have u8 := Z6.out.frozen 8
              obtain ⟨k0, k1, k2, k3, k4, k5, k6, k7, k8⟩ := R6.out.cells
              simp only [rvM] at k0 k1 k2 k3 k4 k5 k6 k7 k8
              have a7 := R6.out.frozen 7
              have a8 := R6.out.frozen 8
              have hl1 := Z6.out.lt
              have hl2 := R6.out.lt
              go_wp2_with fail
              have RF := Z8.out.all ⟨b45, b43, b32, b48, b35, (wd : Int), (-1), ((s[p + 1]'hq).toNat : Int), (p : Int) + 1 + 1⟩
              dsimp only at RF
              have BF := below_nine HB8.out (Nat.le_of_eq HBN.out) ⟨b45, b43, b32, b48, b35, (wd : Int), (-1), ((s[p + 1]'hq).toNat : Int), (p : Int) + 1 + 1⟩
              dsimp only at BF
              refine bodyPost_ret (results_rv rfl _ _ b ⟨b45, b43, b32, b48, b35, (wd : Int), (-1), ((s[p + 1]'hq).toNat : Int), (p : Int) + 1 + 1⟩ rfl RF) rfl ⟨?_, BF⟩
              unfold dirQV
              rw [HQ.out]
            · by_cases h37 : c = 37
              · have hm2 : c ∈ ([100, 105, 117, 111, 120, 88, 99, 115, 98, 37] : List UInt8) := by rw [h37]; decide
                have f37 : (((s[p + 1]'hq).toNat : Int) == 37) = true := by rw [hc, h37]; rfl
                rw [hc, decide_eq_true hm2, ← hc] at HIL
                by_cases hp0 : p = 0
                · skip
                  have fp : ¬ (1 : Int) < (p : Int) + 1 := by omega
                  have HRS : Hid (r = 37 :: r.drop 1) := hide (by have h9 := HDC.out; rw [hp0, List.drop_zero, h37] at h9; exact h9)
                  obtain ⟨e1, e2, e3, e4⟩ := HPC.out _ HRS.out
                  have R8 := hide ((R6.out.set7 ((s[p + 1]'hq).toNat : Int)).set8 ((p : Int) + 1 + 1))
                  have Z8 : Hid (RvRow 97 b rvZ (((W5.setCell ⟨b + 1, 5, none⟩ (.int .i64 (wd : Int))).setCell ⟨b + 1, 7, none⟩ (.int .u8 ((s[p + 1]'hq).toNat : Int))).setCell ⟨b + 1, 8, none⟩ (.int .i64 ((p : Int) + 1 + 1)))) := hide ((Z6.out.setFar (by omega) _).setFar (by omega) _)
                  have HB8 : Hid (Below w.heap.size w (((W5.setCell ⟨b + 1, 5, none⟩ (.int .i64 (wd : Int))).setCell ⟨b + 1, 7, none⟩ (.int .u8 ((s[p + 1]'hq).toNat : Int))).setCell ⟨b + 1, 8, none⟩ (.int .i64 ((p : Int) + 1 + 1)))) := hide ((HB6.out.setCell (p := ⟨b + 1, 7, none⟩) hbM _).setCell (p := ⟨b + 1, 8, none⟩) hbM _)
                  have HQ : Hid (dirQ r = rvA ⟨b45, b43, b32, b48, b35, (wd : Int), (-1), ((s[p + 1]'hq).toNat : Int), (p : Int) + 1 + 1⟩) := hide (by
                    have hrd : rdP r = some (⟨[37], [], 0, false, 0, 0⟩, r.drop 1) := by rw [HRS.out, rdP]; simp
                    have e8 : (r.length - (r.drop 1).length + 1 : Nat) = 2 := by rw [List.length_drop]; have := HRL.out; have := congrArg List.length HRS.out; simp at this; omega
                    have h9 := B45.out
                    have h8 := B43.out
                    have h7 := B32.out
                    have h6 := B48.out
                    have h5 := B35.out
                    rw [e3] at h9 h8 h7 h6 h5
                    unfold dirQ
                    rw [hrd]
                    simp only
                    rw [e8]
                    unfold rvC rvA
                    rw [show ((s[p + 1]'hq).toNat : Int) = 37 by rw [HC.out, h37]; rfl]
                    simp only [← h9, ← h8, ← h7, ← h6, ← h5, e4, hp0]
                    rfl)
                  clear hm hm2 h37 hc hp0 e1 e2 e3 e4
                  go_wp2_with fail
                  refine (HIL.out _).mono ?_
                  rintro e w4 ⟨rfl, rfl⟩
                  obtain ⟨W6, hW6⟩ : ∃ W6, W5.setCell ⟨b + 1, 5, none⟩ (.int .i64 (wd : Int)) = W6 := ⟨_, rfl⟩
                  rw [hW6] at R6 Z6 HB6 R8 Z8 HB8
                  rw [hW6]
                  clear hW6 x0 x1 x2 x3 x4 x5 x6 x7 x8 u0 u1 u2 u3 u4 u5 u6 u7 u8 s0 s1 s2 s3 s4 s5 s6 s7 s8 t5 t7 t8 hl1 hl2
                  obtain ⟨x0, x1, x2, x3, x4, x5, x6, x7, x8⟩ := Z6.out.cells
                  simp only [rvZ] at x0 x1 x2 x3 x4 x5 x6 x7 x8
                  have u0 := Z6.out.frozen 0
                  have u1 := Z6.out.frozen 1
                  have u2 := Z6.out.frozen 2
                  have u3 := Z6.out.frozen 3
                  have u4 := Z6.out.frozen 4
                  have u5 := Z6.out.frozen 5
                  have u6 := Z6.out.frozen 6
                  have u7 := Z6.out.frozen 7
                  have u8 := Z6.out.frozen 8
                  obtain ⟨k0, k1, k2, k3, k4, k5, k6, k7, k8⟩ := R6.out.cells
                  simp only [rvM] at k0 k1 k2 k3 k4 k5 k6 k7 k8
                  have a7 := R6.out.frozen 7
                  have a8 := R6.out.frozen 8
                  have hl1 := Z6.out.lt
                  have hl2 := R6.out.lt
                  go_wp2_with fail
                  have RF := Z8.out.all ⟨b45, b43, b32, b48, b35, (wd : Int), (-1), ((s[p + 1]'hq).toNat : Int), (p : Int) + 1 + 1⟩
                  dsimp only at RF
                  have BF := below_nine HB8.out (Nat.le_of_eq HBN.out) ⟨b45, b43, b32, b48, b35, (wd : Int), (-1), ((s[p + 1]'hq).toNat : Int), (p : Int) + 1 + 1⟩
                  dsimp only at BF
                  refine bodyPost_ret (results_rv rfl _ _ b ⟨b45, b43, b32, b48, b35, (wd : Int), (-1), ((s[p + 1]'hq).toNat : Int), (p : Int) + 1 + 1⟩ rfl RF) rfl ⟨?_, BF⟩
                  unfold dirQV
                  rw [HQ.out]
                · have fp : (1 : Int) < (p : Int) + 1 := by omega
                  have HNP : Hid (∀ r', r ≠ 37 :: r') := hide (fun r' e => by
                    obtain ⟨e1, e2, e3, e4⟩ := HPC.out r' e
                    have := HP.out; omega)
                  have HN : Hid (rdP r = none) := hide (by rw [rdP_fl HD.out HNP.out, HDF.out, HDC.out, finD, if_neg hm])
                  clear hm hm2 h37 hc hp0
                  go_wp2_with fail
                  refine (HIL.out _).mono ?_
                  rintro e w4 ⟨rfl, rfl⟩
                  go_wp2_with fail
                  refine bodyPost_ret (results_rv rfl _ _ b rvZ rfl (Z6.out.all rvZ)) rfl ⟨?_, below_nine HB6.out (Nat.le_of_eq HBN.out) rvZ⟩
                  unfold dirQV dirQ
                  rw [HN.out]
                  rfl
              · have hm2 : c ∉ ([100, 105, 117, 111, 120, 88, 99, 115, 98, 37] : List UInt8) := fun h => by
                  rcases List.mem_append.1 (show c ∈ letL ++ [37] from h) with h | h
                  · exact hm h
                  · exact h37 (List.mem_singleton.1 h)
                have hne := h37
                have HNP : Hid (∀ r', r ≠ 37 :: r') := hide (fun r' e => by
                  obtain ⟨e1, e2, e3, e4⟩ := HPC.out r' e
                  have h9 := HG.out; have : p = 0 := (by have := HP.out; omega); rw [this, e] at h9; exact hne (Option.some.inj h9).symm)
                have HN : Hid (rdP r = none) := hide (by rw [rdP_fl HD.out HNP.out, HDF.out, HDC.out, finD, if_neg hm])
                rw [hc, decide_eq_false hm2, ← hc] at HIL
                clear hm hm2 h37 hc hne
                go_wp2_with fail
                refine (HIL.out _).mono ?_
                rintro e w4 ⟨rfl, rfl⟩
                go_wp2_with fail
                refine bodyPost_ret (results_rv rfl _ _ b rvZ rfl (Z6.out.all rvZ)) rfl ⟨?_, below_nine HB6.out (Nat.le_of_eq HBN.out) rvZ⟩
                unfold dirQV dirQ
                rw [HN.out]
                rfl
          · have f0 : ¬ (p : Int) + 1 < (s.size : Int) := by omega
            have f1 : (s.size : Int) ≤ (p : Int) + 1 := by omega
            have HNP : Hid (∀ r', r ≠ 37 :: r') := hide (fun r' e => by
              obtain ⟨e1, e2, e3, e4⟩ := HPC.out r' e
              have h9 := HRL.out; rw [e] at h9; simp at h9; have := HP.out; omega)
            have HN : Hid (rdP r = none) := hide (by
              have hnil : r.drop p = [] := List.drop_of_length_le (by have := HRL.out; omega)
              rw [rdP_fl HD.out HNP.out, HDF.out, hnil]; rfl)
            go_wp2_with fail
            refine bodyPost_ret (results_rv rfl _ _ b rvZ rfl (Z6.out.all rvZ)) rfl ⟨?_, below_nine HB6.out (Nat.le_of_eq HBN.out) rvZ⟩
            unfold dirQV dirQ
            rw [HN.out]
            rfl
        case pos =>
          obtain ⟨e0', e1'⟩ := hdot
          have e0 : (j : Int) + 1 + (n : Int) < (s.size : Int) := by omega
          have f46 : (((s[j + 1 + n]'e0').toNat : Int) == 46) = true := by rw [e1']; rfl
          have HDN : Hid (∀ r', r ≠ 37 :: r') := hide (fun r' e => by
            obtain ⟨q1, q2, q3, q4⟩ := HPC.out r' e
            have h9 := HGE.out 0 (by omega)
            rw [e] at h9
            have h8 : (37 : UInt8) = s[0 + 1]'(by omega) := Option.some.inj h9
            have h7 : s[j + 1 + n]'e0' = s[0 + 1]'(by omega) := by simp only [q1, q2]
            rw [e1', ← h8] at h7
            exact absurd h7 (by decide))
          have HHD : Hid ((r.drop (j + n)).headD 0 = 46) := hide (by
            have h9 := HGE.out (j + n) (by omega)
            have h8 : s[j + n + 1]'(by omega) = s[j + 1 + n]'e0' := by
              have : j + n + 1 = j + 1 + n := by omega
              simp only [this]
            rw [h8, e1'] at h9
            rw [List.headD_eq_head?_getD, List.head?_drop, h9]; rfl)
          rw [HHD.out] at HDB
          rw [show ((46 : UInt8) == 46) = true from rfl] at HDB
          simp only [if_true, List.drop_drop] at HDB
          obtain ⟨n2, hn2⟩ : ∃ n2, dgK (r.drop (j + n + 1)) = n2 := ⟨_, rfl⟩
          obtain ⟨pr, hpr⟩ : ∃ pr, valL ((r.drop (j + n + 1)).take n2) = pr := ⟨_, rfl⟩
          have hn23 : n2 ≤ 3 ∧ n2 ≤ (r.drop (j + n + 1)).length := by rw [← hn2]; exact ⟨(dgK_dig _).2.2.1, (dgK_dig _).2.2.2⟩
          have hpr9 : pr ≤ 999 := by rw [← hpr, ← hn2]; exact val3 _
          have hn2l : j + n + 1 + n2 + 1 ≤ s.size := by have h1 := hn23.2; rw [List.length_drop] at h1; have := HRL.out; omega
          have HU2 := hide (fun W => upTo3_any (s.extract (j + 1 + n + 1) s.size) W (by rw [ByteArray.size_extract]; omega))
          have hx2 : (s.extract (j + 1 + n + 1) s.size).data.toList = r.drop (j + n + 1) := by
            rw [show j + 1 + n + 1 = (j + n + 1) + 1 by omega, HXD.out, mkB_data2]
          simp only [hx2, hn2, hpr] at HU2
          rw [hn2, hpr] at HDB
          obtain ⟨p, hp⟩ : ∃ p, j + n + 1 + n2 = p := ⟨_, rfl⟩
          rw [hp] at HDB
          have HP := hide hp
          have hpi : (j : Int) + 1 + (n : Int) + (1 + (n2 : Int)) = (p : Int) + 1 := by omega
          have HDF := HDB
          have t6 := R5.out.frozen 6
          have t7 := R5.out.frozen 7
          have t8 := R5.out.frozen 8
          have hl1 := Z5.out.lt
          have hl2 := R5.out.lt
          clear hp hx2 hn2 hpr e1'
          go_wp2_with fail
          refine (HU2.out _).mono ?_
          rintro e w4 ⟨rfl, rfl⟩
          obtain ⟨W6, hW6⟩ : ∃ W6, W5.setCell ⟨b + 1, 5, none⟩ (.int .i64 (wd : Int)) = W6 := ⟨_, rfl⟩
          rw [hW6] at R6 Z6 HB6
          rw [hW6]
          clear hW6 s0 s1 s2 s3 s4 s5 s6 s7 s8 t5 t6 t7 t8 hl1 hl2
          have R7 := hide (R6.out.set6 (pr : Int))
          have Z7 := hide (Z6.out.setFar (b' := b + 1) (j := 6) (by omega) (.int .i64 (pr : Int)))
          have HB7 := hide (HB6.out.setCell (p := ⟨b + 1, 6, none⟩) hbM (.int .i64 (pr : Int)))
          obtain ⟨s0, s1, s2, s3, s4, s5, s6, s7, s8⟩ := R6.out.cells
          simp only [rvM] at s0 s1 s2 s3 s4 s5 s6 s7 s8
          obtain ⟨x0, x1, x2, x3, x4, x5, x6, x7, x8⟩ := Z6.out.cells
          simp only [rvZ] at x0 x1 x2 x3 x4 x5 x6 x7 x8
          have u0 := Z6.out.frozen 0
          have u1 := Z6.out.frozen 1
          have u2 := Z6.out.frozen 2
          have u3 := Z6.out.frozen 3
          have u4 := Z6.out.frozen 4
          have u5 := Z6.out.frozen 5
          have u6 := Z6.out.frozen 6
          have u7 := Z6.out.frozen 7
          have u8 := Z6.out.frozen 8
          have t5 := R6.out.frozen 6
          have t7 := R6.out.frozen 7
          have t8 := R6.out.frozen 8
          have hl1 := Z6.out.lt
          have hl2 := R6.out.lt
          have hbb : b ≠ b + 1 := by omega
          have hbb2 : b + 1 ≠ b := by omega
          by_cases hq : p + 1 < s.size
          · have f0 : (p : Int) + 1 < (s.size : Int) := by omega
            have f1 : ¬ (s.size : Int) ≤ (p : Int) + 1 := by omega
            obtain ⟨c, hc⟩ : ∃ c, s[p + 1]'hq = c := ⟨_, rfl⟩
            have HG : Hid (r[p]? = some c) := hide (by rw [HGE.out p hq, hc])
            have HDC : Hid (r.drop p = c :: r.drop (p + 1)) := hide (by
              obtain ⟨h9, h8⟩ := List.getElem?_eq_some_iff.1 HG.out
              rw [List.drop_eq_getElem_cons h9, h8])
            have HIL := hide (fun W => inR_any [100, 105, 117, 111, 120, 88, 99, 115, 98, 37] (s[p + 1]'hq) _ rfl W (by decide))
            have HC := hide hc
            by_cases hm : c ∈ letL
            · have hm2 : c ∈ ([100, 105, 117, 111, 120, 88, 99, 115, 98, 37] : List UInt8) := List.mem_append_left [37] hm
              have h37 : ¬ c = 37 := fun e => by rw [e] at hm; revert hm; decide
              have f37 : (((s[p + 1]'hq).toNat : Int) == 37) = false := by rw [hc]; exact u8_neN h37
              have h00 : ¬ c = 0 := fun e => by rw [e] at hm; revert hm; decide
              rw [hc, decide_eq_true hm2, ← hc] at HIL
              have HRD : Hid (rdP r = some ((⟨[], fl, wd, true, pr, c⟩ : Dv), r.drop (p + 1))) := hide (by
                have h9 : dirB fl (r.drop j) = some ((⟨[], fl, wd, true, pr, c⟩ : Dv), r.drop (p + 1)) := by rw [HDF.out, HDC.out, finD, if_pos hm]
                rw [rdP_fl HD.out (fun r' e => by
                  obtain ⟨e1, e2, e3, e4⟩ := HPC.out r' e
                  rw [e3, e1, e, List.drop_zero, dirB_pct] at h9
                  cases h9), h9])
              have R8 := hide ((R7.out.set7 ((s[p + 1]'hq).toNat : Int)).set8 ((p : Int) + 1 + 1))
              have Z8 : Hid (RvRow 97 b rvZ (((W6.setCell ⟨b + 1, 6, none⟩ (.int .i64 (pr : Int))).setCell ⟨b + 1, 7, none⟩ (.int .u8 ((s[p + 1]'hq).toNat : Int))).setCell ⟨b + 1, 8, none⟩ (.int .i64 ((p : Int) + 1 + 1)))) := hide ((Z7.out.setFar (by omega) _).setFar (by omega) _)
              have HB8 : Hid (Below w.heap.size w (((W6.setCell ⟨b + 1, 6, none⟩ (.int .i64 (pr : Int))).setCell ⟨b + 1, 7, none⟩ (.int .u8 ((s[p + 1]'hq).toNat : Int))).setCell ⟨b + 1, 8, none⟩ (.int .i64 ((p : Int) + 1 + 1)))) := hide ((HB7.out.setCell (p := ⟨b + 1, 7, none⟩) hbM _).setCell (p := ⟨b + 1, 8, none⟩) hbM _)
              have HQ : Hid (dirQ r = rvA ⟨b45, b43, b32, b48, b35, (wd : Int), (pr : Int), ((s[p + 1]'hq).toNat : Int), (p : Int) + 1 + 1⟩) := hide (by
                have e8 : (r.length - (r.drop (p + 1)).length + 1 : Nat) = p + 2 := by rw [List.length_drop]; have := HRL.out; omega
                unfold dirQ
                rw [HRD.out]
                simp only
                rw [e8]
                unfold rvC rvA
                simp only [B45.out, B43.out, B32.out, B48.out, B35.out, if_neg h00, HC.out]
                rfl)
              clear hm hm2 h37 hc h00
              go_wp2_with fail
              refine (HIL.out _).mono ?_
              rintro e w4 ⟨rfl, rfl⟩
              obtain ⟨W7, hW7⟩ : ∃ W7, W6.setCell ⟨b + 1, 6, none⟩ (.int .i64 (pr : Int)) = W7 := ⟨_, rfl⟩
              rw [hW7] at R7 Z7 HB7 R8 Z8 HB8
              rw [hW7]
              clear hW7 x0 x1 x2 x3 x4 x5 x6 x7 x8 u0 u1 u2 u3 u4 u5 u6 u7 u8 s0 s1 s2 s3 s4 s5 s6 s7 s8 t5 t7 t8 hl1 hl2
              obtain ⟨x0, x1, x2, x3, x4, x5, x6, x7, x8⟩ := Z7.out.cells
              simp only [rvZ] at x0 x1 x2 x3 x4 x5 x6 x7 x8
              have u0 := Z7.out.frozen 0
              have u1 := Z7.out.frozen 1
              have u2 := Z7.out.frozen 2
              have u3 := Z7.out.frozen 3
              have u4 := Z7.out.frozen 4
              have u5 := Z7.out.frozen 5
              have u6 := Z7.out.frozen 6
              have u7 := Z7.out.frozen 7
              have u8 := Z7.out.frozen 8
              obtain ⟨k0, k1, k2, k3, k4, k5, k6, k7, k8⟩ := R7.out.cells
              simp only [rvM] at k0 k1 k2 k3 k4 k5 k6 k7 k8
              have a7 := R7.out.frozen 7
              have a8 := R7.out.frozen 8
              have hl1 := Z7.out.lt
              have hl2 := R7.out.lt
              go_wp2_with fail
              have RF := Z8.out.all ⟨b45, b43, b32, b48, b35, (wd : Int), (pr : Int), ((s[p + 1]'hq).toNat : Int), (p : Int) + 1 + 1⟩
              dsimp only at RF
              have BF := below_nine HB8.out (Nat.le_of_eq HBN.out) ⟨b45, b43, b32, b48, b35, (wd : Int), (pr : Int), ((s[p + 1]'hq).toNat : Int), (p : Int) + 1 + 1⟩
              dsimp only at BF
              refine bodyPost_ret (results_rv rfl _ _ b ⟨b45, b43, b32, b48, b35, (wd : Int), (pr : Int), ((s[p + 1]'hq).toNat : Int), (p : Int) + 1 + 1⟩ rfl RF) rfl ⟨?_, BF⟩
              unfold dirQV
              rw [HQ.out]
            · by_cases h37 : c = 37
              · have hm2 : c ∈ ([100, 105, 117, 111, 120, 88, 99, 115, 98, 37] : List UInt8) := by rw [h37]; decide
                have f37 : (((s[p + 1]'hq).toNat : Int) == 37) = true := by rw [hc, h37]; rfl
                rw [hc, decide_eq_true hm2, ← hc] at HIL
                by_cases hp0 : p = 0
                · exfalso; have := HP.out; omega
                · have fp : (1 : Int) < (p : Int) + 1 := by omega
                  have HNP : Hid (∀ r', r ≠ 37 :: r') := hide HDN.out
                  have HN : Hid (rdP r = none) := hide (by rw [rdP_fl HD.out HNP.out, HDF.out, HDC.out, finD, if_neg hm])
                  clear hm hm2 h37 hc hp0
                  go_wp2_with fail
                  refine (HIL.out _).mono ?_
                  rintro e w4 ⟨rfl, rfl⟩
                  go_wp2_with fail
                  refine bodyPost_ret (results_rv rfl _ _ b rvZ rfl (Z7.out.all rvZ)) rfl ⟨?_, below_nine HB7.out (Nat.le_of_eq HBN.out) rvZ⟩
                  unfold dirQV dirQ
                  rw [HN.out]
                  rfl
              · have hm2 : c ∉ ([100, 105, 117, 111, 120, 88, 99, 115, 98, 37] : List UInt8) := fun h => by
                  rcases List.mem_append.1 (show c ∈ letL ++ [37] from h) with h | h
                  · exact hm h
                  · exact h37 (List.mem_singleton.1 h)
                have hne := h37
                have HNP : Hid (∀ r', r ≠ 37 :: r') := hide HDN.out
                have HN : Hid (rdP r = none) := hide (by rw [rdP_fl HD.out HNP.out, HDF.out, HDC.out, finD, if_neg hm])
                rw [hc, decide_eq_false hm2, ← hc] at HIL
                clear hm hm2 h37 hc hne
                go_wp2_with fail
                refine (HIL.out _).mono ?_
                rintro e w4 ⟨rfl, rfl⟩
                go_wp2_with fail
                refine bodyPost_ret (results_rv rfl _ _ b rvZ rfl (Z7.out.all rvZ)) rfl ⟨?_, below_nine HB7.out (Nat.le_of_eq HBN.out) rvZ⟩
                unfold dirQV dirQ
                rw [HN.out]
                rfl
          · have f0 : ¬ (p : Int) + 1 < (s.size : Int) := by omega
            have f1 : (s.size : Int) ≤ (p : Int) + 1 := by omega
            have HNP : Hid (∀ r', r ≠ 37 :: r') := hide HDN.out
            have HN : Hid (rdP r = none) := hide (by
              have hnil : r.drop p = [] := List.drop_of_length_le (by have := HRL.out; omega)
              rw [rdP_fl HD.out HNP.out, HDF.out, hnil]; rfl)
            go_wp2_with fail
            refine bodyPost_ret (results_rv rfl _ _ b rvZ rfl (Z7.out.all rvZ)) rfl ⟨?_, below_nine HB7.out (Nat.le_of_eq HBN.out) rvZ⟩
            unfold dirQV dirQ
            rw [HN.out]
            rfl
    case neg =>
      have d0 : ¬ (j : Int) + 1 < (s.size : Int) := by omega
      have HD := hide (HFL.out.done (Or.inl (by have := HRL.out; omega)))
      obtain ⟨n, hn⟩ : ∃ n, dgK (r.drop j) = n := ⟨_, rfl⟩
      obtain ⟨wd, hwd⟩ : ∃ wd, valL ((r.drop j).take n) = wd := ⟨_, rfl⟩
      have hn3 : n ≤ 3 ∧ n ≤ (r.drop j).length := by rw [← hn]; exact ⟨(dgK_dig (r.drop j)).2.2.1, (dgK_dig (r.drop j)).2.2.2⟩
      have hnl : j + 1 + n ≤ s.size := by have h1 := hn3.2; rw [List.length_drop] at h1; have := HRL.out; omega
      have hwd9 : wd ≤ 999 := by rw [← hwd, ← hn]; exact val3 _
      have HU := hide (fun W => upTo3_any (s.extract (j + 1) s.size) W (by rw [ByteArray.size_extract]; omega))
      have hxl : (s.extract (j + 1) s.size).data.toList = r.drop j := by rw [HXD.out, mkB_data2]
      simp only [hxl, hn, hwd] at HU
      have HDB : Hid (dirB fl (r.drop j) = finD fl wd ((r.drop (j + n)).headD 0 == 46) (if (r.drop (j + n)).headD 0 == 46 then valL (((r.drop (j + n)).drop 1).take (dgK ((r.drop (j + n)).drop 1))) else 0) (if (r.drop (j + n)).headD 0 == 46 then ((r.drop (j + n)).drop 1).drop (dgK ((r.drop (j + n)).drop 1)) else r.drop (j + n))) := hide (by
        have h1 : dirB fl (r.drop j) = dirC fl (valL ((r.drop j).take (dgK (r.drop j)))) ((r.drop j).drop (dgK (r.drop j))) := rfl
        rw [h1, dirC_eq, hn, hwd, List.drop_drop])
      have I45 := hide (fun W => inR_any fl 45 45 rfl W (by omega))
      have I43 := hide (fun W => inR_any fl 43 43 rfl W (by omega))
      have I32 := hide (fun W => inR_any fl 32 32 rfl W (by omega))
      have I48 := hide (fun W => inR_any fl 48 48 rfl W (by omega))
      have I35 := hide (fun W => inR_any fl 35 35 rfl W (by omega))
      have HPC : Hid (∀ r', r = 37 :: r' → j = 0 ∧ n = 0 ∧ fl = [] ∧ wd = 0) := hide (fun r' e => by
        have hd := HD.out
        rw [e] at hd
        obtain ⟨e1, e2⟩ := flR_pct hd
        have ej : j = 0 := by have := HFL.out.2.1; rw [e1] at this; simpa using this.symm
        have en : n = 0 := by rw [← hn, e, e2]; unfold dgK; rw [List.takeWhile_cons, show digB 37 = false from rfl]; rfl
        exact ⟨ej, en, e1, by rw [← hwd, en]; simp [valL]⟩)
      clear hwd hn hxl
      obtain ⟨b45, hb45⟩ : ∃ x, decide (45 ∈ fl) = x := ⟨_, rfl⟩
      obtain ⟨b43, hb43⟩ : ∃ x, decide (43 ∈ fl) = x := ⟨_, rfl⟩
      obtain ⟨b32, hb32⟩ : ∃ x, decide (32 ∈ fl) = x := ⟨_, rfl⟩
      obtain ⟨b48, hb48⟩ : ∃ x, decide (48 ∈ fl) = x := ⟨_, rfl⟩
      obtain ⟨b35, hb35⟩ : ∃ x, decide (35 ∈ fl) = x := ⟨_, rfl⟩
      rw [hb45] at I45
      rw [hb43] at I43
      rw [hb32] at I32
      rw [hb48] at I48
      rw [hb35] at I35
      have B45 := hide hb45
      have B43 := hide hb43
      have B32 := hide hb32
      have B48 := hide hb48
      have B35 := hide hb35
      clear hb45 hb43 hb32 hb48 hb35
      obtain ⟨y0, y1, y2, y3, y4, y5, y6, y7, y8⟩ := HR2.out.cells
      have v0 := HR2.out.frozen 0
      have v1 := HR2.out.frozen 1
      have v2 := HR2.out.frozen 2
      have v3 := HR2.out.frozen 3
      have v4 := HR2.out.frozen 4
      have v5 := HR2.out.frozen 5
      have v6 := HR2.out.frozen 6
      have v7 := HR2.out.frozen 7
      have v8 := HR2.out.frozen 8
      have hbb : b ≠ b + 1 := by omega
      have hbb2 : b + 1 ≠ b := by omega
      go_wp2_with fail
      refine (I45.out _).mono ?_
      rintro e w2 ⟨rfl, rfl⟩
      go_wp2_with fail
      refine (I43.out _).mono ?_
      rintro e w2 ⟨rfl, rfl⟩
      go_wp2_with fail
      refine (I32.out _).mono ?_
      rintro e w2 ⟨rfl, rfl⟩
      go_wp2_with fail
      refine (I48.out _).mono ?_
      rintro e w2 ⟨rfl, rfl⟩
      go_wp2_with fail
      refine (I35.out _).mono ?_
      rintro e w2 ⟨rfl, rfl⟩
      go_wp2_with fail
      refine (HU.out _).mono ?_
      rintro e w3 ⟨rfl, rfl⟩
      have R5 := hide (((((HR2.out.set0 b45).set1 b43).set2 b32).set3 b48).set4 b35)
      have Z5 := hide (((((HR1.out.setFar (b' := b + 1) (j := 0) (by omega) (.bool b45)).setFar (b' := b + 1) (j := 1) (by omega) (.bool b43)).setFar (b' := b + 1) (j := 2) (by omega) (.bool b32)).setFar (b' := b + 1) (j := 3) (by omega) (.bool b48)).setFar (b' := b + 1) (j := 4) (by omega) (.bool b35))
      have hbM : w.heap.size ≤ b + 1 := Nat.le_trans (Nat.le_of_eq HBN.out) (Nat.le_succ b)
      have HB5 := hide (((((HBW1.out.setCell (p := ⟨b + 1, 0, none⟩) hbM (.bool b45)).setCell (p := ⟨b + 1, 1, none⟩) hbM (.bool b43)).setCell (p := ⟨b + 1, 2, none⟩) hbM (.bool b32)).setCell (p := ⟨b + 1, 3, none⟩) hbM (.bool b48)).setCell (p := ⟨b + 1, 4, none⟩) hbM (.bool b35))
      clear x0 x1 x2 x3 x4 x5 x6 x7 x8 u0 u1 u2 u3 u4 u5 u6 u7 u8 hl1 hl2 y0 y1 y2 y3 y4 y5 y6 y7 y8 v0 v1 v2 v3 v4 v5 v6 v7 v8
      obtain ⟨W5, hW5⟩ : ∃ W5, (((((w2.setCell ⟨b + 1, 0, none⟩ (.bool b45)).setCell ⟨b + 1, 1, none⟩ (.bool b43)).setCell ⟨b + 1, 2, none⟩ (.bool b32)).setCell ⟨b + 1, 3, none⟩ (.bool b48)).setCell ⟨b + 1, 4, none⟩ (.bool b35)) = W5 := ⟨_, rfl⟩
      rw [hW5] at R5 Z5 HB5
      rw [hW5]
      clear hW5
      have R6 := hide (R5.out.set5 (wd : Int))
      have Z6 := hide (Z5.out.setFar (b' := b + 1) (j := 5) (by omega) (.int .i64 (wd : Int)))
      have HB6 := hide (HB5.out.setCell (p := ⟨b + 1, 5, none⟩) hbM (.int .i64 (wd : Int)))
      have t5 := R5.out.frozen 5
      obtain ⟨s0, s1, s2, s3, s4, s5, s6, s7, s8⟩ := R5.out.cells
      by_cases hdot : ∃ h : j + 1 + n < s.size, s[j + 1 + n]'h = 46
      case neg =>
        have HL3 : Hid ((r.drop (j + n)).headD 0 ≠ 46) := hide (fun e => by
          cases hd : r.drop (j + n) with
          | nil => rw [hd] at e; exact absurd e (by decide)
          | cons x y =>
            rw [hd] at e
            have h9 : r[j + n]? = some x := by rw [← List.head?_drop, hd]; rfl
            have h8 : j + n < r.length := (List.getElem?_eq_some_iff.1 h9).1
            have h7 : j + n + 1 < s.size := by have := HRL.out; omega
            have h6 := HGE.out (j + n) h7
            rw [h9] at h6
            refine hdot ⟨by omega, ?_⟩
            have h5 : x = s[j + n + 1]'h7 := Option.some.inj h6
            have : j + 1 + n = j + n + 1 := by omega
            simp only [this, ← h5]; exact e)
        have hb46 : ((r.drop (j + n)).headD 0 == 46) = false := by simpa using HL3.out
        rw [hb46] at HDB
        simp only [Bool.false_eq_true, if_false] at HDB
        obtain ⟨p, hp⟩ : ∃ p, j + n = p := ⟨_, rfl⟩
        have HP := hide hp
        have hpi : (j : Int) + 1 + (n : Int) = (p : Int) + 1 := by omega
        have HDF : Hid (dirB fl (r.drop j) = finD fl wd false 0 (r.drop p)) := hide (by rw [HDB.out, HP.out])
        have hd46 : ∀ h : p + 1 < s.size, ¬ s[p + 1]'h = 46 := fun h e => hdot ⟨by omega, by
          have e9 : j + 1 + n = p + 1 := by omega
          simp only [e9]; exact e⟩
        have HD46 := hide hd46
        obtain ⟨x0, x1, x2, x3, x4, x5, x6, x7, x8⟩ := Z5.out.cells
        have u0 := Z5.out.frozen 0
        have u1 := Z5.out.frozen 1
        have u2 := Z5.out.frozen 2
        have u3 := Z5.out.frozen 3
        have u4 := Z5.out.frozen 4
        have u5 := Z5.out.frozen 5
        have u6 := Z5.out.frozen 6
        have u7 := Z5.out.frozen 7
        have u8 := Z5.out.frozen 8
        have t7 := R5.out.frozen 7
        have t8 := R5.out.frozen 8
        have hl1 := Z5.out.lt
        have hl2 := R5.out.lt
        have hbb : b ≠ b + 1 := by omega
        have hbb2 : b + 1 ≠ b := by omega
        clear hp hdot hb46 hd46
        by_cases hq : p + 1 < s.size
        · exfalso; have := HP.out; omega
        · have f0 : ¬ (p : Int) + 1 < (s.size : Int) := by omega
          have f1 : (s.size : Int) ≤ (p : Int) + 1 := by omega
          have HNP : Hid (∀ r', r ≠ 37 :: r') := hide (fun r' e => by
            obtain ⟨e1, e2, e3, e4⟩ := HPC.out r' e
            have h9 := HRL.out; rw [e] at h9; simp at h9; have := HP.out; omega)
          have HN : Hid (rdP r = none) := hide (by
            have hnil : r.drop p = [] := List.drop_of_length_le (by have := HRL.out; omega)
            rw [rdP_fl HD.out HNP.out, HDF.out, hnil]; rfl)
          go_wp2_with fail
          refine bodyPost_ret (results_rv rfl _ _ b rvZ rfl (Z6.out.all rvZ)) rfl ⟨?_, below_nine HB6.out (Nat.le_of_eq HBN.out) rvZ⟩
          unfold dirQV dirQ
          rw [HN.out]
          rfl
      case pos =>
        exfalso; obtain ⟨h, -⟩ := hdot; omega
end Go.Proofs.YtifpmigghplmoaaGreatDoor
