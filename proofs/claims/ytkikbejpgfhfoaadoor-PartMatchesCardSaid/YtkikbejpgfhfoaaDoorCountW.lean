/- text.Count. -/
import Derived.Test.YtkikbejpgfhfoaaDoorCountP
import Derived.Test.YtkikbejpgfhfoaaDoorValid
import Derived.Laws.ResultCell
import Derived.Laws.Rows
set_option linter.unusedVariables false
set_option linter.unusedSimpArgs false
namespace Go.Pw
open Go.RowKit
theorem getD_get {s : ByteArray} {k : Nat} (h : k < s.size) : s.data.toList.getD k 0 = s[k] := by
  have h2 : k < s.data.toList.length := by rw [len_size]; exact h
  rw [List.getD_eq_getElem?_getD, List.getElem?_eq_getElem h2]; rfl
theorem CtAt.setAll {w : World} {b : Nat} {T : TypeId} {c : Cts} (h : CtAt w b T c) (d : Cts) : CtAt ((((w.setCell ⟨b, 0, none⟩ (.int .i64 (d.lines : Int))).setCell ⟨b, 1, none⟩ (.int .i64 (d.words : Int))).setCell ⟨b, 2, none⟩ (.int .i64 (d.bytes : Int))).setCell ⟨b, 3, none⟩ (.int .i64 (d.long : Int))) b T d := by
  unfold CtAt at h ⊢
  simp [World.setCell, Array.getElem?_modify, h, Cts.cells]
end Go.Pw
namespace Go.Proofs.YtkikbejpgfhfoaaDoor
open Go.RowKit Go.Pw
theorem info_cts : (Tryd.prog.info? 74).map (·.size) = some 4 := by kernel_rfl
theorem results_cts {fn : Func} {p u : Tmp} (h : fn.results = #[.cell p 74, .tmp u]) (tmps : Array Value) (w : World) (g : Nat) (c : Cts)
    (hp : tmps.getD p undef = .pointer (some ⟨g, 0, none⟩)) (hg : CtAt w g 74 c) : (results fn tmps).run Tryd.prog w = .ok (.tuple #[.agg c.cells, tmps.getD u undef]) w := by
  rw [results_cell_tmp h, hp]
  simp [asAddr, run_loadVar_row w g 74 74 c.cells (0, 0) _ hg Tryd.underlying74 rfl info_cts, Result.andThen]
theorem space_any (c : UInt8) (x : Int) (w : World) (hx : (c.toNat : Int) = x) : Calls Tryd.prog 89 #[.int .u8 x] w fun e w' => e = .returned (.bool (spB c)) ∧ w = w' := by
  subst hx
  by_cases h1 : 9 ≤ c.toNat
  · have f1 : (9 : Int) ≤ (c.toNat : Int) := by omega
    by_cases h2 : c.toNat ≤ 13
    · have f2 : (c.toNat : Int) ≤ 13 := by omega
      have HV : Hid (spB c = true) := hide (by simp [spB, h1, h2])
      go_enter Tryd.func89, Tryd.ntmps89
      go_wp2_with fail
      go_ret
      exact ⟨by rw [HV.out]; rfl, rfl⟩
    · have f2 : ¬ ((c.toNat : Int) ≤ 13) := by omega
      by_cases h3 : c.toNat = 32
      · have HV : Hid (spB c = true) := hide (by simp [spB, h3])
        have f3 : ((c.toNat : Int) == 32) = true := by rw [h3]; rfl
        clear h3
        go_enter Tryd.func89, Tryd.ntmps89
        go_wp2_with fail
        go_ret
        exact ⟨by rw [HV.out]; rfl, rfl⟩
      · have HV : Hid (spB c = false) := hide (by simp [spB, h1, h2, h3])
        have f3 : ((c.toNat : Int) == 32) = false := by simp only [beq_eq_false_iff_ne, ne_eq]; omega
        clear h3
        go_enter Tryd.func89, Tryd.ntmps89
        go_wp2_with fail
        go_ret
        exact ⟨by rw [HV.out]; rfl, rfl⟩
  · have f1 : ¬ ((9 : Int) ≤ (c.toNat : Int)) := by omega
    have HV : Hid (spB c = false) := hide (by simp [spB, h1]; omega)
    have f3 : ((c.toNat : Int) == 32) = false := by simp only [beq_eq_false_iff_ne, ne_eq]; omega
    go_enter Tryd.func89, Tryd.ntmps89
    go_wp2_with fail
    go_ret
    exact ⟨by rw [HV.out]; rfl, rfl⟩
set_option maxHeartbeats 1000000 in
set_option maxRecDepth 100000 in
theorem count_big (s : ByteArray) (w : World) (hs : 65536 < s.size) (hm : s.size ≤ maxLen) :
    Calls Tryd.prog 44 #[.string s] w fun e w' => e = .returned (.tuple #[.agg (Cts.mk 0 0 0 0).cells, .int .i64 2]) ∧ Below w.heap.size w w' := by
  unfold maxLen at hm
  have hd : (65536 : Int) < (s.size : Int) := by omega
  have HB0 := hide ((Below.refl w.heap.size w).alloc (Nat.le_refl _) (.cells (Cts.mk 0 0 0 0).cells 74))
  go_enter Tryd.func44, Tryd.ntmps44
  go_wp2_with fail
  (try simp only [Exit.inBlock, Exit.then])
  refine bodyPost_ret (results_cts rfl _ _ w.heap.size (Cts.mk 0 0 0 0) rfl (heap_alloc_new _ _)) rfl ?_
  exact ⟨rfl, HB0.out⟩
theorem CtAt.new2 (w : World) (T : TypeId) (c d : Cts) : CtAt ((w.alloc (.cells c.cells T)).alloc (.cells d.cells T)) w.heap.size T c ∧ CtAt ((w.alloc (.cells c.cells T)).alloc (.cells d.cells T)) (w.heap.size + 1) T d := by
  constructor
  · have h : CtAt (w.alloc (.cells c.cells T)) w.heap.size T c := heap_alloc_new _ _
    exact h.below ((Below.refl _ _).alloc (Nat.le_refl _) _)
  · have h : CtAt ((w.alloc (.cells c.cells T)).alloc (.cells d.cells T)) (w.alloc (.cells c.cells T)).heap.size T d := heap_alloc_new _ _
    rw [World.size_alloc] at h
    exact h
/-- where the counting stands: the result's block b, the counts' block b + 1 -/
structure CwAt (T : TypeId) (w wr : World) (c : Cts) : Prop where
  r : CtAt wr w.heap.size T ⟨0, 0, 0, 0⟩
  c : CtAt wr (w.heap.size + 1) T c
  b : Below w.heap.size w wr
theorem CwAt.below {T : TypeId} {w wr w' : World} {c : Cts} (h : CwAt T w wr c) (hb : Below wr.heap.size wr w') : CwAt T w w' c := ⟨h.r.below hb, h.c.below hb, h.b.trans (hb.mono h.b.size)⟩
theorem CwAt.start (T : TypeId) (w : World) (c : Cts) : CwAt T w ((w.alloc (.cells (Cts.mk 0 0 0 0).cells T)).alloc (.cells c.cells T)) c :=
  ⟨(CtAt.new2 w T _ _).1, (CtAt.new2 w T _ _).2, ((Below.refl _ _).alloc (Nat.le_refl _) _).alloc (by simp) _⟩
theorem CwAt.set1 {T : TypeId} {w wr : World} {c : Cts} (h : CwAt T w wr c) (n : Nat) : CwAt T w (wr.setCell ⟨w.heap.size + 1, 1, none⟩ (.int .i64 (n : Int))) { c with words := n } :=
  ⟨h.r.other (by simp) _, h.c.set1 n, h.b.setCell (by simp) _⟩
theorem CwAt.set0 {T : TypeId} {w wr : World} {c : Cts} (h : CwAt T w wr c) (n : Nat) : CwAt T w (wr.setCell ⟨w.heap.size + 1, 0, none⟩ (.int .i64 (n : Int))) { c with lines := n } :=
  ⟨h.r.other (by simp) _, h.c.set0 n, h.b.setCell (by simp) _⟩
theorem CwAt.set3 {T : TypeId} {w wr : World} {c : Cts} (h : CwAt T w wr c) (n : Nat) : CwAt T w (wr.setCell ⟨w.heap.size + 1, 3, none⟩ (.int .i64 (n : Int))) { c with long := n } :=
  ⟨h.r.other (by simp) _, h.c.set3 n, h.b.setCell (by simp) _⟩
set_option maxHeartbeats 2000000 in
set_option maxRecDepth 100000 in
theorem count_good (s : ByteArray) (w : World) (hs : s.size ≤ 65536) :
    Calls Tryd.prog 44 #[.string s] w fun e w' => e = .returned (.tuple #[.agg (ctsOf s).cells, .int .i64 0]) ∧ Below w.heap.size w w' := by
  have hd : ¬ ((65536 : Int) < (s.size : Int)) := by omega
  have HCN : Hid (∀ W, Calls Tryd.prog 88 #[.string s, .string ⟨#[10]⟩] W fun e w' => e = .returned (.int .i64 ((s.data.toList.count 10 : Nat) : Int)) ∧ W = w') := hide (fun W => (Tryd.strings_Count_one s 10 W).mono fun e w' ⟨h1, h2⟩ => ⟨h1, h2.symm⟩)
  have hcl := List.count_le_length (a := (10 : UInt8)) (l := s.data.toList)
  rw [len_size] at hcl
  obtain ⟨N, hN⟩ : ∃ N, s.data.toList.count 10 = N := ⟨_, rfl⟩
  simp only [hN] at HCN
  rw [hN] at hcl
  have HN := hide hN
  have HS0 := hide (CwAt.start 74 w ⟨N, 0, s.size, 0⟩)
  clear hN
  go_enter Tryd.func44, Tryd.ntmps44
  go_wp2_with fail
  refine (HCN.out _).mono ?_
  rintro e w' ⟨rfl, rfl⟩
  go_wp2_with fail
  go_loopw [19] (fun i wr => ∃ k : Nat, k ≤ s.size ∧ i = .int .i64 (k : Int) ∧ Hid (CwAt 74 w wr ⟨N, wcN s.data.toList k, s.size, 0⟩)) (fun i _ => s.size - (intOf i).toNat)
  case atStart => exact ⟨0, by omega, rfl, HS0⟩
  case round =>
    clear HS0
    obtain ⟨k, hk, rfl, HC⟩ := hrel
    by_cases hlt : k < s.size
    · have hd2 : (k : Int) < (s.size : Int) := by omega
      obtain ⟨c0, c1, c2, c3⟩ := HC.out.c.cells
      have f1 := HC.out.c.frozen 1
      have hwk := wcN_le s.data.toList k
      have HW1 : Hid (wcN s.data.toList (k + 1) = wcN s.data.toList k + (if wbB s.data.toList k then 1 else 0)) := hide rfl
      have HWB : Hid (wbB s.data.toList k = (!spB s[k] && (decide (k = 0) || spB (s.data.toList.getD (k - 1) 0)))) := hide (by unfold wbB; rw [getD_get hlt])
      obtain ⟨W0, hW0⟩ : ∃ W0, wcN s.data.toList k = W0 := ⟨_, rfl⟩
      rw [hW0] at HC HW1 c1 hwk
      clear hW0
      cases hsp : spB s[k]
      · rw [hsp] at HWB
        by_cases hk0 : k = 0
        · subst hk0
          have HX : Hid (wcN s.data.toList (0 + 1) = W0 + 1) := hide (by rw [HW1.out, HWB.out]; rfl)
          have HSP := hide (fun W => space_any s[0] _ W rfl)
          simp only [hsp] at HSP
          clear hsp HWB HW1
          go_wp2_with fail
          refine (HSP.out _).mono ?_
          rintro e w' ⟨rfl, rfl⟩
          go_wp2_with fail
          go_roundw
          case rel =>
            have h := HC.out.set1 (W0 + 1)
            rw [show ((W0 + 1 : Nat) : Int) = (W0 : Int) + 1 by omega] at h
            exact ⟨1, by omega, by go_num, by rw [show (1 : Nat) = 0 + 1 from rfl, HX.out]; exact h⟩
          case measure => simp [intOf]; omega
        · have hk1 : k - 1 < s.size := by omega
          rw [getD_get hk1, decide_eq_false hk0, Bool.false_or] at HWB
          have HSP := hide (fun W => space_any s[k] _ W rfl)
          simp only [hsp] at HSP
          have HSQ := hide (fun W => space_any s[k - 1] _ W rfl)
          have g1 : ((k : Int) == 0) = false := by simp only [beq_eq_false_iff_ne, ne_eq]; omega
          have g2 : IntKind.i64.wrap ((k : Int) - 1) = (k : Int) - 1 := IntWalk.i64_in _ (by omega)
          have g3 : (0 : Int) ≤ (k : Int) - 1 := by omega
          have g4 : (k : Int) - 1 < (s.size : Int) := by omega
          have g5 : ((k : Int) - 1).toNat = k - 1 := by omega
          have g6 : (1 : Int) ≤ (k : Int) := by omega
          have g7 : 1 ≤ k := by omega
          clear hsp hk0
          cases hsq : spB s[k - 1]
          · rw [hsq] at HWB
            have HX : Hid (wcN s.data.toList (k + 1) = W0) := hide (by rw [HW1.out, HWB.out]; rfl)
            simp only [hsq] at HSQ
            clear hsq HWB HW1
            go_wp2_with fail
            refine (HSP.out _).mono ?_
            rintro e w' ⟨rfl, rfl⟩
            go_wp2_with fail
            refine (HSQ.out _).mono ?_
            rintro e w' ⟨rfl, rfl⟩
            go_wp2_with fail
            go_roundw
            case rel => exact ⟨k + 1, by omega, by go_num, by rw [HX.out]; exact HC⟩
            case measure => simp [intOf]; omega
          · rw [hsq] at HWB
            have HX : Hid (wcN s.data.toList (k + 1) = W0 + 1) := hide (by rw [HW1.out, HWB.out]; rfl)
            simp only [hsq] at HSQ
            clear hsq HWB HW1
            go_wp2_with fail
            refine (HSP.out _).mono ?_
            rintro e w' ⟨rfl, rfl⟩
            go_wp2_with fail
            refine (HSQ.out _).mono ?_
            rintro e w' ⟨rfl, rfl⟩
            go_wp2_with fail
            go_roundw
            case rel =>
              have h := HC.out.set1 (W0 + 1)
              rw [show ((W0 + 1 : Nat) : Int) = (W0 : Int) + 1 by omega] at h
              exact ⟨k + 1, by omega, by go_num, by rw [HX.out]; exact h⟩
            case measure => simp [intOf]; omega
      · rw [hsp] at HWB
        have HX : Hid (wcN s.data.toList (k + 1) = W0) := hide (by rw [HW1.out, HWB.out]; rfl)
        have HSP := hide (fun W => space_any s[k] _ W rfl)
        simp only [hsp] at HSP
        clear hsp HWB HW1
        go_wp2_with fail
        refine (HSP.out _).mono ?_
        rintro e w' ⟨rfl, rfl⟩
        go_wp2_with fail
        go_roundw
        case rel => exact ⟨k + 1, by omega, by go_num, by rw [HX.out]; exact HC⟩
        case measure => simp [intOf]; omega
    · obtain rfl : k = s.size := by omega
      have hd2 : ¬ ((s.size : Int) < (s.size : Int)) := by omega
      have HFIN : Hid (ctsOf s = ⟨N, wcN s.data.toList s.size, s.size, mxB (linesOf s)⟩) := hide (by unfold ctsOf; rw [HN.out])
      obtain ⟨W0, hW0⟩ : ∃ W0, wcN s.data.toList s.size = W0 := ⟨_, rfl⟩
      rw [hW0] at HC HFIN
      have hbd := linesOf_bound s
      have HBD := hide hbd
      clear hW0
      go_wp2_with fail
      refine (lines_any s wr (by omega)).mono ?_
      rintro e w2 ⟨v, rfl, hr⟩
      have hb2 := linesRes_below hr
      have HC2 := hide (HC.out.below hb2)
      obtain ⟨A, rfl⟩ := linesRes_len hr
      have HR := hide (fun h => linesRes_row hr h)
      have hlt1 : w.heap.size + 1 < wr.heap.size := World.block_lt_of_cell? wr ⟨w.heap.size + 1, 0, none⟩ (by rw [HC.out.c.cells.1])
      obtain ⟨L, hL⟩ : ∃ L, linesOf s = L := ⟨_, rfl⟩
      rw [hL] at HR HBD HFIN ⊢
      obtain ⟨g, hg⟩ : ∃ g, wr.heap.size = g := ⟨_, rfl⟩
      rw [hg] at HR hlt1
      have hll := HBD.out.1
      clear hr hb2 hbd hL hg HC
      go_wp2_with fail
      go_loopw [46] (fun i wr => ∃ k : Nat, k ≤ L.length ∧ i = .int .i64 (k : Int) ∧ Hid (CwAt 74 w wr ⟨N, W0, s.size, mxB (L.take k)⟩) ∧ Hid (But w2.heap.size (w.heap.size + 1) w2 wr)) (fun i _ => L.length - (intOf i).toNat)
      case atStart => exact ⟨0, by omega, rfl, HC2, But.refl _ _ _⟩
      case round =>
        clear HC2
        obtain ⟨k, hk, rfl, HC, HBT⟩ := hrel
        obtain ⟨c0, c1, c2, c3⟩ := HC.out.c.cells
        have f3 := HC.out.c.frozen 3
        by_cases hlt : k < L.length
        · obtain ⟨e1, hrow⟩ := HR.out (by omega)
          injection e1 with e1 _ _
          subst e1
          have q1 : L[k]? = some L[k] := List.getElem?_eq_getElem hlt
          obtain ⟨r1, r2⟩ := hrow.2 k _ q1
          rw [Nat.zero_add] at r1
          have hc : wr.cell? ⟨g, k, none⟩ = some (.string L[k]) := (HBT.out.cell (p := ⟨g, k, none⟩) hrow.1 (by show g ≠ _; omega)).trans r1
          have HN2 : Hid (mxB (L.take (k + 1)) = max (mxB (L.take k)) L[k].size) := hide (by rw [List.take_succ_eq_append_getElem hlt, mxB_append])
          have hz1 := HBD.out.2 _ (List.getElem_mem hlt)
          have hz2 : mxB (L.take k) ≤ s.size := mxB_le fun x hx => HBD.out.2 x (List.mem_of_mem_take hx)
          obtain ⟨M, hM⟩ : ∃ M, mxB (L.take k) = M := ⟨_, rfl⟩
          rw [hM] at HC HN2 c3 hz2
          obtain ⟨x, hx⟩ : ∃ x, L[k] = x := ⟨_, rfl⟩
          rw [hx] at hc HN2 hz1
          have hd3 : (k : Int) < (L.length : Int) := by omega
          clear hM hx q1 r1 r2 hrow
          go_wp2_with fail
          go_roundw
          case rel =>
            have h := HC.out.set3 (max M x.size)
            rw [show ((max M x.size : Nat) : Int) = max (M : Int) (x.size : Int) by omega] at h
            exact ⟨k + 1, by omega, by go_num, by rw [HN2.out]; exact h, HBT.out.setCell 3 _⟩
          case measure => simp [intOf]; omega
        · obtain rfl : k = L.length := by omega
          have hd3 : ¬ ((L.length : Int) < (L.length : Int)) := by omega
          rw [List.take_length] at HC c3
          obtain ⟨r0, r1, r2, r3⟩ := HC.out.r.cells
          have hfin := HC.out.r.setAll ⟨N, W0, s.size, mxB L⟩
          dsimp only at hfin
          have y0 := HC.out.r.frozen 0
          have y1 := HC.out.r.frozen 1
          have y2 := HC.out.r.frozen 2
          have y3 := HC.out.r.frozen 3
          go_wp2_with fail
          (try simp only [Exit.inBlock, Exit.then])
          refine bodyPost_ret (results_cts rfl _ _ w.heap.size ⟨N, W0, s.size, mxB L⟩ rfl hfin) rfl ?_
          refine ⟨by rw [HFIN.out]; rfl, ?_⟩
          exact (((HC.out.b.setCell (p := ⟨w.heap.size, 0, none⟩) (Nat.le_refl _) _).setCell (p := ⟨w.heap.size, 1, none⟩) (Nat.le_refl _) _).setCell (p := ⟨w.heap.size, 2, none⟩) (Nat.le_refl _) _).setCell (p := ⟨w.heap.size, 3, none⟩) (Nat.le_refl _) _
end Go.Proofs.YtkikbejpgfhfoaaDoor
