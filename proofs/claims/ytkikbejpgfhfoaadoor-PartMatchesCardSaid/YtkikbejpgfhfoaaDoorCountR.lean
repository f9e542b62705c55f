/- The reference's CountsOf. -/
import Derived.Test.YtkikbejpgfhfoaaDoorCountW
set_option linter.unusedVariables false
set_option linter.unusedSimpArgs false
namespace Go.Pw
open Go.RowKit
/-- what the tests on a byte say -/
structure Cls (c : UInt8) (b1 b2 b3 b4 : Bool) : Prop where
  t1 : (9 : Int) ≤ (c.toNat : Int) ↔ b1 = true
  t2 : (c.toNat : Int) ≤ 13 ↔ b2 = true
  t3 : ((c.toNat : Int) == 32) = b3
  t4 : ((c.toNat : Int) == 10) = b4
  sp : spB c = ((b1 && b2) || b3)
  nl : c = 10 ↔ b4 = true
theorem cls_ex (c : UInt8) : Cls c false true false false ∨ Cls c true true false false ∨ Cls c true true false true ∨ Cls c true false false false ∨ Cls c true false true false := by
  have key : ∀ (b1 b2 b3 b4 : Bool), decide (9 ≤ c.toNat) = b1 → decide (c.toNat ≤ 13) = b2 → decide (c.toNat = 32) = b3 → decide (c.toNat = 10) = b4 → Cls c b1 b2 b3 b4 := by
    intro b1 b2 b3 b4 h1 h2 h3 h4
    refine ⟨?_, ?_, ?_, ?_, ?_, ?_⟩
    · rw [← h1, decide_eq_true_iff]; omega
    · rw [← h2, decide_eq_true_iff]; omega
    · rw [← h3, Bool.eq_iff_iff]; simp; omega
    · rw [← h4, Bool.eq_iff_iff]; simp; omega
    · unfold spB; rw [h1, h2, h3]
    · rw [← h4]
      simp
      exact ⟨fun h => by rw [h]; rfl, fun h => UInt8.toNat_inj.1 h⟩
  by_cases h1 : 9 ≤ c.toNat
  · by_cases h2 : c.toNat ≤ 13
    · by_cases h4 : c.toNat = 10
      · exact .inr (.inr (.inl (key _ _ _ _ (by simp [h1]) (by simp [h2]) (by simp; omega) (by simp [h4]))))
      · exact .inr (.inl (key _ _ _ _ (by simp [h1]) (by simp [h2]) (by simp; omega) (by simp [h4])))
    · by_cases h3 : c.toNat = 32
      · exact .inr (.inr (.inr (.inr (key _ _ _ _ (by simp [h1]) (by simp; omega) (by simp [h3]) (by simp; omega)))))
      · exact .inr (.inr (.inr (.inl (key _ _ _ _ (by simp [h1]) (by simp; omega) (by simp [h3]) (by simp; omega)))))
  · exact .inl (key _ _ _ _ (by simp; omega) (by simp; omega) (by simp; omega) (by simp; omega))
/-- how far the reference has counted: n the letters of the line at hand, m the most so far -/
structure RcAt (s : ByteArray) (k n m N W : Nat) (sp : Bool) : Prop where
  nk : n ≤ k
  mm : m ≤ k
  nN : N ≤ k
  wk : W ≤ k
  sp : sp = (decide (k = 0) || spB (s.data.toList.getD (k - 1) 0))
  ln : N = (s.data.toList.take k).count 10
  wd : W = wcN s.data.toList k
  lo : loF n m (s.data.toList.drop k) = mxB (linesOf s)
theorem RcAt.start (s : ByteArray) : RcAt s 0 0 0 0 0 true := ⟨Nat.le_refl _, Nat.le_refl _, Nat.le_refl _, Nat.le_refl _, by simp, by simp, rfl, (mxB_lines s).symm⟩
theorem RcAt.step {s : ByteArray} {k n m N W : Nat} {sp : Bool} (h : RcAt s k n m N W sp) (hk : k < s.size) {b1 b2 b3 b4 : Bool} (hc : Cls s[k] b1 b2 b3 b4) :
    RcAt s (k + 1) (if b4 then 0 else n + 1) (if b4 then m else max m (n + 1)) (N + if b4 then 1 else 0) (W + if sp && !((b1 && b2) || b3) then 1 else 0) ((b1 && b2) || b3) := by
  have hs := drop_byte s k hk
  have hlo := h.lo
  rw [hs, loF] at hlo
  have hnl := hc.nl
  have hnk := h.nk
  have hmk := h.mm
  have hN := h.nN
  have hW := h.wk
  refine ⟨?_, ?_, ?_, ?_, ?_, ?_, ?_, ?_⟩
  · split <;> omega
  · split <;> omega
  · split <;> omega
  · split <;> omega
  · rw [show k + 1 - 1 = k by omega, getD_get hk, hc.sp]; simp
  · rw [take_snoc s k hk, List.count_append, h.ln]
    congr 1
    cases b4
    · have : s[k] ≠ 10 := fun e => by have := hnl.1 e; cases this
      simp [this]
    · have : s[k] = 10 := hnl.2 rfl
      simp [this]
  · rw [wcN, h.wd]
    congr 1
    unfold wbB
    rw [getD_get hk, hc.sp, ← h.sp, Bool.and_comm]
  · cases b4
    · have : s[k] ≠ 10 := fun e => by have := hnl.1 e; cases this
      rw [if_neg this] at hlo
      simpa using hlo
    · have : s[k] = 10 := hnl.2 rfl
      rw [if_pos this] at hlo
      simpa using hlo
end Go.Pw
namespace Go.Proofs.YtkikbejpgfhfoaaDoor
open Go.RowKit Go.Pw
theorem CwAt.inc1 {T : TypeId} {w wr : World} {N W B m : Nat} (h : CwAt T w wr ⟨N, W, B, m⟩) : CwAt T w (wr.setCell ⟨w.heap.size + 1, 1, none⟩ (.int .i64 ((W : Int) + 1))) ⟨N, W + 1, B, m⟩ := h.set1 (W + 1)
theorem CwAt.inc0 {T : TypeId} {w wr : World} {N W B m : Nat} (h : CwAt T w wr ⟨N, W, B, m⟩) : CwAt T w (wr.setCell ⟨w.heap.size + 1, 0, none⟩ (.int .i64 ((N : Int) + 1))) ⟨N + 1, W, B, m⟩ := h.set0 (N + 1)
theorem CwAt.top3 {T : TypeId} {w wr : World} {N W B m n : Nat} (h : CwAt T w wr ⟨N, W, B, m⟩) : CwAt T w (wr.setCell ⟨w.heap.size + 1, 3, none⟩ (.int .i64 ((n : Int) + 1))) ⟨N, W, B, n + 1⟩ := h.set3 (n + 1)
theorem results_cts1 {fn : Func} {p : Tmp} (h : fn.results = #[.cell p 74]) (tmps : Array Value) (w : World) (g : Nat) (c : Cts)
    (hp : tmps.getD p undef = .pointer (some ⟨g, 0, none⟩)) (hg : CtAt w g 74 c) : (results fn tmps).run Tryd.prog w = .ok (.agg c.cells) w :=
  results_cell_row h tmps w g 74 c.cells (0, 0) _ hp hg Tryd.underlying74 rfl info_cts
set_option maxHeartbeats 4000000 in
set_option maxRecDepth 100000 in
theorem countsOf_any (s : ByteArray) (w : World) (hs : s.size ≤ 65536) :
    Calls Tryd.prog 45 #[.string s] w fun e w' => e = .returned (.agg (ctsOf s).cells) ∧ Below w.heap.size w w' := by
  have HS0 := hide (CwAt.start 74 w ⟨0, 0, s.size, 0⟩)
  go_enter Tryd.func45, Tryd.ntmps45
  go_wp2_with fail
  go_loopw [4, 5, 14] (fun sv nv i wr => ∃ (k n m N W : Nat) (sp : Bool), k ≤ s.size ∧ i = .int .i64 (k : Int) ∧ sv = .bool sp ∧ nv = .int .i64 (n : Int) ∧ Hid (RcAt s k n m N W sp) ∧ Hid (CwAt 74 w wr ⟨N, W, s.size, m⟩)) (fun _ _ i _ => s.size - (intOf i).toNat)
  case atStart => exact ⟨0, 0, 0, 0, 0, true, by omega, rfl, rfl, rfl, hide (RcAt.start s), HS0⟩
  case round =>
    clear HS0
    obtain ⟨k, n, m, N, W, sp, hk, rfl, rfl, rfl, HR, HC⟩ := hrel
    obtain ⟨c0, c1, c2, c3⟩ := HC.out.c.cells
    have y0 := HC.out.c.frozen 0
    have y1 := HC.out.c.frozen 1
    have y3 := HC.out.c.frozen 3
    have hnk := HR.out.nk
    have hmk := HR.out.mm
    have hNk := HR.out.nN
    have hWk := HR.out.wk
    by_cases hlt : k < s.size
    · have hd2 : (k : Int) < (s.size : Int) := by omega
      have HST := hide (fun b1 b2 b3 b4 => HR.out.step hlt (b1 := b1) (b2 := b2) (b3 := b3) (b4 := b4))
      have hcl := cls_ex s[k]
      obtain ⟨c, hc⟩ : ∃ c, s[k] = c := ⟨_, rfl⟩
      have HCC := hide hc
      clear hc
      rcases hcl with h | h | h | h | h
      all_goals
        have HN := hide (HST.out _ _ _ _ h)
        obtain ⟨t1, t2, t3, t4, -, -⟩ := h
        simp only [iff_true, iff_false, Bool.false_eq_true] at t1 t2
        clear HST
      · cases sp
        · by_cases hnm : m < n + 1
          · have hnm' : (m : Int) < (n : Int) + 1 := by omega
            have e1 : max m (n + 1) = n + 1 := by omega
            go_wp2_with fail
            go_roundw
            case rel => exact ⟨k + 1, n + 1, n + 1, N, W, false, by omega, by go_num, rfl, rfl, by simpa [e1] using HN, HC.out.top3⟩
            case measure => simp [intOf]; omega
          · have hnm' : ¬ ((m : Int) < (n : Int) + 1) := by omega
            have e1 : max m (n + 1) = m := by omega
            go_wp2_with fail
            go_roundw
            case rel => exact ⟨k + 1, n + 1, m, N, W, false, by omega, by go_num, rfl, rfl, by simpa [e1] using HN, HC.out⟩
            case measure => simp [intOf]; omega
        · by_cases hnm : m < n + 1
          · have hnm' : (m : Int) < (n : Int) + 1 := by omega
            have e1 : max m (n + 1) = n + 1 := by omega
            go_wp2_with fail
            go_roundw
            case rel => exact ⟨k + 1, n + 1, n + 1, N, W + 1, false, by omega, by go_num, rfl, rfl, by simpa [e1] using HN, HC.out.inc1.top3⟩
            case measure => simp [intOf]; omega
          · have hnm' : ¬ ((m : Int) < (n : Int) + 1) := by omega
            have e1 : max m (n + 1) = m := by omega
            go_wp2_with fail
            go_roundw
            case rel => exact ⟨k + 1, n + 1, m, N, W + 1, false, by omega, by go_num, rfl, rfl, by simpa [e1] using HN, HC.out.inc1⟩
            case measure => simp [intOf]; omega
      · cases sp
        · by_cases hnm : m < n + 1
          · have hnm' : (m : Int) < (n : Int) + 1 := by omega
            have e1 : max m (n + 1) = n + 1 := by omega
            go_wp2_with fail
            go_roundw
            case rel => exact ⟨k + 1, n + 1, n + 1, N, W, true, by omega, by go_num, rfl, rfl, by simpa [e1] using HN, HC.out.top3⟩
            case measure => simp [intOf]; omega
          · have hnm' : ¬ ((m : Int) < (n : Int) + 1) := by omega
            have e1 : max m (n + 1) = m := by omega
            go_wp2_with fail
            go_roundw
            case rel => exact ⟨k + 1, n + 1, m, N, W, true, by omega, by go_num, rfl, rfl, by simpa [e1] using HN, HC.out⟩
            case measure => simp [intOf]; omega
        · by_cases hnm : m < n + 1
          · have hnm' : (m : Int) < (n : Int) + 1 := by omega
            have e1 : max m (n + 1) = n + 1 := by omega
            go_wp2_with fail
            go_roundw
            case rel => exact ⟨k + 1, n + 1, n + 1, N, W, true, by omega, by go_num, rfl, rfl, by simpa [e1] using HN, HC.out.top3⟩
            case measure => simp [intOf]; omega
          · have hnm' : ¬ ((m : Int) < (n : Int) + 1) := by omega
            have e1 : max m (n + 1) = m := by omega
            go_wp2_with fail
            go_roundw
            case rel => exact ⟨k + 1, n + 1, m, N, W, true, by omega, by go_num, rfl, rfl, by simpa [e1] using HN, HC.out⟩
            case measure => simp [intOf]; omega
      · cases sp
        · have hm0 : ¬ ((m : Int) < 0) := by omega
          go_wp2_with fail
          go_roundw
          case rel => exact ⟨k + 1, 0, m, N + 1, W, true, by omega, by go_num, rfl, rfl, by simpa using HN, HC.out.inc0⟩
          case measure => simp [intOf]; omega
        · have hm0 : ¬ ((m : Int) < 0) := by omega
          go_wp2_with fail
          go_roundw
          case rel => exact ⟨k + 1, 0, m, N + 1, W, true, by omega, by go_num, rfl, rfl, by simpa using HN, HC.out.inc0⟩
          case measure => simp [intOf]; omega
      · cases sp
        · by_cases hnm : m < n + 1
          · have hnm' : (m : Int) < (n : Int) + 1 := by omega
            have e1 : max m (n + 1) = n + 1 := by omega
            go_wp2_with fail
            go_roundw
            case rel => exact ⟨k + 1, n + 1, n + 1, N, W, false, by omega, by go_num, rfl, rfl, by simpa [e1] using HN, HC.out.top3⟩
            case measure => simp [intOf]; omega
          · have hnm' : ¬ ((m : Int) < (n : Int) + 1) := by omega
            have e1 : max m (n + 1) = m := by omega
            go_wp2_with fail
            go_roundw
            case rel => exact ⟨k + 1, n + 1, m, N, W, false, by omega, by go_num, rfl, rfl, by simpa [e1] using HN, HC.out⟩
            case measure => simp [intOf]; omega
        · by_cases hnm : m < n + 1
          · have hnm' : (m : Int) < (n : Int) + 1 := by omega
            have e1 : max m (n + 1) = n + 1 := by omega
            go_wp2_with fail
            go_roundw
            case rel => exact ⟨k + 1, n + 1, n + 1, N, W + 1, false, by omega, by go_num, rfl, rfl, by simpa [e1] using HN, HC.out.inc1.top3⟩
            case measure => simp [intOf]; omega
          · have hnm' : ¬ ((m : Int) < (n : Int) + 1) := by omega
            have e1 : max m (n + 1) = m := by omega
            go_wp2_with fail
            go_roundw
            case rel => exact ⟨k + 1, n + 1, m, N, W + 1, false, by omega, by go_num, rfl, rfl, by simpa [e1] using HN, HC.out.inc1⟩
            case measure => simp [intOf]; omega
      · cases sp
        · by_cases hnm : m < n + 1
          · have hnm' : (m : Int) < (n : Int) + 1 := by omega
            have e1 : max m (n + 1) = n + 1 := by omega
            go_wp2_with fail
            go_roundw
            case rel => exact ⟨k + 1, n + 1, n + 1, N, W, true, by omega, by go_num, rfl, rfl, by simpa [e1] using HN, HC.out.top3⟩
            case measure => simp [intOf]; omega
          · have hnm' : ¬ ((m : Int) < (n : Int) + 1) := by omega
            have e1 : max m (n + 1) = m := by omega
            go_wp2_with fail
            go_roundw
            case rel => exact ⟨k + 1, n + 1, m, N, W, true, by omega, by go_num, rfl, rfl, by simpa [e1] using HN, HC.out⟩
            case measure => simp [intOf]; omega
        · by_cases hnm : m < n + 1
          · have hnm' : (m : Int) < (n : Int) + 1 := by omega
            have e1 : max m (n + 1) = n + 1 := by omega
            go_wp2_with fail
            go_roundw
            case rel => exact ⟨k + 1, n + 1, n + 1, N, W, true, by omega, by go_num, rfl, rfl, by simpa [e1] using HN, HC.out.top3⟩
            case measure => simp [intOf]; omega
          · have hnm' : ¬ ((m : Int) < (n : Int) + 1) := by omega
            have e1 : max m (n + 1) = m := by omega
            go_wp2_with fail
            go_roundw
            case rel => exact ⟨k + 1, n + 1, m, N, W, true, by omega, by go_num, rfl, rfl, by simpa [e1] using HN, HC.out⟩
            case measure => simp [intOf]; omega
    · obtain rfl : k = s.size := by omega
      have hd2 : ¬ ((s.size : Int) < (s.size : Int)) := by omega
      have hlo := HR.out.lo
      rw [List.drop_of_length_le (by rw [len_size]; exact Nat.le_refl _), loF] at hlo
      have hln := HR.out.ln
      rw [List.take_of_length_le (by rw [len_size]; exact Nat.le_refl _)] at hln
      have HFIN : Hid (ctsOf s = ⟨N, W, s.size, m⟩) := hide (by unfold ctsOf; rw [hln, HR.out.wd, hlo])
      obtain ⟨r0, r1, r2, r3⟩ := HC.out.r.cells
      have hfin := HC.out.r.setAll ⟨N, W, s.size, m⟩
      dsimp only at hfin
      have z0 := HC.out.r.frozen 0
      have z1 := HC.out.r.frozen 1
      have z2 := HC.out.r.frozen 2
      have z3 := HC.out.r.frozen 3
      clear hln hlo
      go_wp2_with fail
      (try simp only [Exit.inBlock, Exit.then])
      refine bodyPost_ret (results_cts1 rfl _ _ w.heap.size ⟨N, W, s.size, m⟩ rfl hfin) rfl ?_
      refine ⟨by rw [HFIN.out], ?_⟩
      exact (((HC.out.b.setCell (p := ⟨w.heap.size, 0, none⟩) (Nat.le_refl _) _).setCell (p := ⟨w.heap.size, 1, none⟩) (Nat.le_refl _) _).setCell (p := ⟨w.heap.size, 2, none⟩) (Nat.le_refl _) _).setCell (p := ⟨w.heap.size, 3, none⟩) (Nat.le_refl _) _
end Go.Proofs.YtkikbejpgfhfoaaDoor
