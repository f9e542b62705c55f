/- text.alternating; results of great length. -/
import Derived.Test.YtkikbejpgfhfoaaDoorTextW
import Derived.Test.YtkikbejpgfhfoaaDoorPasteP0
set_option linter.unusedVariables false
set_option linter.unusedSimpArgs false
namespace Go.Pw
open Go.RowKit
theorem sepB_none {bt : ByteArray} {k : Nat} (h : k = 0 ∨ bt.size = 0) : sepB bt k = [] := by
  unfold sepB; rw [if_neg (by omega)]
theorem sepB_some {bt : ByteArray} {k : Nat} (h0 : 0 < k) (h1 : 0 < bt.size) : sepB bt k = [bt[(k - 1) % bt.size]'(Nat.mod_lt _ h1)] := by
  unfold sepB
  rw [if_pos ⟨h0, h1⟩]
  have h2 : (k - 1) % bt.size < bt.data.toList.length := by rw [len_size]; exact Nat.mod_lt _ h1
  rw [List.getD_eq_getElem?_getD, List.getElem?_eq_getElem h2]
  rfl
theorem altP_step (bt : ByteArray) (l : List ByteArray) (k : Nat) (h : k < l.length) : altP bt l (k + 1) = altP bt l k ++ sepB bt k ++ l[k].data.toList := by
  rw [altP, show l.getD k ⟨#[]⟩ = l[k] by simp [List.getD, h]]
theorem tmod_nat (k n : Nat) (hk : 0 < k) : Int.tmod ((k : Int) - 1) (n : Int) = (((k - 1) % n : Nat) : Int) := by
  rw [show (k : Int) - 1 = ((k - 1 : Nat) : Int) by omega]
  rfl
theorem sepB_at {bt : ByteArray} {k : Nat} (h0 : 0 < k) (h1 : 0 < bt.size) : ∃ m, ∃ hm : m < bt.size, Int.tmod ((k : Int) - 1) (bt.size : Int) = (m : Int) ∧ sepB bt k = [bt[m]] :=
  ⟨(k - 1) % bt.size, Nat.mod_lt _ h1, tmod_nat k bt.size h0, sepB_some h0 h1⟩
end Go.Pw
namespace Go.Proofs.YtkikbejpgfhfoaaDoor
open Go.RowKit Go.Pw
set_option maxHeartbeats 1000000 in
set_option maxRecDepth 100000 in
theorem alternating_any (v : Value) (l : List ByteArray) (bt : ByteArray) (w : World) (h : Strs w v l) (hlen : (altP bt l l.length).length ≤ 1000000000000) (hbt : bt.size ≤ 1000000) (hn : l.length ≤ 1000000000) :
    Calls Tryd.prog 91 #[v, .string bt] w fun e w' => e = .returned (.string (altB bt l)) ∧ Below w.heap.size w w' := by
  obtain ⟨⟨_, A, cap, rfl, hcap, hmax, hx⟩, hsz⟩ := h
  unfold maxLen at hmax
  have HX := hide hx
  have HLEN := hide hlen
  clear hx hsz hlen
  have HB0 := hide (show Bld w.heap.size w.heap.size [] (w.alloc (.cells #[.pointer none, .slice none 0 0] 123)) from Lib.fresh_isBuilder _ _ w)
  go_enter Tryd.func91, Tryd.ntmps91
  go_wp2_with fail
  go_loopw [10] (fun i wr => ∃ k : Nat, k ≤ l.length ∧ i = .int .i64 (k : Int) ∧ Bld w.heap.size w.heap.size (altP bt l k) wr ∧ Below w.heap.size w wr) (fun i _ => l.length - (intOf i).toNat)
  case atStart => exact ⟨0, by omega, rfl, by simpa [altP] using HB0.out, (Below.refl _ _).alloc (Nat.le_refl _) _⟩
  case round =>
    obtain ⟨k, hk, rfl, hbk, hb⟩ := hrel
    by_cases hlt : k < l.length
    · obtain ⟨bb, o, rfl, hbb, hj⟩ := HX.out (by omega)
      have hc : wr.cell? ⟨bb, o + k, none⟩ = some (.string l[k]) := (hb.cell (p := ⟨bb, o + k, none⟩) hbb).trans (hj k _ (by simp [hlt]))
      have e1 := altP_step bt l k hlt
      have e2 : (altP bt l (k + 1)).length ≤ 1000000000000 := by
        have := altP_mono bt l (k + 1) (l.length - (k + 1))
        rw [show k + 1 + (l.length - (k + 1)) = l.length by omega] at this
        have := HLEN.out
        omega
      have e3 := congrArg List.length e1
      rw [List.length_append, List.length_append, len_size] at e3
      have HN := hide e1
      have hzz := hb.size
      obtain ⟨x, hx⟩ : ∃ x, l[k] = x := ⟨_, rfl⟩
      rw [hx] at hc HN e3
      clear hj e1 hx
      have hd : (k : Int) < (l.length : Int) := by omega
      by_cases h0 : 0 < k ∧ 0 < bt.size
      · obtain ⟨h1, h2⟩ := h0
        obtain ⟨m, hm, e4, e5⟩ := sepB_at h1 h2
        rw [e5] at HN e3
        obtain ⟨c, hcc⟩ : ∃ c, bt[m]'hm = c := ⟨_, rfl⟩
        rw [hcc] at HN
        simp only [List.length_cons, List.length_nil] at e3
        clear e5
        have f1 : (0 : Int) < (k : Int) := by omega
        have f2 := isEmpty_of h2
        go_wp2_with fail
        refine (writeByte_any _ _ _ c _ _ hbk (by omega) hzz rfl).mono ?_
        rintro e w2 ⟨rfl, hb2, hbe2⟩
        have hbw2 := hb.trans hbe2
        have hc2 := (hbe2.cell (p := ⟨bb, o + k, none⟩) hbb).trans hc
        have hz2 := hbw2.size
        clear hbk hb hbe2 hc
        go_wp2_with fail
        refine (writeString_any _ _ _ _ _ hb2 (by rw [List.length_append, List.length_cons, List.length_nil]; omega) hz2).mono ?_
        rintro e w3 ⟨rfl, hb3, hbe3⟩
        rw [← HN.out] at hb3
        have hbw3 := hbw2.trans hbe3
        clear hb2 hbw2 hbe3
        go_wp2_with fail
        go_roundw
        case rel => exact ⟨k + 1, by omega, by go_num, hb3, hbw3⟩
        case measure => simp [intOf]; omega
      · rw [sepB_none (by omega)] at HN e3
        rw [List.append_nil] at HN
        simp only [List.length_nil] at e3
        by_cases hk0 : k = 0
        · subst hk0
          have hc : wr.cell? ⟨bb, o, none⟩ = some (.string x) := hc
          have HE3 := hide e3
          have HE2 := hide e2
          clear h0 e3 e2
          go_wp2_with fail
          refine (writeString_any _ _ _ _ _ hbk (by have := HE3.out; have := HE2.out; omega) hzz).mono ?_
          rintro e w2 ⟨rfl, hb2, hbe2⟩
          rw [← HN.out] at hb2
          have hbw2 := hb.trans hbe2
          clear hbk hb hbe2 hc
          go_wp2_with fail
          go_roundw
          case rel => exact ⟨1, by omega, by go_num, hb2, hbw2⟩
          case measure => simp [intOf]; omega
        · have f1 : (0 : Int) < (k : Int) := by omega
          have hz0 : bt.size = 0 := by omega
          obtain rfl : bt = ⟨#[]⟩ := by
            have := len_size bt
            rw [hz0] at this
            rw [← mkB_list bt, List.eq_nil_of_length_eq_zero this]; rfl
          go_wp2_with fail
          refine (writeString_any _ _ _ _ _ hbk (by omega) hzz).mono ?_
          rintro e w2 ⟨rfl, hb2, hbe2⟩
          rw [← HN.out] at hb2
          have hbw2 := hb.trans hbe2
          clear hbk hb hbe2 hc
          go_wp2_with fail
          go_roundw
          case rel => exact ⟨k + 1, by omega, by go_num, hb2, hbw2⟩
          case measure => simp [intOf]; omega
    · obtain rfl : k = l.length := by omega
      have hzz := hb.size
      have hd : ¬ ((l.length : Int) < (l.length : Int)) := by omega
      go_wp2_with fail
      refine (bldString_any _ _ _ _ hbk hzz).mono ?_
      rintro e w2 ⟨rfl, hb2⟩
      have hbw2 := hb.trans hb2
      clear hb hb2 hbk
      go_wp2_with fail
      go_ret
      exact ⟨rfl, hbw2⟩
set_option maxHeartbeats 1000000 in
set_option maxRecDepth 100000 in
/-- as result_any, for results of great length -/
theorem resultBig_any (v : Value) (l : List ByteArray) (w : World) (h : Strs w v l) (hlen : (resL l).length ≤ 1000000000000) :
    Calls Tryd.prog 69 #[v] w fun e w' => e = .returned (.string (mkB (resL l))) ∧ Below w.heap.size w w' := by
  obtain ⟨⟨_, A, cap, rfl, hcap, hmax, hx⟩, hsz⟩ := h
  unfold maxLen at hmax
  have HX := hide hx
  have HLEN := hide hlen
  clear hx hsz hlen
  have hB0 : Bld w.heap.size w.heap.size [] (w.alloc (.cells #[.pointer none, .slice none 0 0] 123)) := Lib.fresh_isBuilder _ _ w
  have HB0 := hide hB0
  clear hB0
  go_enter Tryd.func69, Tryd.ntmps69
  go_wp2_with fail
  go_loopw [8] (fun i wr => ∃ k : Nat, k ≤ l.length ∧ i = .int .i64 (k : Int) ∧ Bld w.heap.size w.heap.size (resL (l.take k)) wr ∧ Below w.heap.size w wr) (fun i _ => l.length - (intOf i).toNat)
  case atStart => exact ⟨0, by omega, rfl, by simpa [resL] using HB0.out, (Below.refl _ _).alloc (Nat.le_refl _) _⟩
  case round =>
    obtain ⟨k, hk, rfl, hbk, hb⟩ := hrel
    by_cases hlt : k < l.length
    · obtain ⟨bb, o, rfl, hbb, hj⟩ := HX.out (by omega)
      have hc : wr.cell? ⟨bb, o + k, none⟩ = some (.string l[k]) := (hb.cell (p := ⟨bb, o + k, none⟩) hbb).trans (hj k _ (by simp [hlt]))
      have e1 : resL (l.take (k + 1)) = resL (l.take k) ++ (l[k] ++ (⟨#[10]⟩ : ByteArray)).data.toList := by
        rw [List.take_succ_eq_append_getElem hlt, resL_append]
        simp [resL]
      have e2 : (resL (l.take k)).length + (l[k] ++ (⟨#[10]⟩ : ByteArray)).size ≤ 1000000000000 := by
        have h1 := resL_take_le l (k + 1)
        rw [e1, List.length_append, len_size] at h1
        have := HLEN.out
        omega
      have e3 : l[k].size ≤ 1000000000000 := by
        rw [ByteArray.size_append] at e2; omega
      have HN := hide e1
      have HE := hide e2
      have hzz := hb.size
      clear hj e1 e2
      go_wp2_with fail
      refine (writeString_any _ _ _ _ _ hbk (Nat.le_trans HE.out (by omega)) hzz).mono ?_
      rintro e w2 ⟨rfl, hb2, hbe2⟩
      rw [← HN.out] at hb2
      have hbw2 := hb.trans hbe2
      clear hbk hb hbe2 hc
      go_wp2_with fail
      go_roundw
      case rel => exact ⟨k + 1, by omega, by go_num, hb2, hbw2⟩
      case measure => simp [intOf]; omega
    · obtain rfl : k = l.length := by omega
      rw [List.take_length] at hbk
      have hzz := hb.size
      go_wp2_with fail
      refine (bldString_any _ _ _ _ hbk hzz).mono ?_
      rintro e w2 ⟨rfl, hb2⟩
      have hbw2 := hb.trans hb2
      clear hb hb2 hbk
      go_wp2_with fail
      go_ret
      exact ⟨rfl, hbw2⟩
end Go.Proofs.YtkikbejpgfhfoaaDoor
