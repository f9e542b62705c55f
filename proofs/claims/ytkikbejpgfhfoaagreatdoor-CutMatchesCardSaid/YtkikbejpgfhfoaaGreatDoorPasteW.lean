/- text.alternating; results of great length. -/
import Derived.Test.YtkikbejpgfhfoaaGreatDoorTextW
import Derived.Test.YtkikbejpgfhfoaaGreatDoorPasteP0
set_option linter.unusedVariables false
set_option linter.unusedSimpArgs false
namespace Go.Pw
open Go.RowKit
theorem sepB_none {bt : ByteArray} {k : Nat} (h : k = 0 ∨ bt.size = 0) : sepB bt k = [] := by
  unfold sepB; rw [if_neg (by omega)]
theorem sepB_some {bt : ByteArray} {k : Nat} (h0 : 0 < k) (h1 : 0 < bt.size) : sepB bt k = [bt[(k - 1) % bt.size]'(Nat.mod_lt _ h1)] := by
  unfold sepB
  rw [if_pos ⟨h0, h1⟩]
  have h2 : (k - 1) % bt.size < bt.data.toList.length := by rw [len_size]; exact Nat.mod_lt _ h1
  rw [List.getD_eq_getElem?_getD, List.getElem?_eq_getElem h2]
  rfl
theorem altP_step (bt : ByteArray) (l : List ByteArray) (k : Nat) (h : k < l.length) : altP bt l (k + 1) = altP bt l k ++ sepB bt k ++ l[k].data.toList := by
  rw [altP, show l.getD k ⟨#[]⟩ = l[k] by simp [List.getD, h]]
theorem tmod_nat (k n : Nat) (hk : 0 < k) : Int.tmod ((k : Int) - 1) (n : Int) = (((k - 1) % n : Nat) : Int) := by
  rw [show (k : Int) - 1 = ((k - 1 : Nat) : Int) by omega]
  rfl
theorem sepB_at {bt : ByteArray} {k : Nat} (h0 : 0 < k) (h1 : 0 < bt.size) : ∃ m, ∃ hm : m < bt.size, Int.tmod ((k : Int) - 1) (bt.size : Int) = (m : Int) ∧ sepB bt k = [bt[m]] :=
  ⟨(k - 1) % bt.size, Nat.mod_lt _ h1, tmod_nat k bt.size h0, sepB_some h0 h1⟩
end Go.Pw
namespace Go.Proofs.YtkikbejpgfhfoaaGreatDoor
open Go.RowKit Go.Pw
set_option maxHeartbeats 1000000 in
set_option maxRecDepth 100000 in
/-- as result_any, for results of great length -/
theorem resultBig_any (v : Value) (l : List ByteArray) (w : World) (h : Strs w v l) (hlen : (resL l).length ≤ 1000000000000) :
    Calls Tryz.prog 41 #[v] w fun e w' => e = .returned (.string (mkB (resL l))) ∧ Below w.heap.size w w' := by
  obtain ⟨⟨_, A, cap, rfl, hcap, hmax, hx⟩, hsz⟩ := h
  unfold maxLen at hmax
  have HX := hide hx
  have HLEN := hide hlen
  clear hx hsz hlen
  have hB0 : Bld w.heap.size w.heap.size [] (w.alloc (.cells #[.pointer none, .slice none 0 0] 85)) := Lib.fresh_isBuilder _ _ w
  have HB0 := hide hB0
  clear hB0
  go_enter Tryz.func41, Tryz.ntmps41
  go_wp2_with fail
  go_loopw [8] (fun i wr => ∃ k : Nat, k ≤ l.length ∧ i = .int .i64 (k : Int) ∧ Bld w.heap.size w.heap.size (resL (l.take k)) wr ∧ Below w.heap.size w wr) (fun i _ => l.length - (intOf i).toNat)
  case atStart => exact ⟨0, by omega, rfl, by simpa [resL] using HB0.out, (Below.refl _ _).alloc (Nat.le_refl _) _⟩
  case round =>
    obtain ⟨k, hk, rfl, hbk, hb⟩ := hrel
    by_cases hlt : k < l.length
    · obtain ⟨bb, o, rfl, hbb, hj⟩ := HX.out (by omega)
      have hc : wr.cell? ⟨bb, o + k, none⟩ = some (.string l[k]) := (hb.cell (p := ⟨bb, o + k, none⟩) hbb).trans (hj k _ (by simp [hlt]))
      have e1 : resL (l.take (k + 1)) = resL (l.take k) ++ (l[k] ++ (⟨#[10]⟩ : ByteArray)).data.toList := by
        rw [List.take_succ_eq_append_getElem hlt, resL_append]
        simp [resL]
      have e2 : (resL (l.take k)).length + (l[k] ++ (⟨#[10]⟩ : ByteArray)).size ≤ 1000000000000 := by
        have h1 := resL_take_le l (k + 1)
        rw [e1, List.length_append, len_size] at h1
        have := HLEN.out
        omega
      have e3 : l[k].size ≤ 1000000000000 := by
        rw [ByteArray.size_append] at e2; omega
      have HN := hide e1
      have HE := hide e2
      have hzz := hb.size
      clear hj e1 e2
      go_wp2_with fail
      refine (writeString_any _ _ _ _ _ hbk (Nat.le_trans HE.out (by omega)) hzz).mono ?_
      rintro e w2 ⟨rfl, hb2, hbe2⟩
      rw [← HN.out] at hb2
      have hbw2 := hb.trans hbe2
      clear hbk hb hbe2 hc
      go_wp2_with fail
      go_roundw
      case rel => exact ⟨k + 1, by omega, by go_num, hb2, hbw2⟩
      case measure => simp [intOf]; omega
    · obtain rfl : k = l.length := by omega
      rw [List.take_length] at hbk
      have hzz := hb.size
      go_wp2_with fail
      refine (bldString_any _ _ _ _ hbk hzz).mono ?_
      rintro e w2 ⟨rfl, hb2⟩
      have hbw2 := hb.trans hb2
      clear hb hb2 hbk
      go_wp2_with fail
      go_ret
      exact ⟨rfl, hbw2⟩
end Go.Proofs.YtkikbejpgfhfoaaGreatDoor
