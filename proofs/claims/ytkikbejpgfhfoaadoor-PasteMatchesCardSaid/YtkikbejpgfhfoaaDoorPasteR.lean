/- The reference's Pasted: the closure that joins words. -/
import Derived.Test.YtkikbejpgfhfoaaDoorPasteW
import Derived.Test.YtkikbejpgfhfoaaDoorRefL
set_option linter.unusedVariables false
set_option linter.unusedSimpArgs false
namespace Go.Pw
open Go.RowKit
theorem mkB_add (l : List UInt8) (s : ByteArray) : mkB l ++ s = mkB (l ++ s.data.toList) := by
  rw [← mkB_list (mkB l ++ s)]
  congr 1
theorem one_ext {bt : ByteArray} {m : Nat} (h : m < bt.size) : (bt.extract m (m + 1)).data.toList = [bt[m]] := by
  rw [ext_snoc h (Nat.le_refl _)]
  rw [Lib.extract_data]; simp
end Go.Pw
namespace Go.Proofs.YtkikbejpgfhfoaaDoor
open Go.RowKit Go.Pw
set_option maxHeartbeats 1000000 in
set_option maxRecDepth 100000 in
theorem put_any (v : Value) (l : List ByteArray) (bt : ByteArray) (bx : Nat) (w : World) (h : Strs w v l) (hbx : w.cell? ⟨bx, 0, none⟩ = some (.string bt)) (hlen : (altP bt l l.length).length ≤ 1000000000000) (hbt : bt.size ≤ 1000000) (hn : l.length ≤ 1000000000) :
    Calls Tryd.prog 95 #[v, .pointer (some ⟨bx, 0, none⟩)] w fun e w' => e = .returned (.string (altB bt l)) ∧ w = w' := by
  obtain ⟨⟨_, A, cap, rfl, hcap, hmax, hx⟩, hsz⟩ := h
  unfold maxLen at hmax
  have HX := hide hx
  have HLEN := hide hlen
  have HBX := hide hbx
  clear hx hsz hlen hbx
  go_enter Tryd.func95, Tryd.ntmps95
  go_wp2_with fail
  go_loopw [4, 10] (fun s i wr => ∃ k : Nat, k ≤ l.length ∧ i = .int .i64 (k : Int) ∧ s = .string (mkB (altP bt l k)) ∧ w = wr) (fun _ i _ => l.length - (intOf i).toNat)
  case atStart => exact ⟨0, by omega, rfl, rfl, rfl⟩
  case round =>
    obtain ⟨k, hk, rfl, rfl, rfl⟩ := hrel
    by_cases hlt : k < l.length
    · obtain ⟨bb, o, rfl, hbb, hj⟩ := HX.out (by omega)
      have hc : w.cell? ⟨bb, o + k, none⟩ = some (.string l[k]) := hj k _ (by simp [hlt])
      have hc2 : w.cell? ⟨bx, 0, none⟩ = some (.string bt) := HBX.out
      have e1 := altP_step bt l k hlt
      have e2 : (altP bt l (k + 1)).length ≤ 1000000000000 := by
        have := altP_mono bt l (k + 1) (l.length - (k + 1))
        rw [show k + 1 + (l.length - (k + 1)) = l.length by omega] at this
        have := HLEN.out
        omega
      have e3 := congrArg List.length e1
      rw [List.length_append, List.length_append, len_size] at e3
      have e6 := mkB_size (altP bt l k)
      have HN : Hid (mkB (altP bt l (k + 1)) = mkB (altP bt l k ++ sepB bt k) ++ l[k]) := hide (by rw [e1, mkB_add])
      obtain ⟨x, hx⟩ : ∃ x, l[k] = x := ⟨_, rfl⟩
      rw [hx] at hc HN e3
      clear hj e1 hx
      have hd : (k : Int) < (l.length : Int) := by omega
      by_cases h0 : 0 < k ∧ 0 < bt.size
      · obtain ⟨h1, h2⟩ := h0
        obtain ⟨m, hm, e4, e5⟩ := sepB_at h1 h2
        rw [e5, ← one_ext hm, ← mkB_add] at HN
        rw [e5] at e3
        simp only [List.length_cons, List.length_nil] at e3
        obtain ⟨T, hT⟩ : ∃ T, mkB (altP bt l k) = T := ⟨_, rfl⟩
        rw [hT] at HN e6 ⊢
        clear e5 hT
        have f1 : (0 : Int) < (k : Int) := by omega
        have f2 := isEmpty_of h2
        have f3 : (m : Int) < (bt.size : Int) := by omega
        have f4 : (bt.extract m (m + 1)).size = 1 := by rw [ByteArray.size_extract]; omega
        go_wp2_with fail
        go_roundw
        case rel => exact ⟨k + 1, by omega, by go_num, by rw [HN.out], by first | trivial | rfl⟩
        case measure => simp [intOf]; omega
      · rw [sepB_none (by omega), List.append_nil] at HN
        rw [sepB_none (by omega)] at e3
        simp only [List.length_nil] at e3
        obtain ⟨T, hT⟩ : ∃ T, mkB (altP bt l k) = T := ⟨_, rfl⟩
        rw [hT] at HN e6 ⊢
        clear hT
        by_cases hk0 : k = 0
        · subst hk0
          have hc : w.cell? ⟨bb, o, none⟩ = some (.string x) := hc
          go_wp2_with fail
          go_roundw
          case rel => exact ⟨1, by omega, by go_num, by rw [HN.out], by first | trivial | rfl⟩
          case measure => simp [intOf]; omega
        · have f1 : (0 : Int) < (k : Int) := by omega
          have hz0 : bt.size = 0 := by omega
          obtain rfl : bt = ⟨#[]⟩ := by
            have := len_size bt
            rw [hz0] at this
            rw [← mkB_list bt, List.eq_nil_of_length_eq_zero this]; rfl
          go_wp2_with fail
          go_roundw
          case rel => exact ⟨k + 1, by omega, by go_num, by rw [HN.out], by first | trivial | rfl⟩
          case measure => simp [intOf]; omega
    · obtain rfl : k = l.length := by omega
      have hd : ¬ ((l.length : Int) < (l.length : Int)) := by omega
      go_wp2_with fail
      go_ret
      exact ⟨rfl, rfl⟩
end Go.Proofs.YtkikbejpgfhfoaaDoor
