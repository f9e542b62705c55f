/- The walks of Comm, first part: in order or not. -/
import Derived.Test.YtkikbejpgfhfoaaDoorRefL
import Derived.Test.YtkikbejpgfhfoaaDoorCommP
import Derived.OneCell
set_option linter.unusedVariables false
set_option linter.unusedSimpArgs false
namespace Go.Proofs.YtkikbejpgfhfoaaDoor
open Go.RowKit Go.Pw
theorem lessS_any (a b : ByteArray) (w : World) : Calls Tryd.prog 114 #[.string a, .string b] w fun e w' => e = .returned (.bool (decide (cbL a b < 0))) ∧ w = w' := by
  have H := hide (less_dec a b)
  rw [← Lib.toList_data, ← Lib.toList_data] at H
  go_enter Tryd.func114, Tryd.ntmps114
  go_wp2_with (go_at_call 139; refine (isNaNS_any _ _).mono ?_; rintro e w' ⟨rfl, rfl⟩)
  go_ret
  exact ⟨ret_bool H.out, rfl⟩
set_option maxHeartbeats 1000000 in
theorem isSorted_any (v : Value) (l : List ByteArray) (w : World) (h : Strs w v l) (hlen : l.length ≤ 1000000000) :
    Calls Tryd.prog 67 #[v] w fun e w' => e = .returned (.bool (ordB l)) ∧ ∃ q, w' = w.drewN q := by
  obtain ⟨⟨_, A, cap, rfl, hcap, hmax, hx⟩, _⟩ := h
  have HX := hide hx
  clear hx
  go_enter Tryd.func67, Tryd.ntmps67
  go_wp2_with fail
  go_loopw [3] (fun i wr => ∃ (k : Nat) (q : Nat), k ≤ l.length ∧ i = .int .i64 ((k : Int) - 1) ∧ Hid (ordB (l.drop (k - 1)) = true) ∧ wr = w.drewN q) (fun i _ => (intOf i).toNat)
  case atStart => exact ⟨l.length, 0, Nat.le_refl _, by go_num, hide (ordB_last (by omega)), rfl⟩
  case round =>
    obtain ⟨k, q, hk, rfl, HO, rfl⟩ := hrel
    by_cases hlt : 1 < k
    · obtain ⟨bb, o, rfl, hbb, hj⟩ := HX.out (by omega)
      have c1 : (w.drewN q).cell? ⟨bb, o + (k - 1), none⟩ = some (.string l[k - 1]) := hj (k - 1) _ (by simp [show k - 1 < l.length by omega])
      have c2 : (w.drewN q).cell? ⟨bb, o + (k - 2), none⟩ = some (.string l[k - 2]) := hj (k - 2) _ (by simp [show k - 2 < l.length by omega])
      have e1 := ordB_drop (l := l) (k := k - 2) (by omega)
      have HD : Hid (ordB (l.drop (k - 2)) = decide (cbL l[k - 2] l[k - 1] ≤ 0)) := hide (by
        rw [e1]
        have : k - 2 + 1 = k - 1 := by omega
        simp only [this]
        rw [HO.out, Bool.and_true])
      have HL := hide (cbL_flip l[k - 2] l[k - 1])
      obtain ⟨x, hx⟩ : ∃ x, l[k - 2] = x := ⟨_, rfl⟩
      obtain ⟨y, hy⟩ : ∃ y, l[k - 1] = y := ⟨_, rfl⟩
      rw [hx] at c2
      rw [hy] at c1
      rw [hx, hy] at HD HL
      clear e1 hx hy hj HO
      have hw1 : (0 : Int) < (k : Int) - 1 := by omega
      have hw6 : (1 : Int) ≤ (k : Int) := by omega
      have hw7 : 1 ≤ k := by omega
      have hw8 : (1 : Int) ≤ (k : Int) - 1 := by omega
      have hw9 : (1 : Int) < (k : Int) := by omega
      have hw2 : ((k : Int) - 1).toNat = k - 1 := by omega
      have hw3 : (0 : Int) ≤ (k : Int) - 1 := by omega
      have hw4 : (k : Int) - 1 < (l.length : Int) := by omega
      have hv1 : IntKind.i64.wrap ((k : Int) - 1 - 1) = (k : Int) - 1 - 1 := IntWalk.i64_in _ (by omega)
      have hv2 : ((k : Int) - 1 - 1).toNat = k - 2 := by omega
      have hv3 : (0 : Int) ≤ (k : Int) - 1 - 1 := by omega
      have hv4 : (k : Int) - 1 - 1 < (l.length : Int) := by omega
      obtain ⟨W, hW⟩ : ∃ W, w.drewN q = W := ⟨_, rfl⟩
      rw [hW] at c1 c2 ⊢
      have HW := hide hW
      clear hW
      go_wp2_with fail
      go_quiet ((go_at_call 114; exact Calls.quiet_of_same ((lessS_any _ _ _).mono fun _ _ ⟨h1, h2⟩ => ⟨h1, h2.symm⟩)))
      by_cases hc : cbL y x < 0
      · have hd : decide (cbL y x < 0) = true := by simpa using hc
        have HF : Hid (ordB l = false) := hide (ordB_of_drop (k := k - 2) (by rw [HD.out, HL.out]; simp; omega))
        go_wp2_with fail
        go_ret
        exact ⟨ret_bool HF.out.symm, _, by rw [← HW.out]; exact World.drewN_drewN _ _ _⟩
      · have hd : decide (cbL y x < 0) = false := by simpa using hc
        have HF : Hid (ordB (l.drop (k - 2)) = true) := hide (by rw [HD.out, HL.out]; simp; omega)
        go_wp2_with fail
        go_roundw
        case rel => exact ⟨k - 1, _, by omega, by go_num, by rw [show k - 1 - 1 = k - 2 by omega]; exact HF, by rw [← HW.out]; exact World.drewN_drewN _ _ _⟩
        case measure => simp [intOf]; omega
    · have HF : Hid (ordB l = true) := hide (by
        have h0 : k - 1 = 0 := by omega
        have := HO.out
        rwa [h0, List.drop_zero] at this)
      have hk1 : (k : Int) ≤ 1 := by omega
      go_wp2_with fail
      go_ret
      exact ⟨ret_bool HF.out.symm, q, rfl⟩
end Go.Proofs.YtkikbejpgfhfoaaDoor
