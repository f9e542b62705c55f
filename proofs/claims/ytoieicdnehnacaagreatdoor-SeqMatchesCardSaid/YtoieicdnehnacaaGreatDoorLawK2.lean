/- More of the laws' small functions: large, and the reference's ResultOf. -/
import Derived.Test.YtoieicdnehnacaaGreatDoorRefL
set_option linter.unusedVariables false
set_option linter.unusedSimpArgs false
namespace Go.Pw
open Go.RowKit
theorem resL_snoc (l : List ByteArray) (x : ByteArray) : mkB (resL (l ++ [x])) = mkB (resL l) ++ (x ++ (⟨#[10]⟩ : ByteArray)) := by
  rw [resL_append]
  simp only [resL]
  rw [← mkB_list (mkB (resL l) ++ (x ++ (⟨#[10]⟩ : ByteArray)))]
  congr 1
theorem strs_two (w : World) (s t : ByteArray) (ty : TypeId) (hs : s.size ≤ maxLen) (ht : t.size ≤ maxLen) : Strs (w.alloc (.cells #[.string s, .string t] ty)) (.slice (some ⟨w.heap.size, 0, none⟩) 2 2) [s, t] := by
  refine ⟨⟨rfl, _, _, rfl, Nat.le_refl _, by unfold maxLen; omega, fun _ => ⟨w.heap.size, 0, rfl, by simp, fun j u hu => ?_⟩⟩, by simp; exact ⟨hs, ht⟩⟩
  rw [World.cell?_alloc_new]
  simpa using hu
end Go.Pw
namespace Go.Proofs.YtoieicdnehnacaaGreatDoor
open Go.RowKit Go.Pw
theorem resultOf_any (v : Value) (l : List ByteArray) (w : World) (h : Strs w v l) (hlen : (resL l).length ≤ 1000000000) :
    Calls Tryz.prog 12 #[v] w fun e w' => e = .returned (.string (mkB (resL l))) ∧ w = w' := by
  obtain ⟨⟨_, A, cap, rfl, hcap, hmax, hx⟩, hsz⟩ := h
  unfold maxLen at hmax
  have HX := hide hx
  have HLEN := hide hlen
  clear hx hsz hlen
  go_enter Tryz.func12, Tryz.ntmps12
  go_wp2
  go_loop [3, 8] (fun s i => ∃ k : Nat, k ≤ l.length ∧ i = .int .i64 (k : Int) ∧ s = .string (mkB (resL (l.take k)))) (fun _ i => l.length - (intOf i).toNat)
  case atStart => exact ⟨0, by omega, rfl, rfl⟩
  case round =>
    obtain ⟨k, hk, rfl, rfl⟩ := hrel
    by_cases hlt : k < l.length
    · obtain ⟨b, o, rfl, hb, hj⟩ := HX.out (by omega)
      have hc : w.cell? ⟨b, o + k, none⟩ = some (.string l[k]) := hj k _ (by simp [hlt])
      have HN : Hid (mkB (resL (l.take (k + 1))) = mkB (resL (l.take k)) ++ (l[k] ++ (⟨#[10]⟩ : ByteArray))) := hide (by rw [List.take_succ_eq_append_getElem hlt, resL_snoc])
      have hz : (mkB (resL (l.take k))).size + l[k].size + 1 ≤ 1000000000 := by
        have h1 := resL_take_le l (k + 1)
        have h2 := congrArg ByteArray.size HN.out
        have h3 : ((⟨#[10]⟩ : ByteArray)).size = 1 := rfl
        rw [ByteArray.size_append, ByteArray.size_append, h3, mkB_size, mkB_size] at h2
        have := HLEN.out
        rw [mkB_size]; omega
      obtain ⟨x, hx⟩ : ∃ x, mkB (resL (l.take k)) = x := ⟨_, rfl⟩
      rw [hx] at hz HN ⊢
      clear hx hj
      go_wp2_with fail
      go_round
      case rel => exact ⟨k + 1, by omega, by go_num, by rw [HN.out]⟩
      case measure => simp [intOf]; omega
    · obtain rfl : k = l.length := by omega
      rw [List.take_length]
      go_wp2_with fail
      go_ret
      exact ⟨rfl, rfl⟩
end Go.Proofs.YtoieicdnehnacaaGreatDoor
