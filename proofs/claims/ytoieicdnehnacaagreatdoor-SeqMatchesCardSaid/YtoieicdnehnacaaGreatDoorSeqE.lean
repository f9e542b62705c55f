/- The program's reading of a decimal: strings.Cut at a full stop, exactOf. -/
import Derived.Test.YtoieicdnehnacaaGreatDoorSeqP
set_option linter.unusedVariables false
set_option linter.unusedSimpArgs false
namespace Go.Pw
open Go.RowKit
theorem getD_get0 {s : ByteArray} (h : 0 < s.size) : s.data.toList.getD 0 0 = s[0] := by
  have h2 : 0 < s.data.toList.length := by rw [len_size]; exact h
  rw [List.getD_eq_getElem?_getD, List.getElem?_eq_getElem h2]; rfl
theorem ten_cast (c : Nat) : ((10 ^ c : Nat) : Int) = (10 : Int) ^ c := by
  rw [Int.natCast_pow]; rfl
end Go.Pw
namespace Go.Proofs.YtoieicdnehnacaaGreatDoor
open Go.RowKit Go.Pw
theorem ixDot_any (s : ByteArray) (w : World) : Calls Tryz.prog 191 #[.string s, .string ⟨#[46]⟩] w fun e w' => e = .returned (.int .i64 (Lib.indexByte s.data.toList 46)) ∧ w = w' :=
  (Any.stringslite_Index_one (ρ := Tryz.lays143_ren) { Tryz.lays143 with } s 46 w).mono fun e w' ⟨h1, h2⟩ => ⟨h1, h2.symm⟩
theorem cutDotIn_any (s : ByteArray) (w : World) (hs : s.size ≤ 1000000) :
    Calls Tryz.prog 161 #[.string s, .string ⟨#[46]⟩] w fun e w' => (∃ n, w' = w.drewN n) ∧ e = .returned (.tuple #[.string (mkB (dotAt s.data.toList).1), .string (mkB (dotAt s.data.toList).2.1), .bool (dotAt s.data.toList).2.2]) := by
  have HI := hide (fun W => ixDot_any s W)
  have hl := len_size s
  rcases dotAt_ix s.data.toList with ⟨h1, h2⟩ | ⟨k, h1, h2, h3⟩
  · rw [h1] at HI
    rw [h2]
    have HM := hide (mkB_list s)
    clear h1 h2 hl
    go_enter Tryz.func161, Tryz.ntmps161
    go_wp2_with fail
    refine (HI.out _).mono ?_
    rintro e w' ⟨rfl, rfl⟩
    go_wp2_with fail
    go_ret3
    exact ⟨⟨0, rfl⟩, by rw [HM.out]; rfl⟩
  · rw [h1] at HI
    rw [h3]
    have hk : k < s.size := by omega
    have hki : (k : Int) ≤ (s.size : Int) := by omega
    have hk2 : (k : Int) + 1 ≤ (s.size : Int) := by omega
    have hw : IntKind.i64.wrap ((k : Int) + 1) = (k : Int) + 1 := IntWalk.i64_in _ (by omega)
    have hwn : ((k : Int) + 1).toNat = k + 1 := by omega
    have hw0 : (0 : Int) ≤ (k : Int) + 1 := by omega
    have HX1 : Hid (s.extract 0 k = mkB (s.data.toList.take k)) := hide (by
      rw [← mkB_list (s.extract 0 k), ByteArray.data_extract, Array.toList_extract, List.extract_eq_take_drop]; rfl)
    have HX2 : Hid (s.extract (k + 1) s.size = mkB (s.data.toList.drop (k + 1))) := hide (by
      rw [← mkB_list (s.extract (k + 1) s.size), ByteArray.data_extract, Array.toList_extract, List.extract_eq_take_drop, ← len_size s]
      rw [List.take_of_length_le (by rw [List.length_drop]; omega)])
    clear h1 h2 h3 hl
    go_enter Tryz.func161, Tryz.ntmps161
    go_wp2_with fail
    refine (HI.out _).mono ?_
    rintro e w' ⟨rfl, rfl⟩
    go_wp2_with fail
    go_quiet (fail)
    go_wp2_with fail
    go_ret3
    refine ⟨⟨_, rfl⟩, ?_⟩
    rw [HX1.out]
    rw [HX2.out]
    rfl
theorem cutDot_any (s : ByteArray) (w : World) (hs : s.size ≤ 1000000) :
    Calls Tryz.prog 95 #[.string s, .string ⟨#[46]⟩] w fun e w' => (∃ n, w' = w.drewN n) ∧ e = .returned (.tuple #[.string (mkB (dotAt s.data.toList).1), .string (mkB (dotAt s.data.toList).2.1), .bool (dotAt s.data.toList).2.2]) := by
  have HC := hide (fun W => cutDotIn_any s W hs)
  go_enter Tryz.func95, Tryz.ntmps95
  go_wp2_with fail
  refine (HC.out _).mono ?_
  rintro e w2 ⟨⟨n, rfl⟩, rfl⟩
  go_wp2_with fail
  go_ret3
  exact ⟨⟨_, rfl⟩, rfl⟩
end Go.Proofs.YtoieicdnehnacaaGreatDoor
