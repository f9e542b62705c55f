/- A time is written by a format: the reference's dateFormat and Dated. -/
import Derived.Test.YtoieicdnehnacaaGreatDoorDateS
set_option linter.unusedVariables false
set_option linter.unusedSimpArgs false
namespace Go.Pw
open Go.RowKit
def dmo1 : DMo := ⟨0, 1, 0, 0, 0, 0, 1, 0, 0⟩
theorem dmo1_good : dmo1.good := by unfold DMo.good dmo1; simp
theorem u8_ne {c : UInt8} {n : UInt8} (h : ¬ c = n) : ((c.toNat : Int) == (n.toNat : Int)) = false := by
  have : c.toNat ≠ n.toNat := fun e => h (UInt8.toNat_inj.1 e)
  simp; omega
end Go.Pw
namespace Go.Proofs.YtoieicdnehnacaaGreatDoor
open Go.RowKit Go.Pw
set_option maxHeartbeats 4000000 in
set_option maxRecDepth 100000 in
theorem dateFormat_any (s : ByteArray) (w : World) (hs : s.size ≤ 200) (hT : PowTab w) :
    Calls Tryz.prog 54 #[.string s] w fun e w' => e = .returned (.bool (dParse s.data.toList).isSome) ∧ Below w.heap.size w w' := by
  have HLS := hide (len_size s)
  have HY : Hid (∀ c, c ∈ dLetters → ∀ W, Below w.heap.size w W → Calls Tryz.prog 56 #[.agg #[.int .i64 0, .int .i64 1, .int .i64 0, .int .i64 0, .int .i64 0, .int .i64 0, .int .i64 1, .int .i64 0, .int .i64 0], .int .u8 (c.toNat : Int)] W fun e w' => e = .returned (.tuple #[.string (mkB (dTold dmo1 c)), .bool true]) ∧ Below W.heap.size W w') := hide (fun c hc W hb => part_any dmo1 dmo1_good c hc W (hT.below hb))
  have HNO : Hid (∀ c, c ∉ dLetters → ∀ W, Calls Tryz.prog 56 #[.agg #[.int .i64 0, .int .i64 1, .int .i64 0, .int .i64 0, .int .i64 0, .int .i64 0, .int .i64 1, .int .i64 0, .int .i64 0], .int .u8 (c.toNat : Int)] W fun e w' => e = .returned (.tuple #[.string ⟨#[]⟩, .bool false]) ∧ Below W.heap.size W w') := hide (fun c hc W => part_no dmo1 c hc W)
  clear hT
  go_enter Tryz.func54, Tryz.ntmps54
  go_wp2_with fail
  go_loopw [3] (fun i wr => ∃ (k : Nat) (ps : List (UInt8 × UInt8)), k ≤ s.size ∧ i = .int .i64 (k : Int) ∧ Hid (DAtI s.data.toList k ps) ∧ Hid (Below w.heap.size w wr)) (fun i _ => s.size - (intOf i).toNat)
  case atStart => exact ⟨0, [], by omega, rfl, hide (DAtI.start _), hide (Below.refl _ _)⟩
  case round =>
    obtain ⟨k, ps, hk, rfl, HI, HB⟩ := hrel
    by_cases hlt : k < s.size
    · have hd0 : (0 : Int) ≤ (k : Int) := by omega
      have hd1 : (k : Int) < (s.size : Int) := by omega
      by_cases hc : s[k] = 37
      · have hcf : ((s[k].toNat : Int) == 37) = true := by rw [hc]; rfl
        by_cases hlast : k + 1 = s.size
        · have HN := hide (HI.out.last (by rw [HLS.out]; exact hlast) hc)
          have hq : (s.size : Int) ≤ (k : Int) + 1 := by omega
          have HV : Hid ((dParse s.data.toList).isSome = false) := hide (by rw [HN.out]; rfl)
          clear hc
          go_wp2_with fail
          go_ret
          exact ⟨by rw [HV.out]; rfl, HB.out⟩
        · have hk1 : k + 1 < s.size := by omega
          have hq : ¬ (s.size : Int) ≤ (k : Int) + 1 := by omega
          have hd2 : (0 : Int) ≤ (k : Int) + 1 := by omega
          have hd3 : (k : Int) + 1 < (s.size : Int) := by omega
          have HC := hide hc
          clear hc
          by_cases hm : s[k + 1] ∈ dLetters
          · have HI2 := hide (HI.out.yes (by rw [HLS.out]; exact hk1) HC.out hm)
            have HP := hide (HY.out _ hm wr HB.out)
            clear hm
            go_wp2_with fail
            refine HP.out.mono ?_
            rintro e w1 ⟨rfl, hb1⟩
            have HB1 := hide (HB.out.trans (hb1.mono HB.out.size))
            clear hb1 HP
            go_wp2_with fail
            go_roundw
            case rel => exact ⟨k + 2, ps ++ [(s[k + 1], (0 : UInt8))], by omega, by go_num, HI2, HB1⟩
            case measure => simp [intOf]; omega
          · have HN := hide (HI.out.no (by rw [HLS.out]; exact hk1) HC.out hm)
            have HV : Hid ((dParse s.data.toList).isSome = false) := hide (by rw [HN.out]; rfl)
            have HP := hide (HNO.out _ hm wr)
            clear hm
            go_wp2_with fail
            refine HP.out.mono ?_
            rintro e w1 ⟨rfl, hb1⟩
            have HB1 := hide (HB.out.trans (hb1.mono HB.out.size))
            clear hb1 HP
            go_wp2_with fail
            go_ret
            exact ⟨by rw [HV.out]; rfl, HB1.out⟩
      · have hcf : ((s[k].toNat : Int) == 37) = false := u8_ne hc
        have HI2 := hide (HI.out.byte (by rw [HLS.out]; exact hlt) hc)
        go_wp2_with fail
        go_roundw
        case rel => exact ⟨k + 1, ps ++ [((0 : UInt8), s[k])], by omega, by go_num, HI2, HB⟩
        case measure => simp [intOf]; omega
    · have HD := hide (HI.out.done (by rw [HLS.out]; omega))
      have HV : Hid ((dParse s.data.toList).isSome = true) := hide (by rw [HD.out]; rfl)
      go_wp2_with fail
      go_ret
      exact ⟨by rw [HV.out]; rfl, HB.out⟩
theorem Dated_large (t : Int) (s : ByteArray) (w : World) (h : 200 < s.size) :
    Calls Tryz.prog 14 #[.int .i64 t, .string s] w fun e w' => e = .returned (.tuple #[.string ⟨#[]⟩, .int .i64 2]) ∧ Below w.heap.size w w' := by
  go_enter Tryz.func14, Tryz.ntmps14
  go_wp2_with fail
  go_ret2
  exact ⟨rfl, Below.refl _ _⟩
set_option maxRecDepth 100000 in
theorem Dated_syntax (t : Int) (s : ByteArray) (w : World) (h : s.size ≤ 200) (hp : dParse s.data.toList = none) (hT : PowTab w) :
    Calls Tryz.prog 14 #[.int .i64 t, .string s] w fun e w' => e = .returned (.tuple #[.string ⟨#[]⟩, .int .i64 1]) ∧ Below w.heap.size w w' := by
  have HD := hide (dateFormat_any s w h hT)
  rw [hp] at HD
  simp only [Option.isSome_none] at HD
  clear hp
  go_enter Tryz.func14, Tryz.ntmps14
  go_wp2_with fail
  refine HD.out.mono ?_
  rintro e w1 ⟨rfl, hb1⟩
  have HB1 := hide hb1
  clear hb1
  go_wp2_with fail
  go_ret2
  exact ⟨rfl, HB1.out⟩
set_option maxRecDepth 100000 in
theorem Dated_range (t : Int) (s : ByteArray) (w : World) (h : s.size ≤ 200) (ps : List (UInt8 × UInt8)) (hp : dParse s.data.toList = some ps) (h0 : -9223372036854775808 ≤ t) (h1 : t ≤ 9223372036854775807) (hin : dInB t = false) (hT : PowTab w) :
    Calls Tryz.prog 14 #[.int .i64 t, .string s] w fun e w' => e = .returned (.tuple #[.string ⟨#[]⟩, .int .i64 3]) ∧ Below w.heap.size w w' := by
  have HD := hide (dateFormat_any s w h hT)
  rw [hp] at HD
  simp only [Option.isSome_some] at HD
  have HM := hide (fun W => moment_no t W h0 h1 hin)
  unfold dmoV dmo0 at HM
  simp only at HM
  clear hp hin
  go_enter Tryz.func14, Tryz.ntmps14
  go_wp2_with fail
  refine HD.out.mono ?_
  rintro e w1 ⟨rfl, hb1⟩
  have HB1 := hide hb1
  clear hb1
  go_wp2_with fail
  refine (HM.out _).mono ?_
  rintro e w2 ⟨rfl, hb2⟩
  have HB2 := hide (((HB1.out.trans (hb2.mono HB1.out.size)).alloc (HB1.out.trans (hb2.mono HB1.out.size)).size (dmoO dmo0 101)))
  clear hb2
  go_wp2_with fail
  go_ret2
  exact ⟨rfl, HB2.out⟩
end Go.Proofs.YtoieicdnehnacaaGreatDoor
