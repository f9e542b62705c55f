/- The law DateMatches: the walk. -/
import Derived.Test.YtoieicdnehnacaaGreatDoorDateE
import Derived.Test.YtoieicdnehnacaaGreatDoorSorts
import Derived.Test.YtoieicdnehnacaaGreatDoorLawKit
set_option linter.unusedVariables false
set_option linter.unusedSimpArgs false
namespace Go.Proofs.YtoieicdnehnacaaGreatDoor
open Go.RowKit Go.Pw
set_option maxHeartbeats 4000000 in
set_option maxRecDepth 100000 in
theorem dateMatches_bad (t : Int) (s : ByteArray) (n : Int) (w : World) (hn : n ≠ 0)
    (hf : ∀ V, Below w.heap.size w V → Calls Tryz.prog 13 #[.int .i64 t, .string s] V fun e w' => e = .returned (.tuple #[.string ⟨#[]⟩, .int .i64 n]) ∧ Below V.heap.size V w')
    (hg : ∀ V, Below w.heap.size w V → Calls Tryz.prog 14 #[.int .i64 t, .string s] V fun e w' => e = .returned (.tuple #[.string ⟨#[]⟩, .int .i64 n]) ∧ Below V.heap.size V w') :
    Calls Tryz.prog 4 #[.int .i64 t, .string s] w fun e w' => e = .returned (.bool true) ∧ Below w.heap.size w w' := by
  have HF := hide hf
  have HG := hide hg
  have HN := hide hn
  clear hf hg hn
  go_enter Tryz.func4, Tryz.ntmps4
  go_wp2_with fail
  refine (HF.out _ (Below.refl _ _)).mono ?_
  rintro e w1 ⟨rfl, hb1⟩
  have HB1 := hide hb1
  clear hb1
  go_wp2_with fail
  refine (HG.out _ HB1.out).mono ?_
  rintro e w2 ⟨rfl, hb2⟩
  have HB2 := hide (HB1.out.trans (hb2.mono HB1.out.size))
  clear hb2
  go_wp2_with fail
  refine (sorts_any _).mono ?_
  rintro e w3 ⟨rfl, hb3⟩
  have HB3 := hide (HB2.out.trans (hb3.mono HB2.out.size))
  clear hb3
  go_wp2_with fail
  refine (outcome_bad _ _ _ HN.out).mono ?_
  rintro e w' ⟨rfl, rfl⟩
  go_wp2_with fail
  go_ret
  exact ⟨rfl, HB3.out⟩
set_option maxHeartbeats 4000000 in
set_option maxRecDepth 100000 in
theorem dateMatches_good (t : Int) (s q : ByteArray) (w : World)
    (hf : ∀ V, Below w.heap.size w V → Calls Tryz.prog 13 #[.int .i64 t, .string s] V fun e w' => e = .returned (.tuple #[.string q, .int .i64 0]) ∧ Below V.heap.size V w')
    (hg : ∀ V, Below w.heap.size w V → Calls Tryz.prog 14 #[.int .i64 t, .string s] V fun e w' => e = .returned (.tuple #[.string q, .int .i64 0]) ∧ Below V.heap.size V w') :
    Calls Tryz.prog 4 #[.int .i64 t, .string s] w fun e w' => e = .returned (.bool true) ∧ Below w.heap.size w w' := by
  have HF := hide hf
  have HG := hide hg
  clear hf hg
  go_enter Tryz.func4, Tryz.ntmps4
  go_wp2_with fail
  refine (HF.out _ (Below.refl _ _)).mono ?_
  rintro e w1 ⟨rfl, hb1⟩
  have HB1 := hide hb1
  clear hb1
  go_wp2_with fail
  refine (HG.out _ HB1.out).mono ?_
  rintro e w2 ⟨rfl, hb2⟩
  have HB2 := hide (HB1.out.trans (hb2.mono HB1.out.size))
  clear hb2
  go_wp2_with fail
  refine (sorts_any _).mono ?_
  rintro e w3 ⟨rfl, hb3⟩
  have HB3 := hide (HB2.out.trans (hb3.mono HB2.out.size))
  clear hb3
  go_wp2_with fail
  refine (outcome_good _ _).mono ?_
  rintro e w' ⟨rfl, rfl⟩
  go_wp2_with fail
  go_ret
  exact ⟨rfl, HB3.out⟩
theorem dateMatches_any (t : Int) (s : ByteArray) (w : World) (h0 : -9223372036854775808 ≤ t ∧ t ≤ 9223372036854775807) (hs : s.size ≤ maxLen) (hT : PowTab w) (hA : SpTab w) :
    Calls Tryz.prog 4 #[.int .i64 t, .string s] w fun e w' => e = .returned (.bool true) ∧ Below w.heap.size w w' := by
  rcases Nat.lt_or_ge 200 s.size with hl | hl
  · exact dateMatches_bad t s 2 w (by decide) (fun V _ => Date_large t s V hl) (fun V _ => Dated_large t s V hl)
  · cases hp : dParse s.data.toList with
    | none => exact dateMatches_bad t s 1 w (by decide) (fun V _ => Date_syntax t s V hl hp) (fun V hb => Dated_syntax t s V hl hp (hT.below hb))
    | some ps =>
      cases hin : dInB t with
      | false => exact dateMatches_bad t s 3 w (by decide) (fun V _ => Date_range t s V hl ps hp h0.1 h0.2 hin) (fun V hb => Dated_range t s V hl ps hp h0.1 h0.2 hin (hT.below hb))
      | true =>
        obtain ⟨n, r, y, m, d, hI⟩ := dis_ex h0.1 h0.2 hin
        exact dateMatches_good t s _ w (fun V hb => Date_good t s V hl ps hp hI (hT.below hb) (hA.below hb)) (fun V hb => Dated_good t s V hl ps hp hI (hT.below hb))
end Go.Proofs.YtoieicdnehnacaaGreatDoor
