/- text.Comm where it is refused. -/
import Derived.Test.YtkikbejpgfhfoaaDoorComm
set_option linter.unusedVariables false
set_option linter.unusedSimpArgs false
namespace Go.Proofs.YtkikbejpgfhfoaaDoor
open Go.RowKit Go.Pw
theorem comm_range (a b : ByteArray) (h : Int) (w : World) (hr : (decide (0 ≤ h) && decide (h ≤ 7)) = false) :
    Calls Tryd.prog 31 #[.string a, .string b, .int .i64 h] w fun e w' => e = .returned (.tuple #[.string ⟨#[]⟩, .int .i64 3]) ∧ Below w.heap.size w w' := by
  have hB0 := (Below.refl w.heap.size w).alloc (Nat.le_refl _) (.cells #[.int .i64 h] 3)
  have HR := hide hr
  clear hr
  go_enter Tryd.func31, Tryd.ntmps31
  go_wp2_with fail
  refine (within_any _ _ _ _).mono ?_
  rintro e w' ⟨rfl, rfl⟩
  rw [HR.out]
  go_wp2_with fail
  go_ret2
  exact ⟨rfl, hB0⟩
theorem comm_large (a b : ByteArray) (hd : Nat) (w : World) (hh : hd ≤ 7) (ha : a.size ≤ maxLen) (hb : b.size ≤ maxLen) (hg : (bigB a || bigB b) = true) :
    Calls Tryd.prog 31 #[.string a, .string b, .int .i64 (hd : Int)] w fun e w' => e = .returned (.tuple #[.string ⟨#[]⟩, .int .i64 2]) ∧ Below w.heap.size w w' := by
  have HB0 := hide ((Below.refl w.heap.size w).alloc (Nat.le_refl _) (.cells #[.int .i64 (hd : Int)] 3))
  have hst := strs_two (w.alloc (.cells #[.int .i64 (hd : Int)] 3)) a b 9 ha hb
  have HSZ := hide (sized_any _ [a, b] _ hst)
  have hbig : ([a, b].any bigB) = true := by simpa using hg
  rw [hbig, size_alloc] at HSZ
  clear hst hbig hg
  have hw0 : (0 : Int) ≤ (hd : Int) := by omega
  have hw1 : (hd : Int) ≤ 7 := by omega
  go_enter Tryd.func31, Tryd.ntmps31
  go_wp2_with fail
  refine (within_any _ _ _ _).mono ?_
  rintro e w' ⟨rfl, rfl⟩
  go_wp2_with fail
  refine HSZ.out.mono ?_
  rintro e w2 ⟨rfl, hb2⟩
  have HB2 : Hid (Below w.heap.size w w2) := hide (HB0.out.trans (((Below.refl _ _).alloc (by simp) _).trans (hb2.mono (by simp; omega))))
  clear hb2
  go_wp2_with fail
  go_ret2
  exact ⟨rfl, HB2.out⟩
set_option maxHeartbeats 1000000 in
set_option maxRecDepth 100000 in
theorem comm_order (a b : ByteArray) (hd : Nat) (w : World) (hh : hd ≤ 7) (ga : bigB a = false) (gb : bigB b = false) (oo : (ordB (linesOf a) && ordB (linesOf b)) = false) :
    Calls Tryd.prog 31 #[.string a, .string b, .int .i64 (hd : Int)] w fun e w' => e = .returned (.tuple #[.string ⟨#[]⟩, .int .i64 9]) ∧ Below w.heap.size w w' := by
  have za : a.size ≤ 65536 ∧ (linesOf a).length ≤ 4096 := by unfold bigB at ga; simp at ga; omega
  have zb : b.size ≤ 65536 ∧ (linesOf b).length ≤ 4096 := by unfold bigB at gb; simp at gb; omega
  have la := (linesOf_bound a).2
  have lb := (linesOf_bound b).2
  have HLA : Hid (∀ s ∈ linesOf a, s.size ≤ 65536) := hide (fun s hs => by have := la s hs; omega)
  have HLB : Hid (∀ s ∈ linesOf b, s.size ≤ 65536) := hide (fun s hs => by have := lb s hs; omega)
  clear la lb
  have HB0 := hide ((Below.refl w.heap.size w).alloc (Nat.le_refl _) (.cells #[.int .i64 (hd : Int)] 3))
  have hst := strs_two (w.alloc (.cells #[.int .i64 (hd : Int)] 3)) a b 9 (by unfold maxLen; omega) (by unfold maxLen; omega)
  have HSZ := hide (sized_any _ [a, b] _ hst)
  have hbig : ([a, b].any bigB) = false := by simp [ga, gb]
  rw [hbig, size_alloc] at HSZ
  clear hst hbig
  have hw0 : (0 : Int) ≤ (hd : Int) := by omega
  have hw1 : (hd : Int) ≤ 7 := by omega
  have HO : Hid (ordB (linesOf a) = true → ordB (linesOf b) = false) := hide (fun h => by rw [h] at oo; simpa using oo)
  clear oo
  go_enter Tryd.func31, Tryd.ntmps31
  go_wp2_with fail
  refine (within_any _ _ _ _).mono ?_
  rintro e w' ⟨rfl, rfl⟩
  go_wp2_with fail
  refine HSZ.out.mono ?_
  rintro e w2 ⟨rfl, hb2⟩
  have HB2 : Hid (Below w.heap.size w w2) := hide (HB0.out.trans (((Below.refl _ _).alloc (by simp) _).trans (hb2.mono (by simp; omega))))
  clear hb2
  go_wp2_with fail
  refine (lines_any a w2 (by omega)).mono ?_
  rintro e w3 ⟨x, rfl, hx⟩
  have hbx := linesRes_below hx
  have hsx := linesRes_strs hx (fun s hs => by have := HLA.out s hs; unfold maxLen; omega) (by unfold maxLen; omega)
  have HB3 := hide (HB2.out.trans (hbx.mono HB2.out.size))
  have HX3 := hide hsx
  clear hx hbx hsx
  go_wp2_with fail
  refine (lines_any b w3 (by omega)).mono ?_
  rintro e w4 ⟨y, rfl, hy⟩
  have hby := linesRes_below hy
  have hsy := linesRes_strs hy (fun s hs => by have := HLB.out s hs; unfold maxLen; omega) (by unfold maxLen; omega)
  have HX4 := hide (HX3.out.below hby)
  have HB4 := hide (HB3.out.trans (hby.mono HB3.out.size))
  have HY4 := hide hsy
  clear hy hby hsy
  go_wp2_with fail
  refine (isSorted_any x _ w4 HX4.out (by omega)).mono ?_
  rintro e w5 ⟨rfl, ⟨q, rfl⟩⟩
  cases oa : ordB (linesOf a)
  · clear oa
    go_wp2_with fail
    go_ret2
    exact ⟨rfl, below_drewN HB4.out q⟩
  · have ob := HO.out oa
    clear oa
    go_wp2_with fail
    refine (isSorted_any y _ (w4.drewN q) (HY4.out.drewN q) (by omega)).mono ?_
    rintro e w5 ⟨rfl, ⟨q2, rfl⟩⟩
    rw [ob]
    have HB5 := hide (below_drewN HB4.out (q + q2))
    clear ob
    go_wp2_with fail
    go_ret2
    exact ⟨rfl, HB5.out⟩
end Go.Proofs.YtkikbejpgfhfoaaDoor
