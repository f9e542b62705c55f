/- The law TextLinesMatch: the walk. -/
import Derived.Test.YtkikbejpgfhfoaaDoorRefL
set_option linter.unusedVariables false
set_option linter.unusedSimpArgs false
namespace Go.Proofs.YtkikbejpgfhfoaaDoor
open Go.RowKit Go.Pw
/-- slices.Equal over strings -/
theorem equal_any (v1 v2 : Value) (l1 l2 : List ByteArray) (w : World) (h1 : Strs w v1 l1) (h2 : Strs w v2 l2) :
    Calls Tryd.prog 30 #[v1, v2] w fun e w' => e = .returned (.bool (decide (l1 = l2))) ∧ ∃ q, w' = w.drewN q := by
  obtain ⟨⟨_, A, ca, rfl, hca, hma, hxa⟩, _⟩ := h1
  obtain ⟨⟨_, B, cb, rfl, hcb, hmb, hxb⟩, _⟩ := h2
  unfold maxLen at hma hmb
  by_cases hl : l1.length = l2.length
  · by_cases h0 : l1.length = 0
    · have e1 : l1 = [] := List.eq_nil_of_length_eq_zero h0
      have e2 : l2 = [] := List.eq_nil_of_length_eq_zero (by omega)
      subst e1 e2
      refine (Tryd.slices_Equal_string_empty A B ca 0 cb w (by omega)).mono ?_
      rintro e w' ⟨rfl, rfl⟩
      exact ⟨by simp, 0, rfl⟩
    · obtain ⟨ba, oa, rfl, _, hja⟩ := hxa (by omega)
      obtain ⟨bb, ob, rfl, _, hjb⟩ := hxb (by omega)
      refine (Tryd.slices_Equal_string ba oa l1.length ca bb ob l2.length cb l1 l2 w (Nat.le_refl _) (Nat.le_refl _) (by omega) (by omega) (fun j hj => hja j _ (by simp [hj])) (fun j hj => hjb j _ (by simp [hj]))).mono ?_
      rintro e w' ⟨rfl, h⟩
      exact ⟨by rw [List.take_length, List.take_length], h⟩
  · refine (Tryd.slices_Equal_string_lens A B l1.length ca l2.length cb w hl).mono ?_
    rintro e w' ⟨rfl, rfl⟩
    refine ⟨ret_bool ?_, 0, rfl⟩
    symm
    simp
    intro e
    exact hl (by rw [e])
theorem clip_any (A : Option Addr) (n cap : Nat) (w : World) (hn : n ≤ cap) (hc : cap ≤ 9223372036854775807) : Calls Tryd.prog 65 #[.slice A n cap] w fun e w' => e = .returned (.slice A n n) ∧ w = w' := by
  go_enter Tryd.func65, Tryd.ntmps65
  go_wp2_with fail
  go_ret
  exact ⟨rfl, rfl⟩
set_option maxHeartbeats 1000000 in
theorem Lines_big (s : ByteArray) (w : World) (hs : s.size ≤ maxLen) (hb : bigB s = true) :
    Calls Tryd.prog 28 #[.string s] w fun e w' => e = .returned (.tuple #[.slice none 0 0, .int .i64 2]) ∧ Below w.heap.size w w' := by
  have HST := hide (sized_any _ [s] _ (strs_one w s 9 hs))
  have e0 : ([s].any bigB) = true := by simp [hb]
  rw [e0] at HST
  clear e0 hb
  go_enter Tryd.func28, Tryd.ntmps28
  go_wp2_with fail
  refine HST.out.mono ?_
  rintro e w2 ⟨rfl, hb2⟩
  have hb3 : Below w.heap.size w w2 := ((Below.refl w.heap.size w).alloc (Nat.le_refl _) _).trans (hb2.mono (by simp))
  clear hb2
  go_wp2_with fail
  go_ret2
  exact ⟨rfl, hb3⟩
set_option maxHeartbeats 1000000 in
theorem Lines_good (s : ByteArray) (w : World) (hb : bigB s = false) :
    Calls Tryd.prog 28 #[.string s] w fun e w' => ∃ v, e = .returned (.tuple #[v, .int .i64 0]) ∧ Strs w' v (linesOf s) ∧ Below w.heap.size w w' := by
  have hsz : s.size ≤ 65536 := by
    unfold bigB at hb; simp at hb; omega
  obtain ⟨hl1, hl2⟩ := linesOf_bound s
  have HST := hide (sized_any _ [s] _ (strs_one w s 9 (by unfold maxLen; omega)))
  have e0 : ([s].any bigB) = false := by simp [hb]
  rw [e0] at HST
  have HL2 := hide hl2
  clear e0 hb hl2
  go_enter Tryd.func28, Tryd.ntmps28
  go_wp2_with fail
  refine HST.out.mono ?_
  rintro e w2 ⟨rfl, hb2⟩
  have hb3 : Below w.heap.size w w2 := ((Below.refl w.heap.size w).alloc (Nat.le_refl _) _).trans (hb2.mono (by simp))
  clear hb2
  go_wp2_with fail
  refine (lines_any s _ (by omega)).mono ?_
  rintro e w3 ⟨v, rfl, hr⟩
  have hb4 := linesRes_below hr
  have hst := linesRes_strs hr (fun x hx => by have := HL2.out x hx; unfold maxLen; omega) (by unfold maxLen; omega)
  obtain ⟨A, rfl⟩ := linesRes_len hr
  have hb5 := hb3.trans (hb4.mono hb3.size)
  have HS := hide hst
  obtain ⟨n, hn⟩ : ∃ n, (linesOf s).length = n := ⟨_, rfl⟩
  rw [hn] at hl1 HS ⊢
  clear hr hb3 hb4 hst hn
  go_wp2_with fail
  refine (clip_any A n n _ (Nat.le_refl _) (by omega)).mono ?_
  rintro e w' ⟨rfl, rfl⟩
  go_wp2_with fail
  go_ret2
  exact ⟨_, rfl, HS.out, hb5⟩
set_option maxHeartbeats 1000000 in
theorem textLines_any (s : ByteArray) (w : World) (hs : s.size ≤ maxLen) :
    Calls Tryd.prog 5 #[.string s] w fun e w' => e = .returned (.bool true) ∧ Below w.heap.size w w' := by
  have hs2 : s.size ≤ 9223372036854775807 := by unfold maxLen at hs; omega
  have HTL := hide (fun W => tooLarge_any s W hs2)
  cases hb : bigB s
  · have hsz : s.size ≤ 65536 := by
      unfold bigB at hb; simp at hb; omega
    have HLN := hide (Lines_good s w hb)
    simp only [hb] at HTL
    clear hb hs
    obtain ⟨hl1, hl2⟩ := linesOf_bound s
    have HL2 : Hid (∀ x ∈ linesOf s, x.size ≤ maxLen) := hide (fun x hx => by have := hl2 x hx; unfold maxLen; omega)
    clear hl1 hl2
    go_enter Tryd.func5, Tryd.ntmps5
    go_wp2_with fail
    refine HLN.out.mono ?_
    rintro e w1 ⟨v, rfl, hst, hb1⟩
    have HS1 := hide hst
    clear hst
    go_wp2_with fail
    refine (sorts_any _).mono ?_
    rintro e w2 ⟨rfl, hb2⟩
    have hb3 := hb1.trans (hb2.mono hb1.size)
    have HS2 := hide (HS1.out.below hb2)
    clear hb1 hb2
    go_wp2_with fail
    refine (HTL.out _).mono ?_
    rintro e w3 ⟨rfl, hb4⟩
    have hb5 := hb3.trans (hb4.mono hb3.size)
    have HS3 := hide (HS2.out.below hb4)
    clear hb3 hb4
    go_wp2_with fail
    refine (linesOf_any s _ (by omega)).mono ?_
    rintro e w4 ⟨v2, rfl, ho, hb6⟩
    have hb7 := hb5.trans (hb6.mono hb5.size)
    have HS4 := hide (HS3.out.below hb6)
    have HS5 := hide (ho.strs HL2.out)
    clear hb5 hb6 ho
    go_wp2_with fail
    refine (equal_any _ _ _ _ _ HS4.out HS5.out).mono ?_
    rintro e w5 ⟨rfl, ⟨q, rfl⟩⟩
    have ed : decide (linesOf s = linesOf s) = true := by simp
    rw [ed]
    go_wp2_with fail
    go_ret
    exact ⟨rfl, below_drewN hb7 q⟩
  · have HLN := hide (Lines_big s w hs hb)
    simp only [hb] at HTL
    clear hb hs
    go_enter Tryd.func5, Tryd.ntmps5
    go_wp2_with fail
    refine HLN.out.mono ?_
    rintro e w1 ⟨rfl, hb1⟩
    go_wp2_with fail
    refine (sorts_any _).mono ?_
    rintro e w2 ⟨rfl, hb2⟩
    have hb3 := hb1.trans (hb2.mono hb1.size)
    clear hb1 hb2
    go_wp2_with fail
    refine (HTL.out _).mono ?_
    rintro e w3 ⟨rfl, hb4⟩
    have hb5 := hb3.trans (hb4.mono hb3.size)
    clear hb3 hb4
    go_wp2_with fail
    refine (sorts_any _).mono ?_
    rintro e w4 ⟨rfl, hb6⟩
    have hb7 := hb5.trans (hb6.mono hb5.size)
    clear hb5 hb6
    go_wp2_with fail
    go_ret
    exact ⟨rfl, hb7⟩
end Go.Proofs.YtkikbejpgfhfoaaDoor
