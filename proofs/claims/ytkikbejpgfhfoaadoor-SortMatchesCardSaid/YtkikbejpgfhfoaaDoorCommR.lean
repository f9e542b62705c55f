/- The reference's Compared. -/
import Derived.Test.YtkikbejpgfhfoaaDoorComm
import Derived.Test.YtkikbejpgfhfoaaDoorRefO1
set_option linter.unusedVariables false
set_option linter.unusedSimpArgs false
namespace Go.Proofs.YtkikbejpgfhfoaaDoor
open Go.RowKit Go.Pw
set_option maxHeartbeats 1000000 in
set_option maxRecDepth 100000 in
theorem tellR_any (H O hd col : Nat) (line : ByteArray) (v : Value) (l : List ByteArray) (w : World) (hE : TellEnv 3 40 9 w H O hd v l) (hc : col ≤ 2) (hh : hd ≤ 7) (hl : line.size ≤ 1000000) (hn : l.length ≤ 1000000) :
    Calls Tryd.prog 70 #[.int .i64 (col : Int), .string line, .pointer (some ⟨H, 0, none⟩), .pointer (some ⟨O, 0, none⟩)] w
      fun e w' => e = .returned (.tuple #[]) ∧ (∃ v', TellEnv 3 40 9 w' H O hd v' (l ++ tellL hd col line)) ∧ Below O w w' := by
  obtain ⟨ip, hip, hpz, hps, hpb⟩ := info_parts info_str
  have hlt := hE.lt
  have hsz := hE.sz
  have cH := cell_of_one hE.bh
  have cO := cell_of_one hE.bo
  have HE := hide hE
  have HB := hide (fun k (hk : k ≤ 2) => bit2 hh hk)
  clear hE
  go_enter Tryd.func70, Tryd.ntmps70
  go_wp2_with fail
  go_loop [6, 7, 9] (fun b s i => ∃ k : Nat, k ≤ col ∧ i = .int .i64 (k : Int) ∧ b = .int .i64 ((2 ^ k : Nat) : Int) ∧ s = .string (mkB (tabsL hd k))) (fun _ _ i => col - (intOf i).toNat)
  case atStart => exact ⟨0, by omega, rfl, rfl, rfl⟩
  case round =>
    obtain ⟨k, hk, rfl, rfl, rfl⟩ := hrel
    have htm : (mkB (tabsL hd k)).size ≤ 2 := by have := tabsL_le hd k; rw [mkB_size]; omega
    by_cases hkc : k < col
    · have hbk := HB.out k (by omega)
      have hp0 : (2 ^ k : Nat) ≤ 4 := by
        rcases (by omega : k = 0 ∨ k = 1 ∨ k = 2) with rfl | rfl | rfl <;> decide
      have hp1 : 1 ≤ (2 ^ k : Nat) := Nat.one_le_two_pow
      have hp2 : (2 ^ (k + 1) : Nat) = 2 ^ k * 2 := Nat.pow_succ ..
      have HP := hide hp2
      obtain ⟨m, hm⟩ : ∃ m, (2 ^ k : Nat) = m := ⟨_, rfl⟩
      rw [hm] at hbk hp0 hp1 HP ⊢
      clear hp2 hm
      cases htk : hd.testBit k
      · rw [htk] at hbk
        have hd1 : (bits BinOp.and IntKind.i64 (hd : Int) (m : Int) == 0) = true := by rw [hbk]; rfl
        have HS : Hid (tabsL hd (k + 1) = tabsL hd k ++ [9]) := hide (by rw [tabsL, htk]; rfl)
        clear hbk htk
        go_wp2_with fail
        go_round
        case rel => exact ⟨k + 1, by omega, by go_num, by rw [HP.out]; go_num, by rw [HS.out]; rfl⟩
        case measure => simp [intOf]; omega
      · rw [htk] at hbk
        have hd1 : (bits BinOp.and IntKind.i64 (hd : Int) (m : Int) == 0) = false := by
          rw [hbk]
          simp only [if_true, beq_eq_false_iff_ne, ne_eq]; omega
        have HS : Hid (tabsL hd (k + 1) = tabsL hd k) := hide (by rw [tabsL, htk]; simp)
        clear hbk htk
        go_wp2_with fail
        go_round
        case rel => exact ⟨k + 1, by omega, by go_num, by rw [HP.out]; go_num, by rw [HS.out]⟩
        case measure => simp [intOf]; omega
    · obtain rfl : k = col := by omega
      have hbk := HB.out k (by omega)
      have hp1 : 1 ≤ (2 ^ k : Nat) := Nat.one_le_two_pow
      obtain ⟨m, hm⟩ : ∃ m, (2 ^ k : Nat) = m := ⟨_, rfl⟩
      rw [hm] at hbk hp1 ⊢
      clear hm
      have hown := HE.out.own
      unfold OwnS at hown
      cases htk : hd.testBit k
      · rw [htk] at hbk
        have hd1 : (bits BinOp.and IntKind.i64 (hd : Int) (m : Int) == 0) = true := by rw [hbk]; rfl
        have HL : Hid (tellL hd k line = [mkB (tabsL hd k) ++ line]) := hide (by unfold tellL; rw [htk]; rfl)
        clear hbk htk
        go_wp2_with (at_builtin; refine wpList_append_own _ rfl _ _ 40 rfl (O + 1) 9 ip _ 1 16 Tryd.underlying40 hip hpz hps hpb rfl (by decide) _ _ _ rfl (hown.alloc _) ⟨w.heap.size, 0, none⟩ 1 1 [.string (mkB (tabsL hd k) ++ line)] rfl rfl ?c1 ?c2 ?c3 ?c4 ?c5 ?_)
        case c2 => rfl
        case c3 => unfold maxLen; omega
        case c4 => omega
        case c5 => omega
        intro v' w2 hown' hgrow _
        obtain ⟨e1, e2, e3⟩ := HE.out.push hown' hgrow
        obtain ⟨A, c, rfl⟩ := own_slice hown'
        have c1 := cell_of_one e1
        have f1 := free_of_one e1
        have HE2 := hide e2
        have HB2 := hide e3
        clear hown hown' hgrow e1 e2 e3
        go_wp2_with fail
        go_end0
        exact ⟨rfl, ⟨_, by rw [HL.out]; exact HE2.out⟩, HB2.out⟩
      · rw [htk] at hbk
        have hd1 : (bits BinOp.and IntKind.i64 (hd : Int) (m : Int) == 0) = false := by
          rw [hbk]
          simp only [if_true, beq_eq_false_iff_ne, ne_eq]; omega
        have HL : Hid (tellL hd k line = []) := hide (by unfold tellL; rw [htk]; rfl)
        clear hbk htk hown
        go_wp2_with fail
        go_end0
        exact ⟨rfl, ⟨v, by rw [HL.out, List.append_nil]; exact HE.out⟩, Below.refl _ _⟩
end Go.Proofs.YtkikbejpgfhfoaaDoor
