/- A time is written by a format: text.dateParts and text.Date: the program's own walk. -/
import Derived.Test.YtifpmigghplmoaaGreatDoorDateT
import Derived.Test.YtifpmigghplmoaaGreatDoorBuilder
import Derived.Test.YtifpmigghplmoaaGreatDoorTwoRows
import Derived.Test.YtifpmigghplmoaaGreatDoorShelf2
import Derived.Deep.RegionHeld3
import Derived.Deep.DeepCutAuto
import Derived.Lib.IndexAny
set_option linter.unusedVariables false
set_option linter.unusedSimpArgs false
namespace Go.Pw
open Go.RowKit
end Go.Pw
namespace Go.Proofs.YtifpmigghplmoaaGreatDoor
open Go.RowKit Go.Pw
theorem letters_yes {c : UInt8} (h : c ∈ dLetters) : 0 ≤ Lib.indexByte dLetters c := by
  have := Lib.contains_iff_indexByte dLetters c
  rw [List.contains_iff_mem.2 h] at this
  exact of_decide_eq_true this.symm
theorem letters_no {c : UInt8} (h : c ∉ dLetters) : Lib.indexByte dLetters c < 0 := by
  have := Lib.contains_iff_indexByte dLetters c
  rw [Bool.eq_false_iff.2 (fun e => h (List.contains_iff_mem.1 e))] at this
  have := of_decide_eq_false this.symm
  omega
theorem letters_any (c : UInt8) (w : World) : Calls Tryz.prog 42 #[.string ⟨#[89, 121, 109, 100, 72, 77, 83, 106, 101, 117, 97, 98, 115, 70, 84, 110, 116, 37]⟩, .int .u8 (c.toNat : Int)] w fun e w' => e = .returned (.int .i64 (Lib.indexByte dLetters c)) ∧ w' = w := by
  have := Tryz.strings_IndexByte ⟨#[89, 121, 109, 100, 72, 77, 83, 106, 101, 117, 97, 98, 115, 70, 84, 110, 116, 37]⟩ (c.toNat : Int) w
  rw [show ((c.toNat : Int)).toNat.toUInt8 = c by simp] at this
  exact this
/-- what the program's dateParts returns -/
def DPartsR (t : TypeId) (w : World) (s : ByteArray) (e : Ending) (w' : World) : Prop :=
  (dParse s.data.toList = none ∧ e = .returned (.tuple #[.slice none 0 0, .slice none 0 0, .bool false]) ∧ Below w.heap.size w w') ∨
  (∃ ps lv bv, dParse s.data.toList = some ps ∧ e = .returned (.tuple #[lv, bv, .bool true]) ∧ DP2 t w w' w.heap.size lv bv (ps.map (·.1)) (ps.map (·.2)))
set_option maxHeartbeats 4000000 in
set_option maxRecDepth 100000 in
theorem dateParts_any (s : ByteArray) (w : World) (hs : s.size ≤ 200) :
    Calls Tryz.prog 17 #[.string s] w fun e w' => DPartsR 5 w s e w' := by
  have HLS := hide (len_size s)
  go_enter Tryz.func17, Tryz.ntmps17
  go_wp2_with fail
  go_loopw [2, 3, 5] (fun lv bv i wr => ∃ (k : Nat) (ps : List (UInt8 × UInt8)), k ≤ s.size ∧ i = .int .i64 (k : Int) ∧ Hid (DAtI s.data.toList k ps) ∧ Hid (DP2 5 w wr w.heap.size lv bv (ps.map (·.1)) (ps.map (·.2)))) (fun _ _ i _ => s.size - (intOf i).toNat)
  case atStart => exact ⟨0, [], by omega, rfl, hide (DAtI.start _), hide ⟨World.ownsRow_nil _ _ _ _, World.ownsRow_nil _ _ _ _, (fun k h => by cases h), Below.refl _ _⟩⟩
  case round =>
    obtain ⟨k, ps, hk, rfl, HI, HP⟩ := hrel
    have hpl : ps.length ≤ 200 := by have := HI.out.2.1; omega
    have hl1 : (ps.map (·.1)).length ≤ 1000000 := by rw [List.length_map]; omega
    have hl2 : (ps.map (·.2)).length ≤ 1000000 := by rw [List.length_map]; omega
    by_cases hlt : k < s.size
    · have hd0 : (0 : Int) ≤ (k : Int) := by omega
      have hd1 : (k : Int) < (s.size : Int) := by omega
      have hbz : w.heap.size ≤ wr.heap.size := HP.out.bel.size
      by_cases hc : s[k] = 37
      · have hcf : ((s[k].toNat : Int) != 37) = false := by rw [hc]; rfl
        by_cases hlast : k + 1 = s.size
        · have HN := hide (HI.out.last (by rw [HLS.out]; exact hlast) hc)
          have hq : ((k : Int) + 1 == (s.size : Int)) = true := by simp; omega
          clear hc
          go_wp2_with fail
          go_ret3
          exact .inl ⟨HN.out, rfl, HP.out.bel⟩
        · have hk1 : k + 1 < s.size := by omega
          have hq : ((k : Int) + 1 == (s.size : Int)) = false := by simp; omega
          have hd2 : (0 : Int) ≤ (k : Int) + 1 := by omega
          have hd3 : (k : Int) + 1 < (s.size : Int) := by omega
          have HIX := hide (fun W => letters_any s[k + 1] W)
          obtain ⟨v, hv⟩ : ∃ v, Lib.indexByte dLetters s[k + 1] = v := ⟨_, rfl⟩
          rw [hv] at HIX
          have HV := hide hv
          have HC := hide hc
          clear hv hc
          by_cases hm : s[k + 1] ∈ dLetters
          · have hv1 : ¬ v < 0 := by have := letters_yes hm; rw [HV.out] at this; omega
            have HI2 := hide (HI.out.yes (by rw [HLS.out]; exact hk1) HC.out hm)
            clear hm
            have dp0 := HP.out
            go_wp2_with fail
            refine (HIX.out _).mono ?_
            rintro e w' ⟨rfl, rfl⟩
            go_wp2_with (first | (at_builtin; refine wpList_dpL (w0 := w) (base := w.heap.size) (lv := u2) (ls := (ps.map (·.1))) (bv := u3) (bs := (ps.map (·.2))) rfl (.tmp 38) (.tmp 42) rfl rfl s[k + 1] ?_ ?_ (by assumption) (Nat.le_refl _) ?_; (focus ((repeat (first | assumption | refine DP2.alloc ?_ (Nat.le_refl _) _ | refine DP2.drew ?_)); done)); (focus (refine ⟨_, rfl, ?_⟩; first | assumption | (go_simp; done))); intro g1 c1 w1 dp1 far1 hz1; clear far1) | (at_builtin; refine wpList_dpB (w0 := w) (base := w.heap.size) (bv := u3) (bs := (ps.map (·.2))) (lv := .slice (some ⟨g1, 0, none⟩) ((ps.map (·.1)).length + 1) c1) (ls := (ps.map (·.1)) ++ [s[k + 1]]) rfl (.tmp 44) (.tmp 45) rfl rfl 0 ?_ ?_ (by assumption) (Nat.le_refl _) ?_; (focus ((repeat (first | assumption | refine DP2.alloc ?_ (Nat.le_refl _) _ | refine DP2.drew ?_)); done)); (focus (refine ⟨_, rfl, ?_⟩; first | assumption | (go_simp; done))); intro g2 c2 w2 dp2 far2 hz2; clear far2))
            have HP2 : Hid (DP2 5 w w2 w.heap.size (.slice (some ⟨g1, 0, none⟩) (ps.length + 1) c1) (.slice (some ⟨g2, 0, none⟩) (ps.length + 1) c2) ((ps ++ [(s[k + 1], (0 : UInt8))]).map (·.1)) ((ps ++ [(s[k + 1], (0 : UInt8))]).map (·.2))) := hide (by
              have h := dp2
              rw [List.length_map, List.length_map] at h
              rw [List.map_append, List.map_append]
              exact h)
            clear dp0 dp1 dp2
            go_wp2_with fail
            go_roundw
            case rel => exact ⟨k + 2, ps ++ [(s[k + 1], (0 : UInt8))], by omega, by go_num, HI2, HP2⟩
            case measure => simp [intOf]; omega
          · have hv1 : v < 0 := by have := letters_no hm; rw [HV.out] at this; omega
            have HN := hide (HI.out.no (by rw [HLS.out]; exact hk1) HC.out hm)
            clear hm
            go_wp2_with fail
            refine (HIX.out _).mono ?_
            rintro e w' ⟨rfl, rfl⟩
            go_wp2_with fail
            go_ret3
            exact .inl ⟨HN.out, rfl, HP.out.bel⟩
      · have hcf : ((s[k].toNat : Int) != 37) = true := by
          have : s[k].toNat ≠ 37 := fun e => hc (by apply UInt8.toNat_inj.1; rw [e]; rfl)
          simp; omega
        have HI2 := hide (HI.out.byte (by rw [HLS.out]; exact hlt) hc)
        have HL := hide (show ∀ q, u2.ownBlock = some q → q < wr.heap.size from fun q hq => (HP.out.l.lt q hq).2)
        have HR := hide (show ∀ q, u3.ownBlock = some q → q < wr.heap.size from fun q hq => (HP.out.b.lt q hq).2)
        have dp0 := HP.out
        go_wp2_with fail
        go_region_law (first
          | (refine step_dpL (w0 := w) (base := w.heap.size) (lv := u2) (ls := (ps.map (·.1))) (bv := u3) (bs := (ps.map (·.2))) (by rfl) (.tmp 16) (.tmp 17) (by rfl) (by rfl) 0 ?_ ?_ (by assumption) (Nat.le_refl _) ?_; (focus ((repeat (first | assumption | refine DP2.alloc ?_ (Nat.le_refl _) _ | refine DP2.drew ?_)); done)); (focus (refine ⟨_, rfl, ?_⟩; first | assumption | (go_simp; done))); intro g1 c1 w1 dp1 far1 hz1; (try (refine (fun (hcB : w1.cell? ⟨wr.heap.size, 0, none⟩ = some (.int .u8 (s[k].toNat : Int))) => ?_) (far1 _ _ _ ?_ ?_); (rotate_left 1); (focus (go_simp; done)); (focus (intro e; have := HL.out _ e; omega)))); (try (refine (fun (hcB : w1.cell? ⟨wr.heap.size + 1, 0, none⟩ = some (.int .u8 (s[k].toNat : Int))) => ?_) (far1 _ _ _ ?_ ?_); (rotate_left 1); (focus (go_simp; done)); (focus (intro e; have := HL.out _ e; omega)))))
          | (refine step_dpB (w0 := w) (base := w.heap.size) (bv := u3) (bs := (ps.map (·.2))) (lv := .slice (some ⟨g1, 0, none⟩) ((ps.map (·.1)).length + 1) c1) (ls := (ps.map (·.1)) ++ [0]) (by rfl) (.tmp 19) (.tmp 23) (by rfl) (by rfl) s[k] ?_ ?_ (by assumption) (Nat.le_refl _) ?_; (focus ((repeat (first | assumption | refine DP2.alloc ?_ (Nat.le_refl _) _ | refine DP2.drew ?_)); done)); (focus (refine ⟨_, rfl, ?_⟩; first | assumption | (go_simp; done))); intro g2 c2 w2 dp2 far2 hz2))
        all_goals
          have HP2 : Hid (DP2 5 w w2 w.heap.size (.slice (some ⟨g1, 0, none⟩) (ps.length + 1) c1) (.slice (some ⟨g2, 0, none⟩) (ps.length + 1) c2) ((ps ++ [((0 : UInt8), s[k])]).map (·.1)) ((ps ++ [((0 : UInt8), s[k])]).map (·.2))) := hide (by
            have h := dp2
            rw [List.length_map, List.length_map] at h
            rw [List.map_append, List.map_append]
            exact h)
          clear dp0 dp1 dp2
          go_wp2_with fail
          go_roundw
          case rel => exact ⟨k + 1, ps ++ [((0 : UInt8), s[k])], by omega, by go_num, HI2, HP2⟩
          case measure => simp [intOf]; omega
    · have HD := hide (HI.out.done (by rw [HLS.out]; omega))
      go_wp2_with fail
      go_ret3
      exact .inr ⟨ps, _, _, HD.out, rfl, HP.out⟩
end Go.Proofs.YtifpmigghplmoaaGreatDoor
