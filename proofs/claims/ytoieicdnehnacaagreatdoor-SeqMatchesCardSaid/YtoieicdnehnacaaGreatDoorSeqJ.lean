/- The reference's decimals: Text. -/
import Derived.Test.YtoieicdnehnacaaGreatDoorSeqI
set_option linter.unusedVariables false
set_option linter.unusedSimpArgs false
namespace Go.Proofs.YtoieicdnehnacaaGreatDoor
open Go.RowKit Go.Pw
set_option maxHeartbeats 4000000 in
set_option maxRecDepth 100000 in
theorem decText_any (b : Bool) (d : ByteArray) (c : Nat) (w : World) (hd : d.size ≤ 100) (hc : c ≤ 100) :
    Calls Tryz.prog 46 #[.agg #[.bool b, .string d, .int .i64 (c : Int)]] w fun e w' => e = .returned (.tuple #[.string (exTx b d.data.toList c c), .bool true]) ∧ Below w.heap.size w w' := by
  have hdl := len_size d
  have HD := hide (fun V => decDigits_any b d c V hd hc)
  have HT : Hid (exTx b d.data.toList c c = mkB ((if b then [45] else []) ++ ((padL (c + 1) d.data.toList).take ((padL (c + 1) d.data.toList).length - c) ++ (if 0 < c then 46 :: (((padL (c + 1) d.data.toList).drop ((padL (c + 1) d.data.toList).length - c)).take c) else [])))) := hide rfl
  have E0 : DAt (w.alloc (.cells #[.bool b, .string d, .int .i64 (c : Int)] 71)) w.heap.size 71 b d c := heap_alloc_new _ _
  have HB := hide ((Below.refl w.heap.size w).alloc (Nat.le_refl _) (.cells #[.bool b, .string d, .int .i64 (c : Int)] 71))
  have HPL : Hid ((padL (c + 1) d.data.toList).length ≤ 201 ∧ c + 1 ≤ (padL (c + 1) d.data.toList).length) := hide (by
    unfold padL; rw [List.length_append, List.length_replicate]; omega)
  have HP0 : Hid (∀ k : Nat, (k = 0 ∨ k + d.size ≤ c + 1) → ¬ (k + d.size ≤ c) → List.replicate k 48 ++ d.data.toList = padL (c + 1) d.data.toList) := hide (fun k h1 h2 => by
    unfold padL
    rw [show c + 1 - d.data.toList.length = k by omega])
  clear hdl
  go_enter Tryz.func46, Tryz.ntmps46
  go_wp2_with fail
  refine (HD.out _).mono ?_
  rintro e w2 ⟨⟨n, hn, rfl⟩, hb2⟩
  have HB2 := hide (HB.out.trans (hb2.mono (by simp)))
  obtain ⟨q0, q1, q2⟩ := (E0.below hb2 (by simp)).cells
  have hn2 : ¬ (200 : Int) < (n : Int) := by omega
  clear hb2 E0 HB HD hn
  go_wp2_with fail
  go_loop [4] (fun v => ∃ (t : ByteArray) (k : Nat), v = .string t ∧ Hid (t.data.toList = List.replicate k 48 ++ d.data.toList) ∧ Hid (t.size = k + d.size) ∧ (k = 0 ∨ k + d.size ≤ c + 1)) (fun v => c + 1 - strLen v)
  case atStart => exact ⟨d, 0, rfl, hide rfl, hide (by simp), .inl rfl⟩
  case round =>
    obtain ⟨t, k, rfl, HL, HS, hk⟩ := hrel
    by_cases hle : t.size ≤ c
    · have hle2 : (t.size : Int) ≤ (c : Int) := by omega
      have HL2 : Hid (((⟨#[48]⟩ : ByteArray) ++ t).data.toList = List.replicate (k + 1) 48 ++ d.data.toList) := hide (by
        have e : ((⟨#[48]⟩ : ByteArray) ++ t).data.toList = [48] ++ t.data.toList := by simp
        rw [e, HL.out, List.replicate_succ]; rfl)
      have HS2 : Hid (((⟨#[48]⟩ : ByteArray) ++ t).size = (k + 1) + d.size) := hide (by
        have e1 : (⟨#[48]⟩ : ByteArray).size = 1 := rfl
        rw [ByteArray.size_append, HS.out, e1]; omega)
      have HK : Hid (k + 1 + d.size ≤ c + 1) := hide (by have := HS.out; omega)
      clear hk
      go_wp2_with fail
      go_round
      case rel => exact ⟨_, k + 1, rfl, HL2, HS2, .inr HK.out⟩
      case measure =>
        show c + 1 - ((⟨#[48]⟩ : ByteArray) ++ t).size < c + 1 - t.size
        rw [ByteArray.size_append, show (⟨#[48]⟩ : ByteArray).size = 1 from rfl]; omega
    · have hle2 : ¬ (t.size : Int) ≤ (c : Int) := by omega
      have hL := len_size t
      have HPt : Hid (t.data.toList = padL (c + 1) d.data.toList) := hide (by rw [HL.out]; exact HP0.out k hk (by have := HS.out; omega))
      rw [← HPt.out] at HT HPL
      clear HL hk HP0 HPt
      rw [hL] at HT HPL
      obtain ⟨hP1, hP2⟩ := HPL.out
      obtain ⟨q, hq⟩ : ∃ q, t.size - c = q := ⟨_, rfl⟩
      rw [hq] at HT
      have hqs : q ≤ t.size := by omega
      have hwq : IntKind.i64.wrap ((t.size : Int) - (c : Int)) = (q : Int) := by rw [show (t.size : Int) - (c : Int) = (q : Int) by omega]; exact IntWalk.i64_in _ (by omega)
      have hqi : (t.size : Int) - (c : Int) = (q : Int) := by omega
      have hqn : (q : Int) ≤ (t.size : Int) := by omega
      have HX1 : Hid (t.extract 0 q = mkB (t.data.toList.take q)) := hide (by
        rw [← mkB_list (t.extract 0 q), ByteArray.data_extract, Array.toList_extract, List.extract_eq_take_drop]; rfl)
      have HX2 : Hid (t.extract q t.size = mkB ((t.data.toList.drop q).take c)) := hide (by
        rw [← mkB_list (t.extract q t.size), ByteArray.data_extract, Array.toList_extract, List.extract_eq_take_drop, show t.size - q = c by omega])
      have HQ0 : Hid (c = 0 → q = t.size) := hide (fun h => by omega)
      clear hq HPL hL
      obtain ⟨X1, hX1⟩ : ∃ X1, t.extract 0 q = X1 := ⟨_, rfl⟩
      have hX1s : X1.size ≤ 201 := by rw [← hX1, ByteArray.size_extract]; omega
      obtain ⟨X2, hX2⟩ : ∃ X2, t.extract q t.size = X2 := ⟨_, rfl⟩
      have hX2s : X2.size ≤ 201 := by rw [← hX2, ByteArray.size_extract]; omega
      rw [hX1] at HX1
      rw [hX2] at HX2
      have e46 : (⟨#[46]⟩ : ByteArray).size = 1 := rfl
      have hsA : ¬ 9223372036854775807 < X1.size + 1 := by omega
      have hsB : ¬ 9223372036854775807 < X1.size + 1 + X2.size := by omega
      by_cases hc0 : 0 < c
      · have hci : (0 : Int) < (c : Int) := by omega
        rw [if_pos hc0] at HT
        clear hc0
        cases b
        · skip
          have HR : Hid (exTx false d.data.toList c c = (X1 ++ (⟨#[46]⟩ : ByteArray) ++ X2)) := hide (by
            rw [HT.out, HX1.out, HX2.out]
            show _ = (mkB _ ++ mkB [46]) ++ mkB _
            rw [mkB_app', mkB_app']
            congr 1; simp)
          clear HT HX1 HX2 HQ0 HS
          go_wp2_with fail
          go_quiet (fail)
          go_wp2_with fail
          go_ret2
          exact ⟨by rw [HR.out]; rfl, below_drewN HB2.out _⟩
        · skip
          have HR : Hid (exTx true d.data.toList c c = (⟨#[45]⟩ : ByteArray) ++ (X1 ++ (⟨#[46]⟩ : ByteArray) ++ X2)) := hide (by
            rw [HT.out, HX1.out, HX2.out]
            show _ = mkB [45] ++ ((mkB _ ++ mkB [46]) ++ mkB _)
            rw [mkB_app', mkB_app', mkB_app']
            congr 1; simp)
          clear HT HX1 HX2 HQ0 HS
          go_wp2_with fail
          go_quiet (fail)
          go_wp2_with fail
          go_ret2
          exact ⟨by rw [HR.out]; rfl, below_drewN HB2.out _⟩
      · have HC0 := hide (show c = 0 by omega)
        have hci : ¬ (0 : Int) < (c : Int) := by omega
        rw [if_neg hc0] at HT
        clear hc0
        cases b
        · skip
          have HR : Hid (exTx false d.data.toList c c = t) := hide (by
            rw [HT.out, HQ0.out HC0.out, ← len_size t, List.take_length]
            (conv => rhs; rw [← mkB_list t])
            congr 1; simp)
          clear HT HX1 HX2 HQ0 HS
          go_wp2_with fail
          go_ret2
          exact ⟨by rw [HR.out]; rfl, HB2.out⟩
        · skip
          have HR : Hid (exTx true d.data.toList c c = (⟨#[45]⟩ : ByteArray) ++ t) := hide (by
            rw [HT.out, HQ0.out HC0.out, ← len_size t, List.take_length]
            (conv => rhs; rw [← mkB_list t])
            show _ = mkB [45] ++ mkB _
            rw [mkB_app']
            congr 1; simp)
          clear HT HX1 HX2 HQ0 HS
          go_wp2_with fail
          go_ret2
          exact ⟨by rw [HR.out]; rfl, HB2.out⟩
end Go.Proofs.YtoieicdnehnacaaGreatDoor
