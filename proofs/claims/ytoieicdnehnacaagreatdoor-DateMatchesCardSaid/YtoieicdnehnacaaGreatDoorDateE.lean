/- A time is written by a format: the reference's Dated at a good format. -/
import Derived.Test.YtoieicdnehnacaaGreatDoorDateD
import Derived.IntWalk
set_option linter.unusedVariables false
set_option linter.unusedSimpArgs false
namespace Go.Pw
open Go.RowKit
theorem extract_one (s : ByteArray) (k : Nat) (h : k < s.size) : s.extract k (k + 1) = mkB [s[k]] := by
  have e : (s.extract k (k + 1)).data.toList = [s[k]] := by
    have h2 : k < s.data.toList.length := by rw [len_size]; exact h
    rw [ByteArray.data_extract, Array.toList_extract, List.extract_eq_take_drop, show k + 1 - k = 1 by omega, List.drop_eq_getElem_cons h2]
    rfl
  rw [← mkB_list (s.extract k (k + 1)), e]
theorem DEnv.cells9 {T : TypeId} {x : DMo} {w W : World} (h : DEnv T x w W) : (W.cell? ⟨w.heap.size, 0, none⟩ = some (.int .i64 x.y) ∧ W.cell? ⟨w.heap.size, 1, none⟩ = some (.int .i64 x.m) ∧ W.cell? ⟨w.heap.size, 2, none⟩ = some (.int .i64 x.d)) ∧ (W.cell? ⟨w.heap.size, 3, none⟩ = some (.int .i64 x.h) ∧ W.cell? ⟨w.heap.size, 4, none⟩ = some (.int .i64 x.mi) ∧ W.cell? ⟨w.heap.size, 5, none⟩ = some (.int .i64 x.s)) ∧ W.cell? ⟨w.heap.size, 6, none⟩ = some (.int .i64 x.wk) ∧ W.cell? ⟨w.heap.size, 7, none⟩ = some (.int .i64 x.day) ∧ W.cell? ⟨w.heap.size, 8, none⟩ = some (.int .i64 x.t) := by
  have hr := h.row
  unfold dmoO at hr
  refine ⟨⟨?_, ?_, ?_⟩, ⟨?_, ?_, ?_⟩, ?_, ?_, ?_⟩ <;> rw [cell_of_row _ _ _ _ _ _ hr] <;> rfl
end Go.Pw
namespace Go.Proofs.YtoieicdnehnacaaGreatDoor
open Go.RowKit Go.Pw
set_option maxHeartbeats 4000000 in
set_option maxRecDepth 100000 in
theorem Dated_good (t : Int) (s : ByteArray) (w : World) (h : s.size ≤ 200) (all : List (UInt8 × UInt8)) (hp : dParse s.data.toList = some all) {n r y d : Int} {m : Nat} (hI : DIs t n r y m d) (hT : PowTab w) :
    Calls Tryz.prog 14 #[.int .i64 t, .string s] w fun e w' => e = .returned (.tuple #[.string (mkB (dText (dMo n r t y m d) all)), .int .i64 0]) ∧ Below w.heap.size w w' := by
  have HLS := hide (len_size s)
  have HD := hide (dateFormat_any s w h hT)
  rw [hp] at HD
  simp only [Option.isSome_some] at HD
  have HM := hide (fun W => moment_yes hI W)
  have HTX : Hid (∀ qs, (dText (dMo n r t y m d) qs).length ≤ 100 * qs.length) := hide (fun qs => dText_len hI.good qs)
  have HLN : Hid (∀ c, (dTold (dMo n r t y m d) c).length ≤ 100) := hide (fun c => dTold_len hI.good c)
  have HPA := hide (fun (c : UInt8) (hc : c ∈ dLetters) W (hb : Below w.heap.size w W) => part_any (dMo n r t y m d) hI.good c hc W (hT.below hb))
  have HP := hide hp
  obtain ⟨X, hX⟩ : ∃ X, dMo n r t y m d = X := ⟨_, rfl⟩
  rw [hX] at HTX HLN ⊢
  simp only [hX] at HM HPA
  clear hX hT hI hp
  obtain ⟨x0, x1, x2, x3, x4, x5, x6, x7, x8⟩ := X
  have HX : ∃ X, X = DMo.mk x0 x1 x2 x3 x4 x5 x6 x7 x8 := ⟨_, rfl⟩
  obtain ⟨X, HXe⟩ := HX
  rw [← HXe] at HTX HLN ⊢
  unfold dmoV at HM HPA
  simp only at HM HPA
  rw [← HXe] at HPA
  have HXE := hide HXe
  clear HXe
  go_enter Tryz.func14, Tryz.ntmps14
  go_wp2_with fail
  refine HD.out.mono ?_
  rintro e w1 ⟨rfl, hb1⟩
  have HB1 := hide hb1
  clear hb1
  go_wp2_with fail
  refine (HM.out _).mono ?_
  rintro e w2 ⟨rfl, hb2⟩
  have HB2 := hide (HB1.out.trans (hb2.mono HB1.out.size))
  clear hb2
  have EN0 := hide (DEnv.start 101 X w2)
  unfold dmoO at EN0
  rw [HXE.out] at EN0
  simp only at EN0
  rw [← HXE.out] at EN0
  go_wp2_with fail
  go_loopw [8, 9] (fun v i wr => ∃ (k : Nat) (ps : List (UInt8 × UInt8)), k ≤ s.size ∧ i = .int .i64 (k : Int) ∧ Hid (DAtI s.data.toList k ps) ∧ v = .string (mkB (dText X ps)) ∧ Hid (DEnv 101 X w2 wr)) (fun _ i _ => s.size - (intOf i).toNat)
  case atStart => exact ⟨0, [], by omega, rfl, hide (DAtI.start _), rfl, EN0⟩
  case round =>
    obtain ⟨k, ps, hk, rfl, HI, rfl, EN⟩ := hrel
    have HBW := hide (HB2.out.trans (EN.out.bel.mono HB2.out.size))
    have hz : (mkB (dText X ps)).size ≤ 20000 := by
      rw [mkB_size]
      have h1 := HTX.out ps
      have h2 := HI.out.2.1
      omega
    have HMS := hide (mkB_app' (dText X ps))
    obtain ⟨q, hq⟩ : ∃ q, mkB (dText X ps) = q := ⟨_, rfl⟩
    rw [hq] at hz ⊢
    simp only [hq] at HMS
    have HQ := hide hq
    clear hq
    by_cases hlt : k < s.size
    · have hd0 : (0 : Int) ≤ (k : Int) := by omega
      have hd1 : (k : Int) < (s.size : Int) := by omega
      by_cases hc : s[k] = 37
      · have hcf : ((s[k].toNat : Int) != 37) = false := by rw [hc]; rfl
        by_cases hlast : k + 1 = s.size
        · have := HI.out.last (by rw [HLS.out]; exact hlast) hc
          rw [HP.out] at this; cases this
        · have hk1 : k + 1 < s.size := by omega
          have hd2 : (0 : Int) ≤ (k : Int) + 1 := by omega
          have hd3 : (k : Int) + 1 < (s.size : Int) := by omega
          have HC := hide hc
          clear hc
          by_cases hm : s[k + 1] ∈ dLetters
          · have HI2 := hide (HI.out.yes (by rw [HLS.out]; exact hk1) HC.out hm)
            have HPC := hide (fun W hb => HPA.out _ hm W hb)
            have hz2 : (mkB (dTold X s[k + 1])).size ≤ 100 := by rw [mkB_size]; exact HLN.out _
            have hn0 : s[k + 1] ≠ 0 := fun e => by rw [e] at hm; revert hm; decide
            have HN : Hid (mkB (dText X (ps ++ [(s[k + 1], (0 : UInt8))])) = q ++ mkB (dTold X s[k + 1])) := hide (by
              rw [HMS.out, dText_snoc]; simp only; rw [if_neg hn0])
            obtain ⟨q2, hq2⟩ : ∃ q2, mkB (dTold X s[k + 1]) = q2 := ⟨_, rfl⟩
            rw [hq2] at hz2 HN
            simp only [hq2] at HPC
            clear hm hq2 hn0
            obtain ⟨⟨c0, c1, c2⟩, ⟨c3, c4, c5⟩, c6, c7, c8⟩ := EN.out.cells9
            rw [HXE.out] at c0 c1 c2 c3 c4 c5 c6 c7 c8
            simp only at c0 c1 c2 c3 c4 c5 c6 c7 c8
            go_wp2_with fail
            have l1 : IntKind.i64.wrap ((k : Int) + 1) = (k : Int) + 1 := IntWalk.i64_in _ (by omega)
            have l2 : ((k : Int) + 1).toNat = k + 1 := by omega
            go_region_held3 (fun w' => w'.cell? ⟨w2.heap.size, 0, none⟩ = some (.int .i64 x0) ∧ w'.cell? ⟨w2.heap.size, 1, none⟩ = some (.int .i64 x1) ∧ w'.cell? ⟨w2.heap.size, 2, none⟩ = some (.int .i64 x2) ∧ w'.cell? ⟨w2.heap.size, 3, none⟩ = some (.int .i64 x3) ∧ w'.cell? ⟨w2.heap.size, 4, none⟩ = some (.int .i64 x4) ∧ w'.cell? ⟨w2.heap.size, 5, none⟩ = some (.int .i64 x5) ∧ w'.cell? ⟨w2.heap.size, 6, none⟩ = some (.int .i64 x6) ∧ w'.cell? ⟨w2.heap.size, 7, none⟩ = some (.int .i64 x7) ∧ w'.cell? ⟨w2.heap.size, 8, none⟩ = some (.int .i64 x8)) (go_keep)
              ((go_at_call 56; (with_reducible refine (HPC.out _ ?_).mono ?_); (focus (exact HBW.out.drew)); rintro e w4 ⟨rfl, hb4⟩; have EN4 := hide (EN.out.drew.next hb4); clear hb4; obtain ⟨⟨e0, e1, e2⟩, ⟨e3, e4, e5⟩, e6, e7, e8⟩ := EN4.out.cells9; rw [HXE.out] at e0 e1 e2 e3 e4 e5 e6 e7 e8; simp only at e0 e1 e2 e3 e4 e5 e6 e7 e8))
            clear l1 e0 e1 e2 e3 e4 e5 e6 e7 e8 c0 c1 c2 c3 c4 c5 c6 c7 c8
            go_wp2_with fail
            go_roundw
            case rel => exact ⟨k + 2, ps ++ [(s[k + 1], (0 : UInt8))], by omega, by go_num, HI2, by rw [HN.out], EN4⟩
            case measure => simp [intOf]; omega
          · have := HI.out.no (by rw [HLS.out]; exact hk1) HC.out hm
            rw [HP.out] at this; cases this
      · have hcf : ((s[k].toNat : Int) != 37) = true := by
          have := u8_ne hc
          have h3 : s[k].toNat ≠ 37 := fun e => hc (by apply UInt8.toNat_inj.1; rw [e]; rfl)
          simp; omega
        have HI2 := hide (HI.out.byte (by rw [HLS.out]; exact hlt) hc)
        have hk1 : (k : Int) + 1 ≤ (s.size : Int) := by omega
        have HX1 := hide (extract_one s k hlt)
        have HN : Hid (mkB (dText X (ps ++ [((0 : UInt8), s[k])])) = q ++ s.extract k (k + 1)) := hide (by
          rw [HX1.out, HMS.out, dText_snoc]; rfl)
        have hz2 : (s.extract k (k + 1)).size ≤ 1 := by rw [HX1.out, mkB_size]; simp
        go_wp2_with fail
        go_roundw
        case rel => exact ⟨k + 1, ps ++ [((0 : UInt8), s[k])], by omega, by go_num, HI2, by rw [HN.out], EN⟩
        case measure => simp [intOf]; omega
    · have HDN := HI.out.done (by rw [HLS.out]; omega)
      rw [HP.out] at HDN
      obtain rfl := Option.some.inj HDN
      clear HDN
      go_wp2_with fail
      go_ret2
      exact ⟨by rw [HQ.out]; rfl, HBW.out⟩
end Go.Proofs.YtoieicdnehnacaaGreatDoor
