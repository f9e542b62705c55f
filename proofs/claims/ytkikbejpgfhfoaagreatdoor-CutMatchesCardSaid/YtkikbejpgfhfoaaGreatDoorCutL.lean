/- The reference's CutLine. -/
import Derived.Test.YtkikbejpgfhfoaaGreatDoorCutB
import Derived.Test.YtkikbejpgfhfoaaGreatDoorInB
import Derived.Test.YtkikbejpgfhfoaaGreatDoorRefO1
set_option linter.unusedVariables false
set_option linter.unusedSimpArgs false
namespace Go.Pw
open Go.RowKit
theorem mkB_snoc (l : List UInt8) (b : UInt8) : mkB l ++ (⟨#[b]⟩ : ByteArray) = mkB (l ++ [b]) := by
  unfold mkB
  apply ByteArray.ext
  simp
theorem mkB_app (l : List UInt8) (s : ByteArray) : mkB l ++ s = mkB (l ++ s.data.toList) := by
  unfold mkB
  apply ByteArray.ext
  simp
theorem one_byte {s : ByteArray} {k : Nat} (h : k < s.size) : s.extract k (k + 1) = ⟨#[bt s k]⟩ := by
  rw [← mkB_list (s.extract k (k + 1)), Lib.extract_data, bt_eq h]
  have hl : k < s.data.toList.length := by rw [len_size]; exact h
  rw [List.drop_eq_getElem_cons hl]
  simp only [Nat.add_sub_cancel_left]
  rfl
end Go.Pw
namespace Go.Proofs.YtkikbejpgfhfoaaGreatDoor
open Go.RowKit Go.Pw
set_option maxHeartbeats 4000000 in
set_option maxRecDepth 100000 in
theorem cutLineB_any (c : Ct) (rv : Value) (s : ByteArray) (w : World) (h : RngIn w rv c.ranges) (hn : c.ranges.length ≤ 1000000) (hs : s.size ≤ 65536) (hb : c.betw.size ≤ 4096) (hf : c.fields = false) :
    Calls Tryz.prog 20 #[ctV c rv, .string s] w fun e w' => e = .returned (.tuple #[.string (cutBytes c s), .bool true]) ∧ Below w.heap.size w w' := by
  obtain ⟨A, cap, rfl⟩ : ∃ A cap, rv = .slice A c.ranges.length cap := by
    obtain ⟨_, A, cap, h, _⟩ := h
    exact ⟨A, cap, h⟩
  have hb1 := (Below.refl w.heap.size w).alloc (Nat.le_refl _) (.cells #[.bool c.fields, .slice A c.ranges.length cap, .bool c.compl, .string c.sep, .bool c.only, .string c.betw] 43)
  have n1 : CtIn (w.alloc (.cells #[.bool c.fields, .slice A c.ranges.length cap, .bool c.compl, .string c.sep, .bool c.only, .string c.betw] 43)) w.heap.size 43 c (.slice A c.ranges.length cap) := heap_alloc_new _ _
  obtain ⟨W1, hW1⟩ : ∃ W1, w.alloc (.cells #[.bool c.fields, .slice A c.ranges.length cap, .bool c.compl, .string c.sep, .bool c.only, .string c.betw] 43) = W1 := ⟨_, rfl⟩
  rw [hW1] at hb1 n1
  have HB1 := hide hb1
  have HN1 := hide n1
  have HT := hide (fun (n : Int) W (hb : Below w.heap.size w W) (hc : CtIn W w.heap.size 43 c (.slice A c.ranges.length cap)) => takenR_any c (.slice A c.ranges.length cap) n w.heap.size W hc (h.below hb) hn)
  have HLEN := hide (cbTo_len c s)
  obtain ⟨d0, d1, d2, d3, d4, d5⟩ := n1.cells
  rw [hf] at d0
  unfold ctV
  rw [hf] at hW1 ⊢
  clear hb1 n1 h
  go_enter Tryz.func20, Tryz.ntmps20
  go_wp2_with fail
  (try rw [hW1])
  clear hW1 d0 d1 d2 d3 d4 d5
  go_loopw [7, 8, 56] (fun out so i wr => ∃ k : Nat, k ≤ s.size ∧ i = .int .i64 (k : Int) ∧ out = .string (mkB (cbTo c s k).1) ∧ so = .bool (cbTo c s k).2 ∧ Hid (CtIn wr w.heap.size 43 c (.slice A c.ranges.length cap)) ∧ Hid (Below w.heap.size w wr)) (fun _ _ i _ => s.size - (intOf i).toNat)
  case atStart => exact ⟨0, by omega, rfl, rfl, rfl, HN1, HB1⟩
  case round =>
    obtain ⟨k, hk, rfl, rfl, rfl, HN, HB⟩ := hrel
    by_cases hlt : k < s.size
    · have hd : (k : Int) < (s.size : Int) := by omega
      have hd0 : (0 : Int) ≤ (k : Int) := by omega
      have hd1 : (k : Int) + 1 ≤ (s.size : Int) := by omega
      have hd3 : ((k : Int) + 1).toNat = k + 1 := by omega
      have HTK := hide (HT.out ((k : Int) + 1) wr HB.out HN.out)
      have HTK2 := hide (fun W h1 h2 => HT.out (k : Int) W h1 h2)
      obtain ⟨t, ht⟩ : ∃ t, tkn c ((k : Int) + 1) = t := ⟨_, rfl⟩
      obtain ⟨t2, ht2⟩ : ∃ t, tkn c (k : Int) = t := ⟨_, rfl⟩
      obtain ⟨st, hst⟩ : ∃ st, cbTo c s k = st := ⟨_, rfl⟩
      obtain ⟨bs, so⟩ := st
      have HTT := hide ht
      have HNX := fun (h : tkn c ((k : Int) + 1) = true) => cbTo_hit (s := s) h
      have HMI := fun (h : tkn c ((k : Int) + 1) = false) => cbTo_miss (s := s) h
      rw [hst, ht2] at HNX
      rw [hst] at HMI ⊢
      have HNX := hide HNX
      have HMI := hide HMI
      have hlb := HLEN.out k
      rw [hst] at hlb
      have hlb2 : k * (c.betw.size + 1) ≤ 65536 * 4097 := Nat.mul_le_mul (by omega) (by omega)
      have HLB : Hid (bs.length ≤ 65536 * 4097) := hide (Nat.le_trans hlb hlb2)
      rw [ht] at HTK
      simp only [ht2] at HTK2
      have ho := one_byte hlt
      obtain ⟨y, hy⟩ : ∃ y, bt s k = y := ⟨_, rfl⟩
      rw [hy] at ho
      have HY := hide hy
      clear ht ht2 hst hlb hlb2 hy
      dsimp only
      go_wp2_with fail
      refine HTK.out.mono ?_
      rintro e w1 ⟨rfl, hb1⟩
      have HB1 := hide (HB.out.trans (hb1.mono HB.out.size))
      have HN1 := hide (HN.out.below hb1 HN.out.lt)
      clear hb1 HTK
      cases t
      · have HM2 := hide (HMI.out HTT.out)
        go_wp2_with fail
        go_roundw
        case rel => exact ⟨k + 1, by omega, by go_num, by rw [HM2.out], by rw [HM2.out], HN1, HB1⟩
        case measure => simp [intOf]; omega
      · have HX2 := hide (HNX.out HTT.out)
        have hz : (mkB bs).size ≤ 65536 * 4097 := by rw [mkB_size]; exact HLB.out
        have ho1 : (⟨#[y]⟩ : ByteArray).size = 1 := rfl
        obtain ⟨x, hx⟩ : ∃ x, mkB bs = x := ⟨_, rfl⟩
        obtain ⟨z, hzz⟩ : ∃ z, (⟨#[y]⟩ : ByteArray) = z := ⟨_, rfl⟩
        have HX := hide hx
        have HZ := hide hzz
        rw [hx] at hz ⊢
        rw [hzz] at ho ho1
        clear hx hzz
        cases so
        · have HX3 : Hid (cbTo c s (k + 1) = (bs ++ [y], true)) := hide (by rw [HX2.out, HY.out]; rfl)
          have HG : Hid (x ++ z = mkB (cbTo c s (k + 1)).1) := hide (by rw [HX3.out, ← HX.out, ← HZ.out, mkB_snoc])
          clear HX2 HX3 HX HZ
          obtain ⟨f0, f1, f2, f3, f4, f5⟩ := HN1.out.cells
          go_wp2_with fail
          go_roundw
          case rel => exact ⟨k + 1, by omega, by go_num, by rw [HG.out], by rw [cbTo_hit HTT.out], HN1, HB1⟩
          case measure => simp [intOf]; omega
        · go_wp2_with fail
          refine (HTK2.out w1 HB1.out HN1.out).mono ?_
          rintro e w2 ⟨rfl, hb2⟩
          have HB2 := hide (HB1.out.trans (hb2.mono HB1.out.size))
          have HN2 := hide (HN1.out.below hb2 HN1.out.lt)
          obtain ⟨f0, f1, f2, f3, f4, f5⟩ := HN2.out.cells
          clear hb2 HTK2
          cases t2
          · have HX3 : Hid (cbTo c s (k + 1) = ((bs ++ c.betw.data.toList) ++ [y], true)) := hide (by rw [HX2.out, HY.out]; rfl)
            have HG : Hid ((x ++ c.betw) ++ z = mkB (cbTo c s (k + 1)).1) := hide (by rw [HX3.out, ← HX.out, ← HZ.out, mkB_app, mkB_snoc])
            have hbz : (x ++ c.betw).size ≤ 65536 * 4097 + 4096 := by rw [ByteArray.size_append]; omega
            clear HX2 HX3 HX HZ
            go_wp2_with fail
            go_roundw
            case rel => exact ⟨k + 1, by omega, by go_num, by rw [HG.out], by rw [cbTo_hit HTT.out], HN2, HB2⟩
            case measure => simp [intOf]; omega
          · have HX3 : Hid (cbTo c s (k + 1) = (bs ++ [y], true)) := hide (by rw [HX2.out, HY.out]; rfl)
            have HG : Hid (x ++ z = mkB (cbTo c s (k + 1)).1) := hide (by rw [HX3.out, ← HX.out, ← HZ.out, mkB_snoc])
            clear HX2 HX3 HX HZ
            go_wp2_with fail
            go_roundw
            case rel => exact ⟨k + 1, by omega, by go_num, by rw [HG.out], by rw [cbTo_hit HTT.out], HN2, HB2⟩
            case measure => simp [intOf]; omega
    · obtain rfl : k = s.size := by omega
      have hd : ¬ ((s.size : Int) < (s.size : Int)) := by omega
      go_wp2_with fail
      go_ret2
      exact ⟨rfl, HB.out⟩
end Go.Proofs.YtkikbejpgfhfoaaGreatDoor
