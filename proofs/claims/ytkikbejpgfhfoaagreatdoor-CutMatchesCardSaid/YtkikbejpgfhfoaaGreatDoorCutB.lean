/- The bytes that are taken of a line: the program's walk. -/
import Derived.Test.YtkikbejpgfhfoaaGreatDoorCutW
import Derived.Test.YtkikbejpgfhfoaaGreatDoorJoinW
set_option linter.unusedVariables false
set_option linter.unusedSimpArgs false
namespace Go.Pw
open Go.RowKit
/-- the last place that was taken among the first k, or -1 -/
def LastInv (c : Ct) (k : Nat) (some_ : Bool) (v : Int) : Prop :=
  (some_ = false ∧ v = -1) ∨ (some_ = true ∧ ∃ j : Nat, v = (j : Int) ∧ j < k ∧ tkn c ((j : Int) + 1) = true ∧ ∀ m : Nat, j < m → m < k → tkn c ((m : Int) + 1) = false)
theorem LastInv.miss {c : Ct} {k : Nat} {b : Bool} {v : Int} (h : LastInv c k b v) (ht : tkn c ((k : Int) + 1) = false) : LastInv c (k + 1) b v := by
  rcases h with h | ⟨h1, j, h2, h3, h4, h5⟩
  · exact .inl h
  · refine .inr ⟨h1, j, h2, by omega, h4, fun m hm1 hm2 => ?_⟩
    rcases Nat.lt_or_eq_of_le (show m ≤ k by omega) with h6 | h6
    · exact h5 m hm1 h6
    · subst h6; exact ht
theorem LastInv.hit {c : Ct} {k : Nat} (ht : tkn c ((k : Int) + 1) = true) : LastInv c (k + 1) true (k : Int) := .inr ⟨rfl, k, rfl, by omega, ht, fun m h1 h2 => by omega⟩
theorem cbTo_miss {c : Ct} {s : ByteArray} {k : Nat} (ht : tkn c ((k : Int) + 1) = false) : cbTo c s (k + 1) = cbTo c s k := by rw [cbTo, ht]; rfl
theorem cbTo_hit {c : Ct} {s : ByteArray} {k : Nat} (ht : tkn c ((k : Int) + 1) = true) : cbTo c s (k + 1) = ((if (cbTo c s k).2 && !tkn c (k : Int) then (cbTo c s k).1 ++ c.betw.data.toList else (cbTo c s k).1) ++ [bt s k], true) := by rw [cbTo, ht]; rfl
end Go.Pw
namespace Go.Proofs.YtkikbejpgfhfoaaGreatDoor
open Go.RowKit Go.Pw
theorem Bld.below {B b : Nat} {l : List UInt8} {w w' : World} (h : Bld B b l w) (hb : Below w.heap.size w w') : Bld B b l w' := by
  have key : ∀ p, Lib.BuilderAt 85 5 B b p (Lib.byteCells l) w → Lib.BuilderAt 85 5 B b p (Lib.byteCells l) w' := by
    intro p hp
    have hlt := hp.lt
    obtain ⟨h1, v, h2, h3, h4⟩ := hp
    exact ⟨h1, v, (hb.block b hlt).trans h2, own_below h3 hb, h4⟩
  rcases h with h | h
  · exact .inl (key _ h)
  · exact .inr (key _ h)
set_option maxHeartbeats 4000000 in
set_option maxRecDepth 100000 in
theorem bytesOf_any (c : Ct) (rv : Value) (s : ByteArray) (w : World) (h : RngIn w rv c.ranges) (hn : c.ranges.length ≤ 1000000) (hs : s.size ≤ 65536) (hb : c.betw.size ≤ 4096) :
    Calls Tryz.prog 36 #[ctV c rv, .string s] w fun e w' => e = .returned (.string (cutBytes c s)) ∧ Below w.heap.size w w' := by
  obtain ⟨A, cap, rfl⟩ : ∃ A cap, rv = .slice A c.ranges.length cap := by
    obtain ⟨_, A, cap, h, _⟩ := h
    exact ⟨A, cap, h⟩
  have hb1 := (Below.refl w.heap.size w).alloc (Nat.le_refl _) (.cells #[.bool c.fields, .slice A c.ranges.length cap, .bool c.compl, .string c.sep, .bool c.only, .string c.betw] 43)
  have n1 : CtIn (w.alloc (.cells #[.bool c.fields, .slice A c.ranges.length cap, .bool c.compl, .string c.sep, .bool c.only, .string c.betw] 43)) w.heap.size 43 c (.slice A c.ranges.length cap) := heap_alloc_new _ _
  obtain ⟨W1, hW1⟩ : ∃ W1, w.alloc (.cells #[.bool c.fields, .slice A c.ranges.length cap, .bool c.compl, .string c.sep, .bool c.only, .string c.betw] 43) = W1 := ⟨_, rfl⟩
  have hz1 : W1.heap.size = w.heap.size + 1 := by rw [← hW1]; simp
  rw [hW1] at hb1 n1
  have hb2 := (Below.refl W1.heap.size W1).alloc (Nat.le_refl _) (.cells #[.pointer none, .slice none 0 0] 85)
  have n2 := n1.below hb2 n1.lt
  have hbd : Bld W1.heap.size W1.heap.size [] (W1.alloc (.cells #[.pointer none, .slice none 0 0] 85)) := Lib.fresh_isBuilder _ _ W1
  obtain ⟨W2, hW2⟩ : ∃ W2, W1.alloc (.cells #[.pointer none, .slice none 0 0] 85) = W2 := ⟨_, rfl⟩
  have hz2 : W1.heap.size ≤ W2.heap.size := by rw [← hW2]; simp
  rw [hW2] at hb2 n2 hbd
  rw [hz1] at hbd hz2
  have HW1 := hide hW1
  have HW2 := hide hW2
  have HB2 := hide (hb1.trans (hb2.mono hb1.size))
  have HN2 := hide n2
  have HD2 := hide hbd
  have HT := hide (fun (n : Int) W (hb : Below w.heap.size w W) => taken_any c (.slice A c.ranges.length cap) n W (h.below hb) hn)
  have HLEN := hide (cbTo_len c s)
  unfold ctV at HT ⊢
  clear hb1 hb2 n1 n2 hbd hW1 hW2 h
  go_enter Tryz.func36, Tryz.ntmps36
  go_wp2_with fail
  rw [HW1.out, HW2.out]
  try rw [hz1]
  go_loopw [6, 10] (fun la i wr => ∃ (k : Nat) (v : Int), k ≤ s.size ∧ i = .int .i64 (k : Int) ∧ la = .int .i64 v ∧ Hid (LastInv c k (cbTo c s k).2 v) ∧ Hid (Bld (w.heap.size + 1) (w.heap.size + 1) (cbTo c s k).1 wr) ∧ Hid (CtIn wr w.heap.size 43 c (.slice A c.ranges.length cap)) ∧ Hid (Below w.heap.size w wr) ∧ w.heap.size + 1 ≤ wr.heap.size) (fun _ i _ => s.size - (intOf i).toNat)
  case atStart => exact ⟨0, -1, by omega, rfl, rfl, hide (.inl ⟨rfl, rfl⟩), HD2, HN2, HB2, hz2⟩
  case round =>
    obtain ⟨k, v, hk, rfl, rfl, HLI, HBD, HN, HB, hwz⟩ := hrel
    by_cases hlt : k < s.size
    · have hd : (k : Int) < (s.size : Int) := by omega
      have hd0 : (0 : Int) ≤ (k : Int) := by omega
      obtain ⟨d0, d1, d2, d3, d4, d5⟩ := HN.out.cells
      have HTK := hide (HT.out ((k : Int) + 1) wr HB.out)
      obtain ⟨t, ht⟩ : ∃ t, tkn c ((k : Int) + 1) = t := ⟨_, rfl⟩
      have HTT := hide ht
      rw [ht] at HTK
      clear ht
      go_wp2_with fail
      refine HTK.out.mono ?_
      rintro e w1 ⟨rfl, hb1⟩
      have HB1 := hide (HB.out.trans (hb1.mono HB.out.size))
      have HN1 := hide (HN.out.below hb1 HN.out.lt)
      have hz1' := hb1.size
      have HD1 := hide (HBD.out.below hb1)
      clear hb1 HTK
      cases t
      · have hmiss := cbTo_miss (s := s) HTT.out
        have HLN : Hid (LastInv c (k + 1) (cbTo c s (k + 1)).2 v) := hide (by rw [hmiss]; exact HLI.out.miss HTT.out)
        have HDN : Hid (Bld (w.heap.size + 1) (w.heap.size + 1) (cbTo c s (k + 1)).1 w1) := hide (by rw [hmiss]; exact HD1.out)
        clear hmiss d0 d1 d2 d3 d4 d5
        go_wp2_with fail
        go_roundw
        case rel => exact ⟨k + 1, v, by omega, by go_num, rfl, HLN, HDN, HN1, HB1, by omega⟩
        case measure => simp [intOf]; omega
      · have hbk : ((bt s k).toNat : Int) = ((s[k]'hlt).toNat : Int) := by rw [bt_eq hlt]
        obtain ⟨x, hx⟩ : ∃ x : UInt8, s[k]'hlt = x := ⟨_, rfl⟩
        rw [hx] at hbk
        obtain ⟨f0, f1, f2, f3, f4, f5⟩ := HN1.out.cells
        have hhit := cbTo_hit (s := s) HTT.out
        rcases HLI.out with ⟨hso, hv⟩ | ⟨hso, j, hv, hj1, hj2, hj3⟩
        · subst hv
          have HNX : Hid ((cbTo c s (k + 1)).1 = (cbTo c s k).1 ++ [bt s k]) := hide (by rw [hhit, hso]; rfl)
          clear hhit hso d0 d1 d2 d3 d4 d5 f0 f1 f2 f3 f4 f5
          go_wp2_with fail
          refine (writeByte_any (w.heap.size + 1) (w.heap.size + 1) _ (bt s k) _ _ HD1.out (by have := HLEN.out k; (try simp only [List.length_append, len_size]); have : k * (c.betw.size + 1) ≤ 65536 * 4097 := Nat.mul_le_mul (by omega) (by omega); omega) (by omega) hbk).mono ?_
          rintro e w9 ⟨rfl, hbd9, hb9⟩
          have HB9 := hide (HB1.out.trans (hb9.mono (by omega)))
          have HN9 := hide (HN1.out.below hb9 (by omega))
          have hz9 := hb9.size
          have HD9 : Hid (Bld (w.heap.size + 1) (w.heap.size + 1) (cbTo c s (k + 1)).1 w9) := hide (by rw [HNX.out]; exact hbd9)
          have HL9 : Hid (LastInv c (k + 1) (cbTo c s (k + 1)).2 (k : Int)) := hide (by rw [cbTo_hit HTT.out]; exact LastInv.hit HTT.out)
          clear hbd9 hb9
          go_wp2_with fail
          go_roundw
          case rel => exact ⟨k + 1, _, by omega, by go_num, rfl, HL9, HD9, HN9, HB9, by omega⟩
          case measure => simp [intOf]; omega
        · subst hv
          have hj0 : (0 : Int) ≤ (j : Int) := by omega
          by_cases hgap : j + 1 < k
          · have hg : (j : Int) + 1 < (k : Int) := by omega
            have htk : tkn c (k : Int) = false := by
              have := hj3 (k - 1) (by omega) (by omega)
              rwa [show (((k - 1 : Nat) : Int) + 1) = (k : Int) by omega] at this
            have HNX : Hid ((cbTo c s (k + 1)).1 = ((cbTo c s k).1 ++ c.betw.data.toList) ++ [bt s k]) := hide (by rw [hhit, hso, htk]; rfl)
            clear hhit hso d0 d1 d2 d3 d4 d5
            go_wp2_with fail
            refine (writeString_any (w.heap.size + 1) (w.heap.size + 1) _ c.betw _ HD1.out (by have := HLEN.out k; have : k * (c.betw.size + 1) ≤ 65536 * 4097 := Nat.mul_le_mul (by omega) (by omega); omega) (by omega)).mono ?_
            rintro e w2 ⟨rfl, hbd2, hb2⟩
            have HB2' := hide (HB1.out.trans (hb2.mono (by omega)))
            have HN2' := hide (HN1.out.below hb2 (by omega))
            have HD2' := hide hbd2
            have hz2' := hb2.size
            clear hbd2 hb2 f0 f1 f2 f3 f4 f5
            go_wp2_with fail
            refine (writeByte_any (w.heap.size + 1) (w.heap.size + 1) _ (bt s k) _ _ HD2'.out (by have := HLEN.out k; (try simp only [List.length_append, len_size]); have : k * (c.betw.size + 1) ≤ 65536 * 4097 := Nat.mul_le_mul (by omega) (by omega); omega) (by omega) hbk).mono ?_
            rintro e w9 ⟨rfl, hbd9, hb9⟩
            have HB9 := hide (HB2'.out.trans (hb9.mono (by omega)))
            have HN9 := hide (HN2'.out.below hb9 (by omega))
            have hz9 := hb9.size
            have HD9 : Hid (Bld (w.heap.size + 1) (w.heap.size + 1) (cbTo c s (k + 1)).1 w9) := hide (by rw [HNX.out]; exact hbd9)
            have HL9 : Hid (LastInv c (k + 1) (cbTo c s (k + 1)).2 (k : Int)) := hide (by rw [cbTo_hit HTT.out]; exact LastInv.hit HTT.out)
            clear hbd9 hb9
            go_wp2_with fail
            go_roundw
            case rel => exact ⟨k + 1, _, by omega, by go_num, rfl, HL9, HD9, HN9, HB9, by omega⟩
            case measure => simp [intOf]; omega
          · have hg : ¬ ((j : Int) + 1 < (k : Int)) := by omega
            have htk : tkn c (k : Int) = true := by
              rwa [show ((j : Int) + 1) = (k : Int) by omega] at hj2
            have HNX : Hid ((cbTo c s (k + 1)).1 = (cbTo c s k).1 ++ [bt s k]) := hide (by rw [hhit, hso, htk]; rfl)
            clear hhit hso d0 d1 d2 d3 d4 d5 f0 f1 f2 f3 f4 f5
            go_wp2_with fail
            refine (writeByte_any (w.heap.size + 1) (w.heap.size + 1) _ (bt s k) _ _ HD1.out (by have := HLEN.out k; (try simp only [List.length_append, len_size]); have : k * (c.betw.size + 1) ≤ 65536 * 4097 := Nat.mul_le_mul (by omega) (by omega); omega) (by omega) hbk).mono ?_
            rintro e w9 ⟨rfl, hbd9, hb9⟩
            have HB9 := hide (HB1.out.trans (hb9.mono (by omega)))
            have HN9 := hide (HN1.out.below hb9 (by omega))
            have hz9 := hb9.size
            have HD9 : Hid (Bld (w.heap.size + 1) (w.heap.size + 1) (cbTo c s (k + 1)).1 w9) := hide (by rw [HNX.out]; exact hbd9)
            have HL9 : Hid (LastInv c (k + 1) (cbTo c s (k + 1)).2 (k : Int)) := hide (by rw [cbTo_hit HTT.out]; exact LastInv.hit HTT.out)
            clear hbd9 hb9
            go_wp2_with fail
            go_roundw
            case rel => exact ⟨k + 1, _, by omega, by go_num, rfl, HL9, HD9, HN9, HB9, by omega⟩
            case measure => simp [intOf]; omega
    · obtain rfl : k = s.size := by omega
      have hd : ¬ ((s.size : Int) < (s.size : Int)) := by omega
      go_wp2_with fail
      refine (bldString_any (w.heap.size + 1) (w.heap.size + 1) _ _ HBD.out hwz).mono ?_
      rintro e w2 ⟨rfl, hb2⟩
      have hbe := HB.out.trans (hb2.mono (by omega))
      go_wp2_with fail
      go_ret
      exact ⟨rfl, hbe⟩
end Go.Proofs.YtkikbejpgfhfoaaGreatDoor
