/- A time is written by a format: text.Date: the program's own walk. -/
import Derived.Test.YtifpmigghplmoaaGreatDoorDateB
set_option linter.unusedVariables false
set_option linter.unusedSimpArgs false
namespace Go.Pw
open Go.RowKit
/-- does a time lie on one of the days -/
def dInB (t : Int) : Bool := decide (-719162 ≤ t / 86400) && decide (t / 86400 ≤ 2932896)
theorem yb_pick (N : Int) (h0 : 0 ≤ N) : ∀ k : Nat, yb (1 + (k : Int)) ≤ N ∨ ∃ y : Int, 1 ≤ y ∧ y ≤ (k : Int) ∧ yb y ≤ N ∧ N < yb (y + 1)
  | 0 => .inl (by show yb 1 ≤ N; have : yb 1 = 0 := by decide
                  omega)
  | k + 1 => by
    rcases yb_pick N h0 k with h | ⟨y, h1, h2, h3, h4⟩
    · rcases Int.lt_or_le N (yb (1 + ((k + 1 : Nat) : Int))) with h' | h'
      · refine .inr ⟨1 + (k : Int), by omega, by omega, h, ?_⟩
        rw [show 1 + (k : Int) + 1 = 1 + ((k + 1 : Nat) : Int) by omega]; exact h'
      · exact .inl h'
    · exact .inr ⟨y, h1, by omega, h3, h4⟩
theorem cum_pick (y d : Int) (h0 : 0 ≤ d) : ∀ k : Nat, cum y k ≤ d ∨ ∃ m : Nat, 1 ≤ m ∧ m ≤ k ∧ cum y (m - 1) ≤ d ∧ d < cum y m
  | 0 => .inl (by simpa [cum] using h0)
  | k + 1 => by
    rcases cum_pick y d h0 k with h | ⟨m, h1, h2, h3, h4⟩
    · rcases Int.lt_or_le d (cum y (k + 1)) with h' | h'
      · exact .inr ⟨k + 1, by omega, by omega, h, h'⟩
      · exact .inl h'
    · exact .inr ⟨m, h1, by omega, h3, h4⟩
theorem civ_ex (n : Int) (h1 : -719162 ≤ n) (h2 : n ≤ 2932896) : ∃ (y : Int) (m : Nat) (d : Int), Civ n y m d := by
  rcases yb_pick (n + 719162) (by omega) 9999 with h | ⟨y, a1, a2, a3, a4⟩
  · have e : yb (1 + ((9999 : Nat) : Int)) = 3652059 := by decide +kernel
    omega
  · rcases cum_pick y (n + 719162 - yb y) (by omega) 12 with h | ⟨m, b1, b2, b3, b4⟩
    · have := year_end a1 a4
      omega
    · exact ⟨y, m, _, a1, a2, a3, a4, b1, b2, b3, b4, rfl⟩
theorem dis_ex {t : Int} (h0 : -9223372036854775808 ≤ t) (h1 : t ≤ 9223372036854775807) (h : dInB t = true) : ∃ (n r y : Int) (m : Nat) (d : Int), DIs t n r y m d := by
  unfold dInB at h
  rw [Bool.and_eq_true, decide_eq_true_iff, decide_eq_true_iff] at h
  obtain ⟨y, m, d, hc⟩ := civ_ex (t / 86400) h.1 h.2
  exact ⟨_, _, y, m, d, hc, h.1, h.2, by omega, by omega, h0, h1, rfl, rfl⟩
end Go.Pw
namespace Go.Proofs.YtifpmigghplmoaaGreatDoor
open Go.RowKit Go.Pw
theorem bld_below {B b : Nat} {l : List UInt8} {w w' : World} (h : Bld B b l w) (hb : Below w.heap.size w w') : Bld B b l w' := by
  have key : ∀ p, Lib.BuilderAt 77 5 B b p (Lib.byteCells l) w → Lib.BuilderAt 77 5 B b p (Lib.byteCells l) w' := by
    intro p hp
    have hlt := hp.lt
    obtain ⟨h1, v, h2, h3, h4⟩ := hp
    refine ⟨h1, v, (hb.block b hlt).trans h2, ?_, h4⟩
    refine h3.kept (row := none) ⟨hb.os, hb.tape, hb.output, hb.size, fun k hk _ => hb.block k hk⟩ ?_
    cases hv : v.ownBlock <;> simp
  rcases h with h | h
  · exact .inl (key _ h)
  · exact .inr (key _ h)
theorem dated_any (t : Int) (w : World) (h0 : -9223372036854775808 ≤ t) (h1 : t ≤ 9223372036854775807) :
    Calls Tryz.prog 29 #[.int .i64 t] w fun e w' => e = .returned (.bool (dInB t)) ∧ Below w.heap.size w w' := by
  have HDV := hide (fun W => divided_any t W h0 h1)
  have HW := hide (fun W => within_any (t / 86400) (-719162) 2932896 W)
  obtain ⟨v, hv⟩ : ∃ v, t / 86400 = v := ⟨_, rfl⟩
  have HIN : Hid (dInB t = (decide (-719162 ≤ v) && decide (v ≤ 2932896))) := hide (by unfold dInB; rw [hv])
  rw [hv] at HW HDV
  clear hv
  go_enter Tryz.func29, Tryz.ntmps29
  go_wp2_with fail
  refine (HDV.out _).mono ?_
  rintro e w' ⟨rfl, rfl⟩
  go_wp2_with fail
  refine (firstDay_any _).mono ?_
  rintro e w1 ⟨rfl, hb1⟩
  have HB1 := hide hb1
  clear hb1
  go_wp2_with fail
  refine (lastDay_any _).mono ?_
  rintro e w2 ⟨rfl, hb2⟩
  have HB2 := hide (HB1.out.trans (hb2.mono HB1.out.size))
  clear hb2
  go_wp2_with fail
  refine (HW.out _).mono ?_
  rintro e w' ⟨rfl, rfl⟩
  rw [← HIN.out]
  go_wp2_with fail
  go_ret
  exact ⟨rfl, HB2.out⟩
theorem Date_large (t : Int) (s : ByteArray) (w : World) (h : 200 < s.size) :
    Calls Tryz.prog 9 #[.int .i64 t, .string s] w fun e w' => e = .returned (.tuple #[.string ⟨#[]⟩, .int .i64 2]) ∧ Below w.heap.size w w' := by
  go_enter Tryz.func9, Tryz.ntmps9
  go_wp2_with fail
  go_ret2
  exact ⟨rfl, Below.refl _ _⟩
set_option maxRecDepth 100000 in
theorem Date_syntax (t : Int) (s : ByteArray) (w : World) (h : s.size ≤ 200) (hp : dParse s.data.toList = none) :
    Calls Tryz.prog 9 #[.int .i64 t, .string s] w fun e w' => e = .returned (.tuple #[.string ⟨#[]⟩, .int .i64 1]) ∧ Below w.heap.size w w' := by
  have HP := hide hp
  have HD := hide (dateParts_any s w h)
  clear hp
  go_enter Tryz.func9, Tryz.ntmps9
  go_wp2_with fail
  refine HD.out.mono ?_
  rintro e w1 (⟨-, rfl, hb1⟩ | ⟨ps, lv, bv, h2, -⟩)
  · have HB1 := hide hb1
    clear hb1
    go_wp2_with fail
    go_ret2
    exact ⟨rfl, HB1.out⟩
  · have := HP.out
    rw [h2] at this; cases this
set_option maxRecDepth 100000 in
theorem Date_range (t : Int) (s : ByteArray) (w : World) (h : s.size ≤ 200) (ps : List (UInt8 × UInt8)) (hp : dParse s.data.toList = some ps) (h0 : -9223372036854775808 ≤ t) (h1 : t ≤ 9223372036854775807) (hin : dInB t = false) :
    Calls Tryz.prog 9 #[.int .i64 t, .string s] w fun e w' => e = .returned (.tuple #[.string ⟨#[]⟩, .int .i64 3]) ∧ Below w.heap.size w w' := by
  have HP := hide hp
  have HD := hide (dateParts_any s w h)
  have HT := hide (fun W => dated_any t W h0 h1)
  rw [hin] at HT
  clear hp hin
  go_enter Tryz.func9, Tryz.ntmps9
  go_wp2_with fail
  refine HD.out.mono ?_
  rintro e w1 (⟨h2, -, -⟩ | ⟨ps', lv, bv, h2, rfl, hd⟩)
  · have := HP.out
    rw [h2] at this; cases this
  · have HB1 := hide hd.bel
    clear hd h2
    go_wp2_with fail
    refine (HT.out _).mono ?_
    rintro e w2 ⟨rfl, hb2⟩
    have HB2 := hide (HB1.out.trans (hb2.mono HB1.out.size))
    clear hb2
    go_wp2_with fail
    go_ret2
    exact ⟨rfl, HB2.out⟩
set_option maxHeartbeats 4000000 in
set_option maxRecDepth 100000 in
theorem Date_good (t : Int) (s : ByteArray) (w : World) (h : s.size ≤ 200) (ps : List (UInt8 × UInt8)) (hp : dParse s.data.toList = some ps) {n r y d : Int} {m : Nat} (hI : DIs t n r y m d) (hT : PowTab w) (hA : SpTab w) :
    Calls Tryz.prog 9 #[.int .i64 t, .string s] w fun e w' => e = .returned (.tuple #[.string (mkB (dText (dMo n r t y m d) ps)), .int .i64 0]) ∧ Below w.heap.size w w' := by
  have HP := hide hp
  have HD := hide (dateParts_any s w h)
  have hin : dInB t = true := by
    unfold dInB
    rw [hI.day, Bool.and_eq_true, decide_eq_true_iff, decide_eq_true_iff]
    exact ⟨hI.lo, hI.hi⟩
  have HDT := hide (fun W => dated_any t W hI.t0 hI.t1)
  rw [hin] at HDT
  have hlet := dParse_letters _ _ (Nat.le_refl _) ps hp
  have HTOLD : Hid (∀ p ∈ ps, p.1 ≠ 0 → ∀ W, Below w.heap.size w W → Calls Tryz.prog 32 #[.int .u8 (p.1.toNat : Int), .int .i64 t] W fun e w' => e = .returned (.string (mkB (dTold (dMo n r t y m d) p.1))) ∧ Below W.heap.size W w') := hide (fun p hpm h0 W hb => told_any hI p.1 ((hlet p hpm).resolve_left h0).1 W (hT.below hb) (hA.below hb))
  have HLN : Hid (∀ c, (dTold (dMo n r t y m d) c).length ≤ 100) := hide (fun c => dTold_len hI.good c)
  have HTX : Hid (∀ qs, (dText (dMo n r t y m d) qs).length ≤ 100 * qs.length) := hide (fun qs => dText_len hI.good qs)
  have hpl : ps.length ≤ 200 := by
    have h1 := dParse_len _ _ (Nat.le_refl _) ps hp
    rw [len_size] at h1; omega
  obtain ⟨X, hX⟩ : ∃ X, dMo n r t y m d = X := ⟨_, rfl⟩
  rw [hX] at HTOLD HLN HTX ⊢
  clear hp hin hlet hX hT hA hI
  go_enter Tryz.func9, Tryz.ntmps9
  go_wp2_with fail
  refine HD.out.mono ?_
  rintro e w1 (⟨h2, -, -⟩ | ⟨ps', lv, bv, h2, rfl, hd⟩)
  · have := HP.out
    rw [h2] at this; cases this
  · have := HP.out
    rw [h2] at this
    obtain rfl := Option.some.inj this
    clear this h2
    have HB1 := hide hd.bel
    have r1 := Rd.of_own hd.l
    have r2 := Rd.of_own hd.b
    rw [List.length_map] at r1 r2
    obtain ⟨_, A1, cap1, rfl, hcap1, hmax1, hx1⟩ := r1
    obtain ⟨_, A2, cap2, rfl, hcap2, hmax2, hx2⟩ := r2
    have HX1 := hide hx1
    have HX2 := hide hx2
    clear hd hx1 hx2
    go_wp2_with fail
    refine (HDT.out _).mono ?_
    rintro e w2 ⟨rfl, hb2⟩
    have HB12 := hide hb2
    have HB2 := hide (HB1.out.trans (hb2.mono HB1.out.size))
    clear hb2
    have HB0 : Hid (Bld w2.heap.size w2.heap.size [] (w2.alloc (.cells #[.pointer none, .slice none 0 0] 77))) := hide (Lib.fresh_isBuilder _ _ w2)
    go_wp2_with fail
    go_loopw [30] (fun i wr => ∃ k : Nat, k ≤ ps'.length ∧ i = .int .i64 (k : Int) ∧ Hid (Bld w2.heap.size w2.heap.size (dText X (ps'.take k)) wr) ∧ Hid (Below w2.heap.size w2 wr)) (fun i _ => ps'.length - (intOf i).toNat)
    case atStart => exact ⟨0, by omega, rfl, HB0, hide ((Below.refl _ _).alloc (Nat.le_refl _) _)⟩
    case round =>
      obtain ⟨k, hk, rfl, HBK, HBW⟩ := hrel
      have HBWW := hide (HB2.out.trans (HBW.out.mono HB2.out.size))
      have HB1W := hide (HB12.out.trans (HBW.out.mono HB12.out.size))
      have hzz := HBW.out.size
      by_cases hlt : k < ps'.length
      · obtain ⟨b1, o1, rfl, hb1, hj1⟩ := HX1.out (by omega)
        obtain ⟨b2, o2, rfl, hb2, hj2⟩ := HX2.out (by omega)
        have hc1 : wr.cell? ⟨b1, o1 + k, none⟩ = some (.int .u8 (ps'[k].1.toNat : Int)) := (HB1W.out.cell (p := ⟨b1, o1 + k, none⟩) hb1).trans (hj1 k _ (by simp [Lib.byteCells, hlt]))
        have hc2 : wr.cell? ⟨b2, o2 + k, none⟩ = some (.int .u8 (ps'[k].2.toNat : Int)) := (HB1W.out.cell (p := ⟨b2, o2 + k, none⟩) hb2).trans (hj2 k _ (by simp [Lib.byteCells, hlt]))
        have HSN : Hid (dText X (ps'.take (k + 1)) = dText X (ps'.take k) ++ (if ps'[k].1 = 0 then [ps'[k].2] else dTold X ps'[k].1)) := hide (by
          rw [List.take_succ_eq_append_getElem hlt, dText_snoc])
        have hl0 : (dText X (ps'.take k)).length ≤ 20000 := by
          have := HTX.out (ps'.take k)
          have h3 := List.length_take_le k ps'
          omega
        have hmem : ps'[k] ∈ ps' := List.getElem_mem hlt
        have HTO := hide (HTOLD.out ps'[k] hmem)
        obtain ⟨⟨c, x⟩, hcx⟩ : ∃ p, ps'[k] = p := ⟨_, rfl⟩
        rw [hcx] at hc1 hc2 HSN HTO
        simp only at hc1 hc2 HSN HTO
        clear hcx hj1 hj2 hmem
        by_cases h0 : c = 0
        · have hcf : ((c.toNat : Int) == 0) = true := by rw [h0]; rfl
          have HSN2 : Hid (dText X (ps'.take (k + 1)) = dText X (ps'.take k) ++ [x]) := hide (by rw [HSN.out, if_pos h0])
          clear h0
          go_wp2_with fail
          refine (writeByte_any _ _ _ x _ _ HBK.out (by omega) hzz rfl).mono ?_
          rintro e w3 ⟨rfl, hb3, hbe3⟩
          rw [← HSN2.out] at hb3
          have HB3 := hide hb3
          have HBE3 := hide (HBW.out.trans hbe3)
          clear hb3 hbe3 hc1 hc2
          go_wp2_with fail
          go_roundw
          case rel => exact ⟨k + 1, by omega, by go_num, HB3, HBE3⟩
          case measure => simp [intOf]; omega
        · have hcf : ((c.toNat : Int) == 0) = false := by
            have : c.toNat ≠ 0 := fun e => h0 (UInt8.toNat_inj.1 e)
            simp; omega
          have HSN2 : Hid (dText X (ps'.take (k + 1)) = dText X (ps'.take k) ++ (mkB (dTold X c)).data.toList) := hide (by rw [HSN.out, if_neg h0]; rfl)
          have HTO2 := hide (HTO.out h0 wr HBWW.out)
          have hsz : (mkB (dTold X c)).size ≤ 100 := by rw [mkB_size]; exact HLN.out c
          obtain ⟨q, hq⟩ : ∃ q, mkB (dTold X c) = q := ⟨_, rfl⟩
          rw [hq] at HSN2 HTO2 hsz
          clear h0 hq
          go_wp2_with fail
          refine HTO2.out.mono ?_
          rintro e w3 ⟨rfl, hb3⟩
          have HBK3 := hide (bld_below HBK.out hb3)
          have HBE3 := hide (HBW.out.trans (hb3.mono hzz))
          have hz3 := HBE3.out.size
          clear hb3 hc1 hc2 HTO2
          go_wp2_with fail
          refine (writeString_any _ _ _ _ _ HBK3.out (by omega) hz3).mono ?_
          rintro e w4 ⟨rfl, hb4, hbe4⟩
          rw [← HSN2.out] at hb4
          have HB4 := hide hb4
          have HBE4 := hide (HBE3.out.trans hbe4)
          clear hb4 hbe4
          go_wp2_with fail
          go_roundw
          case rel => exact ⟨k + 1, by omega, by go_num, HB4, HBE4⟩
          case measure => simp [intOf]; omega
      · obtain rfl : k = ps'.length := by omega
        have hbk := HBK.out
        rw [List.take_length] at hbk
        have HBK2 := hide hbk
        clear hbk
        go_wp2_with fail
        refine (bldString_any _ _ _ _ HBK2.out hzz).mono ?_
        rintro e w3 ⟨rfl, hb3⟩
        have HBE3 := hide (HB2.out.trans ((HBW.out.trans hb3).mono HB2.out.size))
        clear hb3
        go_wp2_with fail
        go_ret2
        exact ⟨rfl, HBE3.out⟩
end Go.Proofs.YtifpmigghplmoaaGreatDoor
