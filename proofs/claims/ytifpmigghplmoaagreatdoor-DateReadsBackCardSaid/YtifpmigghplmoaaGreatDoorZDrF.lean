/- A time is read along a format: the program's reader: result, the walk. -/
import Derived.Test.YtifpmigghplmoaaGreatDoorZDrE
/- DReadM -/
set_option linter.unusedVariables false
set_option linter.unusedSimpArgs false
namespace Go.Pw
open Go.RowKit
def timedH (hs : List (UInt8 × Int)) : Bool := hs.any (fun p => p.1 == 115)
/-- does what was noted tell against the time -/
def clashH (x : DMo) (timed : Bool) (p : UInt8 × Int) : Bool := (timed || decide (p.1 ∈ ([121, 106, 117] : List UInt8))) && decide (p.2 ≠ toldN x p.1)
end Go.Pw
namespace Go.Proofs.YtifpmigghplmoaaGreatDoor
open Go.RowKit Go.Pw Go.Shelf
/-- the time that was noted, if it is one -/
def tH (hs : List (UInt8 × Int)) : Option Int :=
  if timedH hs then (if dInB (lastH hs 115 0) then some (lastH hs 115 0) else none) else
  if okH hs then (if dInB (secH hs) then some (secH hs) else none) else none
/-- that time and its parts -/
def ResO (hs : List (UInt8 × Int)) (o : Option (Int × DMo)) : Prop :=
  match o with
  | none => tH hs = none
  | some (t, X) => tH hs = some t ∧ ∃ n r y m d, DIs t n r y m d ∧ X = dMo n r t y m d
def resV (hs : List (UInt8 × Int)) (o : Option (Int × DMo)) : Int × Int :=
  match o with
  | none => (0, 3)
  | some (t, X) => if hs.any (clashH X (timedH hs)) then (0, 19) else (t, 0)
theorem resO_none {hs : List (UInt8 × Int)} {o : Option (Int × DMo)} (h : ResO hs o) (h0 : tH hs = none) : o = none := by
  cases o with
  | none => rfl
  | some p => obtain ⟨t, X⟩ := p; have := h.1; rw [h0] at this; cases this
theorem resO_some {hs : List (UInt8 × Int)} {o : Option (Int × DMo)} {t : Int} (h : ResO hs o) (h0 : tH hs = some t) : ∃ n r y m d, DIs t n r y m d ∧ o = some (t, dMo n r t y m d) := by
  cases o with
  | none => have h' : tH hs = none := h; rw [h0] at h'; cases h'
  | some p =>
    obtain ⟨t', X⟩ := p
    obtain ⟨h1, n, r, y, m, d, h2, h3⟩ := h
    rw [h0] at h1
    obtain rfl := Option.some.inj h1
    exact ⟨n, r, y, m, d, h2, by rw [h3]⟩
theorem yju_any (c : UInt8) (w : World) : Calls Tryz.prog 42 #[.string ⟨#[121, 106, 117]⟩, .int .u8 (c.toNat : Int)] w fun e w' => e = .returned (.int .i64 (Lib.indexByte [121, 106, 117] c)) ∧ w' = w := by
  have := Tryz.strings_IndexByte ⟨#[121, 106, 117]⟩ (c.toNat : Int) w
  rw [show ((c.toNat : Int)).toNat.toUInt8 = c by simp] at this
  exact this
theorem yju_iff (c : UInt8) : decide (0 ≤ Lib.indexByte [121, 106, 117] c) = decide (c ∈ ([121, 106, 117] : List UInt8)) := by
  have := Lib.contains_iff_indexByte [121, 106, 117] c
  rw [← this]
  by_cases h : c ∈ ([121, 106, 117] : List UInt8)
  · rw [List.contains_iff_mem.2 h, decide_eq_true h]
  · rw [Bool.eq_false_iff.2 (fun e => h (List.contains_iff_mem.1 e)), decide_eq_false h]
theorem atoi_any {x : DMo} (hx : x.good) (ht0 : -10000000000000 < x.t) (ht1 : x.t < 10000000000000) {c : UInt8} (hc : c ∈ noteLs) (w : World) :
    Calls Tryz.prog 54 #[.string (mkB (dTold x c))] w fun e w' => e = .returned (.tuple #[.int .i64 (toldN x c), .nilIface]) ∧ Below w.heap.size w w' := by
  refine (Tryz.strconv_Atoi _ (toldN x c) (told_len hx ht0 ht1 hc) (by rw [mkB_data]; exact atoi_told hx hc) w).mono ?_
  rintro e w' ⟨rfl, t, rfl⟩
  exact ⟨rfl, rfl, rfl, rfl, by rw [Lib.bytesWorld_size]; omega, fun j hj => Lib.bytesWorld_at_old w _ t j hj⟩
theorem noteLs_d {c : UInt8} (h : c ∈ noteLs) : c ∈ dLetters := by
  unfold noteLs at h
  simp only [List.mem_cons, List.not_mem_nil, or_false] at h
  rcases h with rfl | rfl | rfl | rfl | rfl | rfl | rfl | rfl | rfl | rfl <;> decide
theorem dis_t {t n r y d : Int} {m : Nat} (h : DIs t n r y m d) : -10000000000000 < (dMo n r t y m d).t ∧ (dMo n r t y m d).t < 10000000000000 := by
  have h1 := h.lo; have h2 := h.hi; have h3 := h.day
  have h4 : (dMo n r t y m d).t = t := rfl
  rw [h4]; omega
set_option maxHeartbeats 8000000 in
set_option maxRecDepth 100000 in
theorem dres_any (b : Nat) (T : ByteArray) (at_ : Nat) (bad : Bool) (hv : Value) (hs : List (UInt8 × Int)) (w : World) (h : RdRow 47 b T at_ bad hv w) (hin : HsIn w hv hs) (hl : hs.length ≤ 1000000) (hn : NoteOk hs) (hT : PowTab w) (hA : SpTab w) (o : Option (Int × DMo)) (hO : ResO hs o) :
    Calls Tryz.prog 20 #[.pointer (some ⟨b, 0, none⟩)] w fun e w' => e = .returned (.tuple #[.int .i64 (resV hs o).1, .int .i64 (resV hs o).2]) ∧ Below w.heap.size w w' := by
  have HO := hide hO
  have HN := hide hn
  have HT := hide hT
  have HA := hide hA
  have hlt := h.lt
  have HC := hide (containsS_any hv hs w hin hl)
  have HL := hide (fun (c : UInt8) (d : Int) (W : World) (hb : Below w.heap.size w W) => last_any b T at_ bad hv hs c d W ((hb.block b h.lt).trans h) (hin.below hb) hl)
  obtain ⟨r0, r1, r2, r3⟩ := h.cells
  have hin0 := hin
  obtain ⟨_, A, cap, rfl, hcap, hmax, hx⟩ := hin
  have HX := hide hx
  have HR3 := hide r3
  clear hin0 hx hO hn hT hA
  go_enter Tryz.func20, Tryz.ntmps20
  go_wp2_with fail
  refine HC.out.mono ?_
  rintro e w1 ⟨rfl, hb1⟩
  have HB1 := hide hb1
  clear hb1
  obtain ⟨tm, htm⟩ : ∃ tm, hs.any (fun p => p.1 == 115) = tm := ⟨_, rfl⟩
  have HTM : Hid (timedH hs = tm) := hide htm
  rw [htm]
  clear htm
  go_wp2_with fail
  refine (HL.out 115 0 w1 HB1.out).mono ?_
  rintro e w2 ⟨rfl, hb2⟩
  have HB2 := hide (HB1.out.trans (hb2.mono HB1.out.size))
  clear hb2
  cases tm
  · go_wp2_with fail
    refine (HL.out 89 1970 w2 HB2.out).mono ?_
    rintro e w3 ⟨rfl, hb3⟩
    have HB3 := hide (HB2.out.trans (hb3.mono HB2.out.size))
    clear hb3
    go_wp2_with fail
    refine (HL.out 109 1 w3 HB3.out).mono ?_
    rintro e w4 ⟨rfl, hb4⟩
    have HB4 := hide (HB3.out.trans (hb4.mono HB3.out.size))
    clear hb4
    go_wp2_with fail
    refine (HL.out 100 1 w4 HB4.out).mono ?_
    rintro e w5 ⟨rfl, hb5⟩
    have HB5 := hide (HB4.out.trans (hb5.mono HB4.out.size))
    clear hb5
    go_wp2_with fail
    refine (HL.out 72 0 w5 HB5.out).mono ?_
    rintro e w6 ⟨rfl, hb6⟩
    have HB6 := hide (HB5.out.trans (hb6.mono HB5.out.size))
    clear hb6
    go_wp2_with fail
    refine (HL.out 77 0 w6 HB6.out).mono ?_
    rintro e w7 ⟨rfl, hb7⟩
    have HB7 := hide (HB6.out.trans (hb7.mono HB6.out.size))
    clear hb7
    go_wp2_with fail
    refine (HL.out 83 0 w7 HB7.out).mono ?_
    rintro e w8 ⟨rfl, hb8⟩
    have HB8 := hide (HB7.out.trans (hb8.mono HB7.out.size))
    clear hb8
    have HOKD : Hid (okH hs = (dayB (lastH hs 89 1970) (lastH hs 109 1) (lastH hs 100 1) && decide (lastH hs 72 0 ≤ 23) && decide (lastH hs 77 0 ≤ 59) && decide (lastH hs 83 0 ≤ 59))) := hide rfl
    have HSECD : Hid (secH hs = 86400 * dn (lastH hs 89 1970) (lastH hs 109 1).toNat (lastH hs 100 1) + 3600 * lastH hs 72 0 + 60 * lastH hs 77 0 + lastH hs 83 0) := hide rfl
    have HTN : Hid (okH hs = false → tH hs = none) := hide (fun h => by unfold tH; rw [HTM.out, if_neg (by simp), h]; rfl)
    have n1 := HN.out.last (l := 89) (by decide) (d := 1970) (by omega)
    have n2 := HN.out.last (l := 109) (by decide) (d := 1) (by omega)
    have n3 := HN.out.last (l := 100) (by decide) (d := 1) (by omega)
    have n4 := HN.out.last (l := 72) (by decide) (d := 0) (by omega)
    have n5 := HN.out.last (l := 77) (by decide) (d := 0) (by omega)
    have n6 := HN.out.last (l := 83) (by decide) (d := 0) (by omega)
    obtain ⟨y, hy⟩ : ∃ y, lastH hs 89 1970 = y := ⟨_, rfl⟩
    obtain ⟨m, hm⟩ : ∃ m, lastH hs 109 1 = m := ⟨_, rfl⟩
    obtain ⟨d, hd⟩ : ∃ d, lastH hs 100 1 = d := ⟨_, rfl⟩
    obtain ⟨hh, h4⟩ : ∃ x, lastH hs 72 0 = x := ⟨_, rfl⟩
    obtain ⟨mi, h5⟩ : ∃ x, lastH hs 77 0 = x := ⟨_, rfl⟩
    obtain ⟨ss, h6⟩ : ∃ x, lastH hs 83 0 = x := ⟨_, rfl⟩
    rw [hy, hm, hd, h4, h5, h6] at HOKD HSECD
    rw [hy] at n1
    rw [hm] at n2
    rw [hd] at n3
    rw [h4] at n4
    rw [h5] at n5
    rw [h6] at n6
    rw [hy, hm, hd, h4, h5, h6]
    clear hy hm hd h4 h5 h6
    go_wp2_with fail
    refine (isDay_any _ _ _ _).mono ?_
    rintro e w9 ⟨rfl, hb9⟩
    have HB9 := hide (HB8.out.trans (hb9.mono HB8.out.size))
    clear hb9
    cases hdb : dayB y m d
    · rw [hdb] at HOKD
      have HV := hide (resO_none HO.out (by exact HTN.out (by rw [HOKD.out]; rfl)))
      go_wp2_with fail
      go_ret2
      exact ⟨by rw [HV.out]; rfl, HB9.out⟩
    · obtain ⟨g1, g2, g3, g4, g5, g6⟩ := dayB_in hdb
      have g7 := mdays_pos y m.toNat
      rw [hdb] at HOKD
      by_cases k1 : 23 < hh
      · have HF := hide (show decide (hh ≤ 23) = false by simp; omega)
        have HV := hide (resO_none HO.out (by exact HTN.out (by rw [HOKD.out, HF.out]; simp)))
        go_wp2_with fail
        go_ret2
        exact ⟨by rw [HV.out]; rfl, HB9.out⟩
      · by_cases k2 : 59 < mi
        · have HF := hide (show decide (mi ≤ 59) = false by simp; omega)
          have HV := hide (resO_none HO.out (by exact HTN.out (by rw [HOKD.out, HF.out]; simp)))
          go_wp2_with fail
          go_ret2
          exact ⟨by rw [HV.out]; rfl, HB9.out⟩
        · by_cases k3 : 59 < ss
          · have HF := hide (show decide (ss ≤ 59) = false by simp; omega)
            have HV := hide (resO_none HO.out (by exact HTN.out (by rw [HOKD.out, HF.out]; simp)))
            go_wp2_with fail
            go_ret2
            exact ⟨by rw [HV.out]; rfl, HB9.out⟩
          · have HOK : Hid (okH hs = true) := hide (by rw [HOKD.out, decide_eq_true (show hh ≤ 23 by omega), decide_eq_true (show mi ≤ 59 by omega), decide_eq_true (show ss ≤ 59 by omega)]; rfl)
            clear HOKD
            obtain ⟨mn, rfl⟩ : ∃ mn : Nat, m = (mn : Int) := ⟨m.toNat, by omega⟩
            rw [show (mn : Int).toNat = mn from rfl] at HSECD
            have HDN := hide (fun W => dayNumber_any y mn d W (by omega) (by omega) (by omega) (by omega) (by omega) (by omega))
            go_wp2_with fail
            refine (HDN.out _).mono ?_
            rintro e w10 ⟨rfl, hb10⟩
            have HB10 := hide (HB9.out.trans (hb10.mono HB9.out.size))
            clear hb10
            have HNB : -1000000 ≤ dn y mn d ∧ dn y mn d ≤ 9000000 := by
              have a1 := yb_le (y := y) (by omega) (by omega)
              have a2 := cum_le y (mn - 1)
              unfold dn; omega
            obtain ⟨N, hN⟩ : ∃ N, dn y mn d = N := ⟨_, rfl⟩
            rw [hN] at HNB HSECD ⊢
            obtain ⟨N1, q1⟩ : ∃ x, 86400 * N = x := ⟨_, rfl⟩
            obtain ⟨N2, q2⟩ : ∃ x, 3600 * hh = x := ⟨_, rfl⟩
            obtain ⟨N3, q3⟩ : ∃ x, 60 * mi = x := ⟨_, rfl⟩
            have u1 : IntKind.i64.wrap (86400 * N) = N1 := by rw [q1]; exact IntWalk.i64_in _ (by omega)
            have u2 : IntKind.i64.wrap (3600 * hh) = N2 := by rw [q2]; exact IntWalk.i64_in _ (by omega)
            have u3 : IntKind.i64.wrap (60 * mi) = N3 := by rw [q3]; exact IntWalk.i64_in _ (by omega)
            have u4 : IntKind.i64.wrap (N1 + N2) = N1 + N2 := IntWalk.i64_in _ (by omega)
            have u5 : IntKind.i64.wrap (N1 + N2 + N3) = N1 + N2 + N3 := IntWalk.i64_in _ (by omega)
            have u6 : IntKind.i64.wrap (N1 + N2 + N3 + ss) = N1 + N2 + N3 + ss := IntWalk.i64_in _ (by omega)
            have HDA := hide (fun W => dated_any (N1 + N2 + N3 + ss) W (by omega) (by omega))
            rw [q1, q2, q3] at HSECD
            go_wp2_with fail
            refine (HDA.out _).mono ?_
            rintro e w11 ⟨rfl, hb11⟩
            have HB11 := hide (HB10.out.trans (hb11.mono HB10.out.size))
            clear hb11 u1 u2 u3 u4 u5 u6 HDA
            obtain ⟨TT, hTT⟩ : ∃ TT, N1 + N2 + N3 + ss = TT := ⟨_, rfl⟩
            rw [hTT] at HSECD ⊢
            have HSEC : Hid (secH hs = TT) := HSECD
            clear hTT q1 q2 q3 HSECD
            cases hda : dInB TT
            · have HF := hide hda
              have HV := hide (resO_none HO.out (by unfold tH; rw [HTM.out, if_neg (by simp), if_pos HOK.out, if_neg (by rw [HSEC.out, HF.out]; simp)]))
              go_wp2_with fail
              go_ret2
              exact ⟨by rw [HV.out]; rfl, HB11.out⟩
            · -- the loop
              have HS0 : Hid (∃ n r y m d, DIs TT n r y m d ∧ o = some (TT, dMo n r TT y m d)) := hide (resO_some HO.out (by unfold tH; rw [HTM.out]; rw [if_neg (by simp), if_pos HOK.out, HSEC.out, if_pos hda]))
              obtain ⟨n', r', y', m', d', hI, ho⟩ := HS0.out
              have HRV := hide ho
              have HTO : Hid (∀ c ∈ noteLs, ∀ W, Below w.heap.size w W → Calls Tryz.prog 32 #[.int .u8 (c.toNat : Int), .int .i64 TT] W fun e w' => e = .returned (.string (mkB (dTold (dMo n' r' TT y' m' d') c))) ∧ Below W.heap.size W w') := hide (fun c hc W hb => told_any hI c (noteLs_d hc) W (HT.out.below hb) (HA.out.below hb))
              have HAT : Hid (∀ c ∈ noteLs, ∀ W, Calls Tryz.prog 54 #[.string (mkB (dTold (dMo n' r' TT y' m' d') c))] W fun e w' => e = .returned (.tuple #[.int .i64 (toldN (dMo n' r' TT y' m' d') c), .nilIface]) ∧ Below W.heap.size W w') := hide (fun c hc W => atoi_any hI.good (dis_t hI).1 (dis_t hI).2 hc W)
              obtain ⟨X, hX⟩ : ∃ X, dMo n' r' TT y' m' d' = X := ⟨_, rfl⟩
              rw [hX] at HTO HAT HRV
              clear hI hX ho HS0
              have e3 : w11.cell? ⟨b, 3, none⟩ = some (.slice A hs.length cap) := (HB11.out.cell (p := ⟨b, 3, none⟩) hlt).trans HR3.out
              go_wp2_with fail
              go_loopw [75] (fun i wr => ∃ k : Nat, k ≤ hs.length ∧ i = .int .i64 (k : Int) ∧ Hid ((hs.take k).any (clashH X false) = false) ∧ Hid (Below w.heap.size w wr)) (fun i _ => hs.length - (intOf i).toNat)
              case atStart => exact ⟨0, by omega, rfl, hide rfl, HB11⟩
              case round =>
                obtain ⟨k, hk, rfl, HS, HB⟩ := hrel
                by_cases hlt2 : k < hs.length
                · obtain ⟨b', o', rfl, hb', hj⟩ := HX.out (by omega)
                  obtain ⟨a1, a2⟩ := hCells_at hs k hs[k] (List.getElem?_eq_getElem hlt2)
                  have c0 : wr.cell? ⟨b', o' + k * 2, none⟩ = some (.int .u8 (hs[k].1.toNat : Int)) := (HB.out.cell (p := ⟨b', o' + k * 2, none⟩) hb').trans (hj _ _ a1)
                  have c1 : wr.cell? ⟨b', o' + k * 2 + 1, none⟩ = some (.int .i64 hs[k].2) := (HB.out.cell (p := ⟨b', o' + k * 2 + 1, none⟩) hb').trans (hj (k * 2 + 1) _ a2)
                  have HNX : Hid ((hs.take (k + 1)).any (clashH X false) = clashH X false hs[k]) := hide (by rw [List.take_succ_eq_append_getElem hlt2, List.any_append, HS.out]; simp)
                  have HAL : Hid (clashH X false hs[k] = true → hs.any (clashH X false) = true) := hide (fun h => List.any_eq_true.2 ⟨_, List.getElem_mem hlt2, h⟩)
                  have HNL : Hid (hs[k].1 ∈ noteLs) := hide (HN.out _ (List.getElem_mem hlt2)).1
                  obtain ⟨⟨q1, q2⟩, hr⟩ : ∃ x, hs[k] = x := ⟨_, rfl⟩
                  rw [hr] at c0 c1 HNX HAL HNL
                  simp only at c0 c1 HNX HAL HNL
                  have HT1 := hide (HTO.out q1 HNL.out)
                  have HA1 := hide (HAT.out q1 HNL.out)
                  have HY1 := hide (fun W => yju_any q1 W)
                  have HYI := hide (yju_iff q1)
                  obtain ⟨ix, hix⟩ : ∃ ix, Lib.indexByte [121, 106, 117] q1 = ix := ⟨_, rfl⟩
                  rw [hix] at HYI
                  simp only [hix] at HY1
                  obtain ⟨st, hst⟩ : ∃ st, mkB (dTold X q1) = st := ⟨_, rfl⟩
                  rw [hst] at HA1 HT1
                  have HCL : Hid (clashH X false (q1, q2) = ((false || decide (q1 ∈ ([121, 106, 117] : List UInt8))) && decide (q2 ≠ toldN X q1))) := hide rfl
                  obtain ⟨N', hN'⟩ : ∃ N', toldN X q1 = N' := ⟨_, rfl⟩
                  rw [hN'] at HA1 HCL
                  clear hj a1 a2 hr hix hst hN'
                  have hd : (k : Int) < (hs.length : Int) := by omega
                  have HBA := hide (HB.out.alloc HB.out.size (.cells #[.int .u8 (q1.toNat : Int), .int .i64 q2] 108))
                  have HA0 : Hid ((wr.alloc (.cells #[.int .u8 (q1.toNat : Int), .int .i64 q2] 108)).cell? ⟨wr.heap.size, 0, none⟩ = some (.int .u8 (q1.toNat : Int))) := hide (by rw [World.cell?_alloc_new]; rfl)
                  have HAA1 : Hid ((wr.alloc (.cells #[.int .u8 (q1.toNat : Int), .int .i64 q2] 108)).cell? ⟨wr.heap.size, 1, none⟩ = some (.int .i64 q2)) := hide (by rw [World.cell?_alloc_new]; rfl)
                  have hzr := HB.out.size
                  go_wp2_with fail
                  refine (HT1.out _ HBA.out).mono ?_
                  rintro e v1 ⟨rfl, hb1⟩
                  have HBX1 := hide (HBA.out.trans (hb1.mono HBA.out.size))
                  have HD0 := hide ((hb1.cell (p := ⟨wr.heap.size, 0, none⟩) (by simp)).trans HA0.out)
                  have HD1 := hide ((hb1.cell (p := ⟨wr.heap.size, 1, none⟩) (by simp)).trans HAA1.out)
                  have hzv : wr.heap.size < v1.heap.size := by have := hb1.size; simp at this; omega
                  clear hb1
                  go_wp2_with fail
                  refine (HA1.out _).mono ?_
                  rintro e v2 ⟨rfl, hb2⟩
                  have HBX2 := hide (HBX1.out.trans (hb2.mono HBX1.out.size))
                  have d0 := (hb2.cell (p := ⟨wr.heap.size, 0, none⟩) hzv).trans HD0.out
                  have d1 := (hb2.cell (p := ⟨wr.heap.size, 1, none⟩) hzv).trans HD1.out
                  clear hb2 HD0 HD1
                  by_cases hne : N' = q2
                  · have hcl : clashH X false (q1, q2) = false := by rw [HCL.out, show decide (q2 ≠ N') = false by simp [hne]]; simp
                    have HCF := hide (HNX.out.trans hcl)
                    clear hcl
                    have hnq : (N' != q2) = false := by simp [hne]
                    clear hne
                    go_wp2_with fail
                    go_roundw
                    case rel => exact ⟨k + 1, by omega, by go_num, HCF, HBX2⟩
                    case measure => simp [intOf]; omega
                  · have hnq : (N' != q2) = true := by simp [hne]
                    have hdn : decide (q2 ≠ N') = true := by simp; exact fun e => hne e.symm
                    have HDN := hide hdn
                    clear hne hdn
                    by_cases hy : q1 ∈ ([121, 106, 117] : List UInt8)
                    · have hdy : decide (q1 ∈ ([121, 106, 117] : List UInt8)) = true := decide_eq_true hy
                      have HDY := hide hdy
                      have hyi := HYI.out
                      rw [hdy] at hyi
                      have hix : 0 ≤ ix := of_decide_eq_true hyi
                      clear hyi hdy hy
                      go_wp2_with fail
                      refine (HY1.out _).mono ?_
                      rintro e v3 ⟨rfl, rfl⟩
                      have HFV : Hid (resV hs o = (0, 19)) := hide (by rw [HRV.out]; show (if hs.any (clashH X (timedH hs)) then _ else _) = _; rw [HTM.out, HAL.out (by rw [HCL.out, HDN.out, HDY.out]; rfl)]; rfl)
                      go_wp2_with fail
                      go_ret2
                      exact ⟨by rw [HFV.out]; rfl, HBX2.out⟩
                    · have hdy : decide (q1 ∈ ([121, 106, 117] : List UInt8)) = false := decide_eq_false hy
                      have hcl : clashH X false (q1, q2) = false := by rw [HCL.out, hdy]; rfl
                      have HCF := hide (HNX.out.trans hcl)
                      have hyi := HYI.out
                      rw [hdy] at hyi
                      have hix : ¬ 0 ≤ ix := of_decide_eq_false hyi
                      clear hyi hdy hy hcl
                      go_wp2_with fail
                      refine (HY1.out _).mono ?_
                      rintro e v3 ⟨rfl, rfl⟩
                      go_wp2_with fail
                      go_roundw
                      case rel => exact ⟨k + 1, by omega, by go_num, HCF, HBX2⟩
                      case measure => simp [intOf]; omega
                · obtain rfl : k = hs.length := by omega
                  have hd : ¬ ((hs.length : Int) < (hs.length : Int)) := by omega
                  rw [List.take_length] at HS
                  have HFV : Hid (resV hs o = (TT, 0)) := hide (by rw [HRV.out]; show (if hs.any (clashH X (timedH hs)) then _ else _) = _; rw [HTM.out, HS.out]; rfl)
                  go_wp2_with fail
                  go_ret2
                  exact ⟨by rw [HFV.out]; rfl, HB.out⟩
  · have n0 := HN.out.last64 (l := 115) (d := 0) (by omega)
    obtain ⟨t, ht⟩ : ∃ t, lastH hs 115 0 = t := ⟨_, rfl⟩
    rw [ht] at n0 ⊢
    have HLT := hide ht
    have HDA := hide (fun W => dated_any t W n0.1 n0.2)
    clear ht
    go_wp2_with fail
    refine (HDA.out _).mono ?_
    rintro e w3 ⟨rfl, hb3⟩
    have HB3 := hide (HB2.out.trans (hb3.mono HB2.out.size))
    clear hb3
    cases hda : dInB t
    · have HF := hide hda
      have HV := hide (resO_none HO.out (by unfold tH; rw [HTM.out, if_pos rfl, if_neg (by rw [HLT.out, HF.out]; simp)]))
      go_wp2_with fail
      go_ret2
      exact ⟨by rw [HV.out]; rfl, HB3.out⟩
    · -- the loop
      have HS0 : Hid (∃ n r y m d, DIs t n r y m d ∧ o = some (t, dMo n r t y m d)) := hide (resO_some HO.out (by unfold tH; rw [HTM.out]; rw [if_pos rfl, HLT.out, if_pos hda]))
      obtain ⟨n', r', y', m', d', hI, ho⟩ := HS0.out
      have HRV := hide ho
      have HTO : Hid (∀ c ∈ noteLs, ∀ W, Below w.heap.size w W → Calls Tryz.prog 32 #[.int .u8 (c.toNat : Int), .int .i64 t] W fun e w' => e = .returned (.string (mkB (dTold (dMo n' r' t y' m' d') c))) ∧ Below W.heap.size W w') := hide (fun c hc W hb => told_any hI c (noteLs_d hc) W (HT.out.below hb) (HA.out.below hb))
      have HAT : Hid (∀ c ∈ noteLs, ∀ W, Calls Tryz.prog 54 #[.string (mkB (dTold (dMo n' r' t y' m' d') c))] W fun e w' => e = .returned (.tuple #[.int .i64 (toldN (dMo n' r' t y' m' d') c), .nilIface]) ∧ Below W.heap.size W w') := hide (fun c hc W => atoi_any hI.good (dis_t hI).1 (dis_t hI).2 hc W)
      obtain ⟨X, hX⟩ : ∃ X, dMo n' r' t y' m' d' = X := ⟨_, rfl⟩
      rw [hX] at HTO HAT HRV
      clear hI hX ho HS0
      have e3 : w3.cell? ⟨b, 3, none⟩ = some (.slice A hs.length cap) := (HB3.out.cell (p := ⟨b, 3, none⟩) hlt).trans HR3.out
      go_wp2_with fail
      go_loopw [75] (fun i wr => ∃ k : Nat, k ≤ hs.length ∧ i = .int .i64 (k : Int) ∧ Hid ((hs.take k).any (clashH X true) = false) ∧ Hid (Below w.heap.size w wr)) (fun i _ => hs.length - (intOf i).toNat)
      case atStart => exact ⟨0, by omega, rfl, hide rfl, HB3⟩
      case round =>
        obtain ⟨k, hk, rfl, HS, HB⟩ := hrel
        by_cases hlt2 : k < hs.length
        · obtain ⟨b', o', rfl, hb', hj⟩ := HX.out (by omega)
          obtain ⟨a1, a2⟩ := hCells_at hs k hs[k] (List.getElem?_eq_getElem hlt2)
          have c0 : wr.cell? ⟨b', o' + k * 2, none⟩ = some (.int .u8 (hs[k].1.toNat : Int)) := (HB.out.cell (p := ⟨b', o' + k * 2, none⟩) hb').trans (hj _ _ a1)
          have c1 : wr.cell? ⟨b', o' + k * 2 + 1, none⟩ = some (.int .i64 hs[k].2) := (HB.out.cell (p := ⟨b', o' + k * 2 + 1, none⟩) hb').trans (hj (k * 2 + 1) _ a2)
          have HNX : Hid ((hs.take (k + 1)).any (clashH X true) = clashH X true hs[k]) := hide (by rw [List.take_succ_eq_append_getElem hlt2, List.any_append, HS.out]; simp)
          have HAL : Hid (clashH X true hs[k] = true → hs.any (clashH X true) = true) := hide (fun h => List.any_eq_true.2 ⟨_, List.getElem_mem hlt2, h⟩)
          have HNL : Hid (hs[k].1 ∈ noteLs) := hide (HN.out _ (List.getElem_mem hlt2)).1
          obtain ⟨⟨q1, q2⟩, hr⟩ : ∃ x, hs[k] = x := ⟨_, rfl⟩
          rw [hr] at c0 c1 HNX HAL HNL
          simp only at c0 c1 HNX HAL HNL
          have HT1 := hide (HTO.out q1 HNL.out)
          have HA1 := hide (HAT.out q1 HNL.out)
          have HY1 := hide (fun W => yju_any q1 W)
          have HYI := hide (yju_iff q1)
          obtain ⟨ix, hix⟩ : ∃ ix, Lib.indexByte [121, 106, 117] q1 = ix := ⟨_, rfl⟩
          rw [hix] at HYI
          simp only [hix] at HY1
          obtain ⟨st, hst⟩ : ∃ st, mkB (dTold X q1) = st := ⟨_, rfl⟩
          rw [hst] at HA1 HT1
          have HCL : Hid (clashH X true (q1, q2) = ((true || decide (q1 ∈ ([121, 106, 117] : List UInt8))) && decide (q2 ≠ toldN X q1))) := hide rfl
          obtain ⟨N', hN'⟩ : ∃ N', toldN X q1 = N' := ⟨_, rfl⟩
          rw [hN'] at HA1 HCL
          clear hj a1 a2 hr hix hst hN'
          have hd : (k : Int) < (hs.length : Int) := by omega
          have HBA := hide (HB.out.alloc HB.out.size (.cells #[.int .u8 (q1.toNat : Int), .int .i64 q2] 108))
          have HA0 : Hid ((wr.alloc (.cells #[.int .u8 (q1.toNat : Int), .int .i64 q2] 108)).cell? ⟨wr.heap.size, 0, none⟩ = some (.int .u8 (q1.toNat : Int))) := hide (by rw [World.cell?_alloc_new]; rfl)
          have HAA1 : Hid ((wr.alloc (.cells #[.int .u8 (q1.toNat : Int), .int .i64 q2] 108)).cell? ⟨wr.heap.size, 1, none⟩ = some (.int .i64 q2)) := hide (by rw [World.cell?_alloc_new]; rfl)
          have hzr := HB.out.size
          go_wp2_with fail
          refine (HT1.out _ HBA.out).mono ?_
          rintro e v1 ⟨rfl, hb1⟩
          have HBX1 := hide (HBA.out.trans (hb1.mono HBA.out.size))
          have HD0 := hide ((hb1.cell (p := ⟨wr.heap.size, 0, none⟩) (by simp)).trans HA0.out)
          have HD1 := hide ((hb1.cell (p := ⟨wr.heap.size, 1, none⟩) (by simp)).trans HAA1.out)
          have hzv : wr.heap.size < v1.heap.size := by have := hb1.size; simp at this; omega
          clear hb1
          go_wp2_with fail
          refine (HA1.out _).mono ?_
          rintro e v2 ⟨rfl, hb2⟩
          have HBX2 := hide (HBX1.out.trans (hb2.mono HBX1.out.size))
          have d0 := (hb2.cell (p := ⟨wr.heap.size, 0, none⟩) hzv).trans HD0.out
          have d1 := (hb2.cell (p := ⟨wr.heap.size, 1, none⟩) hzv).trans HD1.out
          clear hb2 HD0 HD1
          by_cases hne : N' = q2
          · have hcl : clashH X true (q1, q2) = false := by rw [HCL.out, show decide (q2 ≠ N') = false by simp [hne]]; simp
            have HCF := hide (HNX.out.trans hcl)
            clear hcl
            have hnq : (N' != q2) = false := by simp [hne]
            clear hne
            go_wp2_with fail
            go_roundw
            case rel => exact ⟨k + 1, by omega, by go_num, HCF, HBX2⟩
            case measure => simp [intOf]; omega
          · have hnq : (N' != q2) = true := by simp [hne]
            have hdn : decide (q2 ≠ N') = true := by simp; exact fun e => hne e.symm
            have HDN := hide hdn
            clear hne hdn
            have HFV : Hid (resV hs o = (0, 19)) := hide (by rw [HRV.out]; show (if hs.any (clashH X (timedH hs)) then _ else _) = _; rw [HTM.out, HAL.out (by rw [HCL.out, HDN.out]; rfl)]; rfl)
            go_wp2_with fail
            go_ret2
            exact ⟨by rw [HFV.out]; rfl, HBX2.out⟩
        · obtain rfl : k = hs.length := by omega
          have hd : ¬ ((hs.length : Int) < (hs.length : Int)) := by omega
          rw [List.take_length] at HS
          have HFV : Hid (resV hs o = (t, 0)) := hide (by rw [HRV.out]; show (if hs.any (clashH X (timedH hs)) then _ else _) = _; rw [HTM.out, HS.out]; rfl)
          go_wp2_with fail
          go_ret2
          exact ⟨by rw [HFV.out]; rfl, HB.out⟩
end Go.Proofs.YtifpmigghplmoaaGreatDoor

/- DReadT -/
set_option linter.unusedVariables false
set_option linter.unusedSimpArgs false
namespace Go.Pw
open Go.RowKit
theorem stepsOf_take {ps : List (UInt8 × UInt8)} {k : Nat} (h : k < ps.length) : stepsOf (ps.take (k + 1)) = stepsOf (ps.take k) ++ (if ps[k].1 = 0 then [.byte ps[k].2] else expand ps[k].1) := by
  rw [List.take_succ_eq_append_getElem h, stepsOf_snoc]
theorem stepsOf_app (a b : List (UInt8 × UInt8)) : stepsOf (a ++ b) = stepsOf a ++ stepsOf b := by unfold stepsOf; rw [List.flatMap_append]
theorem rdL_stop {T : List UInt8} {ps : List (UInt8 × UInt8)} {k q : Nat} (h : rdL T (stepsOf (ps.take k)) 0 [] = .inl q) : rdL T (stepsOf ps) 0 [] = .inl q := by
  have e : stepsOf ps = stepsOf (ps.take k) ++ stepsOf (ps.drop k) := by rw [← stepsOf_app, List.take_append_drop]
  rw [e, rdL_append, h]; rfl
theorem DirP.start (T : List UInt8) : DirP T [] false 0 [] false 0 [] :=
  ⟨(fun e => by cases e), fun _ => .inr ⟨[], rfl, rfl, rfl⟩, by simp, fun e => e⟩
end Go.Pw
namespace Go.Proofs.YtifpmigghplmoaaGreatDoor
open Go.RowKit Go.Pw Go.Shelf
/-- what ParseDate returns behind the reading -/
def outV (n : Nat) (R : Sum Nat (Nat × List It)) (o : Option (Int × DMo)) : Int × Int × Int :=
  match R with
  | .inl q => (0, (q : Int), 1)
  | .inr (a, its) => if a < n then (0, (a : Int), 1) else ((resV (its.map nt) o).1, 0, (resV (its.map nt) o).2)
theorem PDate_large (t s : ByteArray) (w : World) (h : 200 < s.size ∨ 65536 < t.size) :
    Calls Tryz.prog 6 #[.string t, .string s] w fun e w' => e = .returned (.tuple #[.int .i64 0, .int .i64 0, .int .i64 2]) ∧ Below w.heap.size w w' := by
  by_cases h1 : 200 < s.size
  · clear h
    go_enter Tryz.func6, Tryz.ntmps6
    go_wp2_with fail
    go_ret3
    exact ⟨rfl, Below.refl _ _⟩
  · have h2 : 65536 < t.size := h.resolve_left h1
    clear h
    go_enter Tryz.func6, Tryz.ntmps6
    go_wp2_with fail
    go_ret3
    exact ⟨rfl, Below.refl _ _⟩
set_option maxRecDepth 100000 in
theorem PDate_syntax (t s : ByteArray) (w : World) (h : s.size ≤ 200) (ht : t.size ≤ 65536) (hp : dParse s.data.toList = none) :
    Calls Tryz.prog 6 #[.string t, .string s] w fun e w' => e = .returned (.tuple #[.int .i64 0, .int .i64 0, .int .i64 1]) ∧ Below w.heap.size w w' := by
  have HP := hide hp
  have HD := hide (dateParts_any s w h)
  clear hp
  go_enter Tryz.func6, Tryz.ntmps6
  go_wp2_with fail
  refine HD.out.mono ?_
  rintro e w1 (⟨-, rfl, hb1⟩ | ⟨ps, lv, bv, h2, -⟩)
  · have HB1 := hide hb1
    clear hb1
    go_wp2_with fail
    go_ret3
    exact ⟨rfl, HB1.out⟩
  · have := HP.out
    rw [h2] at this; cases this
set_option maxHeartbeats 8000000 in
set_option maxRecDepth 100000 in
theorem PDate_any (t s : ByteArray) (w : World) (h : s.size ≤ 200) (ht : t.size ≤ 65536) (ps : List (UInt8 × UInt8)) (hp : dParse s.data.toList = some ps) (R : Sum Nat (Nat × List It)) (hR : rdL t.data.toList (stepsOf ps) 0 [] = R) (o : Option (Int × DMo)) (hO : ∀ a its, R = .inr (a, its) → ResO (its.map nt) o) (hT : PowTab w) (hA : SpTab w) :
    Calls Tryz.prog 6 #[.string t, .string s] w fun e w' => e = .returned (.tuple #[.int .i64 (outV t.size R o).1, .int .i64 (outV t.size R o).2.1, .int .i64 (outV t.size R o).2.2]) ∧ Below w.heap.size w w' := by
  have HP := hide hp
  have HLS := hide (len_size t)
  have HD := hide (dateParts_any s w h)
  have hlet := dParse_letters _ _ (Nat.le_refl _) ps hp
  have HLET : Hid (∀ p ∈ ps, p.1 = 0 ∨ p.1 ∈ dLetters) := hide (fun p hpm => (hlet p hpm).imp id (fun x => x.1))
  have hpl : ps.length ≤ 200 := by
    have h1 := dParse_len _ _ (Nat.le_refl _) ps hp
    rw [len_size] at h1; omega
  have HSL : Hid (∀ k, (stepsOf (ps.take k)).length ≤ 1000) := hide (fun k => by
    have h1 := stepsOf_len (ps.take k)
    have h3 : (ps.take k).length ≤ ps.length := by rw [List.length_take]; omega
    omega)
  have HRR := hide hR
  have HO := hide hO
  have HT := hide hT
  have HA := hide hA
  clear hp hlet hR hO hT hA
  go_enter Tryz.func6, Tryz.ntmps6
  go_wp2_with fail
  refine HD.out.mono ?_
  rintro e w1 (⟨h2, -, -⟩ | ⟨ps', lv, bv, h2, rfl, hd⟩)
  · have := HP.out
    rw [h2] at this; cases this
  · have := HP.out
    rw [h2] at this
    obtain rfl := Option.some.inj this
    clear this h2
    have HB1 := hide hd.bel
    have r1 := Rd.of_own hd.l
    have r2 := Rd.of_own hd.b
    rw [List.length_map] at r1 r2
    obtain ⟨_, A1, cap1, rfl, hcap1, hmax1, hx1⟩ := r1
    obtain ⟨_, A2, cap2, rfl, hcap2, hmax2, hx2⟩ := r2
    have HX1 := hide hx1
    have HX2 := hide hx2
    have hz1 := HB1.out.size
    clear hd hx1 hx2
    have HST0 : Hid (RSt 47 108 w1.heap.size t 0 false [] (w1.alloc (.cells #[.string t, .int .i64 0, .bool false, .slice none 0 0] 47))) := hide ⟨.slice none 0 0, heap_alloc_new w1 _, World.ownsRow_nil _ _ _ _⟩
    go_wp2_with fail
    have HBA : Hid (Below w1.heap.size w1 (w1.alloc (.cells #[.string t, .int .i64 0, .bool false, .slice none 0 0] 47))) := hide ((Below.refl _ _).alloc (Nat.le_refl _) _)
    go_loopw [36] (fun i wr => ∃ (k at' : Nat) (hs : List (UInt8 × Int)), k ≤ ps'.length ∧ i = .int .i64 (k : Int) ∧ Hid (RSt 47 108 w1.heap.size t at' false hs wr) ∧ Hid (DirP t.data.toList (stepsOf (ps'.take k)) false 0 [] false at' hs) ∧ Hid (Below w1.heap.size w1 wr)) (fun i _ => ps'.length - (intOf i).toNat)
    case atStart => exact ⟨0, 0, [], by omega, rfl, HST0, hide (DirP.start _), HBA⟩
    case round =>
      obtain ⟨k, at', hs, hk, rfl, HST, HD, HB⟩ := hrel
      have HB2 := HB1
      have HBW := hide (HB1.out.trans (HB.out.mono HB1.out.size))
      have hat : at' ≤ t.size := by have h1 := HD.out.le (Nat.zero_le _); have h2 := HLS.out; omega
      have hhl : hs.length ≤ 1000 := by have h1 := HD.out.len; have h2 := HSL.out k; simp at h1; omega
      by_cases hlt : k < ps'.length
      · obtain ⟨b1, o1, rfl, hb1, hj1⟩ := HX1.out (by omega)
        obtain ⟨b2, o2, rfl, hb2, hj2⟩ := HX2.out (by omega)
        have c1 : wr.cell? ⟨b1, o1 + k, none⟩ = some (.int .u8 (ps'[k].1.toNat : Int)) := (HB.out.cell (p := ⟨b1, o1 + k, none⟩) hb1).trans (hj1 k _ (by simp [Lib.byteCells, hlt]))
        have c2 : wr.cell? ⟨b2, o2 + k, none⟩ = some (.int .u8 (ps'[k].2.toNat : Int)) := (HB.out.cell (p := ⟨b2, o2 + k, none⟩) hb2).trans (hj2 k _ (by simp [Lib.byteCells, hlt]))
        have HSK0 := hide (stepsOf_take hlt)
        have HLC := hide (HLET.out _ (List.getElem_mem hlt))
        obtain ⟨⟨c, x⟩, hcx⟩ : ∃ p, ps'[k] = p := ⟨_, rfl⟩
        rw [hcx] at c1 c2 HSK0 HLC
        simp only at c1 c2 HSK0 HLC
        clear hcx hj1 hj2
        by_cases h0 : c = 0
        · have hcf : ((c.toNat : Int) == 0) = true := by rw [h0]; rfl
          have HSK : Hid (stepsOf (ps'.take (k + 1)) = stepsOf (ps'.take k) ++ [.byte x]) := hide (by rw [HSK0.out, if_pos h0])
          clear h0 HSK0
          go_wp2_with fail
          refine (byteP x wr HST.out hat (by omega)).mono ?_
          rintro e w3 ⟨rfl, hb3, bad3, at3, hs3, hst3, hd3⟩
          obtain ⟨hv3, hr3, ho3⟩ := hst3
          have HR3 := hide hr3
          have HO3 := hide ho3
          have HD3 : Hid (DirP t.data.toList (stepsOf (ps'.take (k + 1))) false 0 [] bad3 at3 hs3) := hide (by rw [HSK.out]; exact HD.out.trans hd3)
          have HB3 := hide (HB.out.trans hb3)
          obtain ⟨f0, f1, f2, f3⟩ := hr3.cells
          clear hb3 hr3 ho3 hd3 c1 c2
          cases bad3
          · go_wp2_with fail
            go_roundw
            case rel => exact ⟨k + 1, at3, hs3, by omega, by go_num, hide ⟨hv3, HR3.out, HO3.out⟩, HD3, HB3⟩
            case measure => simp [intOf]; omega
          · have HV : Hid (R = .inl at3) := hide (by
              rw [← HRR.out]
              rcases HD3.out.go rfl with ⟨g1, g2⟩ | ⟨its, g1, g2, g3⟩
              · exact rdL_stop g1
              · cases g2)
            go_wp2_with fail
            go_quiet (fail)
            go_wp2_with fail
            go_ret3
            exact ⟨by rw [HV.out]; rfl, below_drewN (HB2.out.trans (HB3.out.mono HB2.out.size)) _⟩
        · have hcf : ((c.toNat : Int) == 0) = false := by
            have : c.toNat ≠ 0 := fun e => h0 (UInt8.toNat_inj.1 e)
            simp; omega
          have HSK : Hid (stepsOf (ps'.take (k + 1)) = stepsOf (ps'.take k) ++ expand c) := hide (by rw [HSK0.out, if_neg h0])
          have HMC := hide (HLC.out.resolve_left h0)
          clear h0 HSK0
          go_wp2_with fail
          refine (directive_any c HMC.out _ t at' false hs wr HST.out hat (by omega) (by omega) (HA.out.below HBW.out)).mono ?_
          rintro e w3 ⟨rfl, hb3, bad3, at3, hs3, hst3, hd3⟩
          obtain ⟨hv3, hr3, ho3⟩ := hst3
          have HR3 := hide hr3
          have HO3 := hide ho3
          have HD3 : Hid (DirP t.data.toList (stepsOf (ps'.take (k + 1))) false 0 [] bad3 at3 hs3) := hide (by rw [HSK.out]; exact HD.out.trans hd3)
          have HB3 := hide (HB.out.trans hb3)
          obtain ⟨f0, f1, f2, f3⟩ := hr3.cells
          clear hb3 hr3 ho3 hd3 c1 c2
          cases bad3
          · go_wp2_with fail
            go_roundw
            case rel => exact ⟨k + 1, at3, hs3, by omega, by go_num, hide ⟨hv3, HR3.out, HO3.out⟩, HD3, HB3⟩
            case measure => simp [intOf]; omega
          · have HV : Hid (R = .inl at3) := hide (by
              rw [← HRR.out]
              rcases HD3.out.go rfl with ⟨g1, g2⟩ | ⟨its, g1, g2, g3⟩
              · exact rdL_stop g1
              · cases g2)
            go_wp2_with fail
            go_quiet (fail)
            go_wp2_with fail
            go_ret3
            exact ⟨by rw [HV.out]; rfl, below_drewN (HB2.out.trans (HB3.out.mono HB2.out.size)) _⟩
      · obtain rfl : k = ps'.length := by omega
        have hd : ¬ ((ps'.length : Int) < (ps'.length : Int)) := by omega
        have hdd := HD.out
        rw [List.take_length] at hdd
        obtain ⟨its, hrd, hhs⟩ : ∃ its, rdL t.data.toList (stepsOf ps') 0 [] = .inr (at', its) ∧ hs = its.map nt := by
          rcases hdd.go rfl with ⟨g1, g2⟩ | ⟨its, g1, g2, g3⟩
          · cases g2
          · exact ⟨its, g1, by simpa using g3⟩
        have HRV : Hid (R = .inr (at', its)) := hide (by rw [← HRR.out, hrd])
        have HHS := hide hhs
        have HNO : Hid (NoteOk hs) := hide (by rw [hhs]; exact noteOk_of (rdL_in _ _ _ _ _ (stepsOf_ok HLET.out) (fun i hi => by cases hi) hrd))
        obtain ⟨hv3, hr3, ho3⟩ := HST.out
        have HR3 := hide hr3
        have HO3 := hide ho3
        obtain ⟨f0, f1, f2, f3⟩ := hr3.cells
        clear hdd hrd hhs hr3 ho3
        by_cases hend : at' < t.size
        · have hq : (at' : Int) < (t.size : Int) := by omega
          have HV : Hid (outV t.size R o = (0, (at' : Int), 1)) := hide (by rw [HRV.out]; show (if at' < t.size then _ else _) = _; rw [if_pos hend])
          clear hend
          go_wp2_with fail
          go_quiet (fail)
          go_wp2_with fail
          go_ret3
          exact ⟨by rw [HV.out]; rfl, below_drewN HBW.out _⟩
        · have hq : ¬ (at' : Int) < (t.size : Int) := by omega
          have HV : Hid (outV t.size R o = ((resV hs o).1, 0, (resV hs o).2)) := hide (by rw [HRV.out, HHS.out]; show (if at' < t.size then _ else _) = _; rw [if_neg hend])
          have HRES := hide (dres_any _ t at' false hv3 hs wr HR3.out (Rd.of_own HO3.out) (by omega) HNO.out (HT.out.below HBW.out) (HA.out.below HBW.out) o (by rw [HHS.out]; exact HO.out _ _ HRV.out))
          clear hend
          go_wp2_with fail
          refine HRES.out.mono ?_
          rintro e w4 ⟨rfl, hb4⟩
          have HB4 := hide (HBW.out.trans (hb4.mono HBW.out.size))
          clear hb4
          go_wp2_with fail
          go_ret3
          exact ⟨by rw [HV.out]; rfl, HB4.out⟩
end Go.Proofs.YtifpmigghplmoaaGreatDoor
