/- Printf: the program's main loop. -/
import Derived.Test.YtifpmigghplmoaaGreatDoorZPfX
set_option linter.unusedVariables false
set_option linter.unusedSimpArgs false
namespace Go.Proofs.YtifpmigghplmoaaGreatDoor
open Go.RowKit Go.Pw Go.Shelf
def lenV (v : Value) : Nat := match v with | .slice _ n _ => n | _ => 0
def msr (L : Nat) (rv av : Value) : Nat := if intOf rv = 0 then L + 2 else lenV av + 1
theorem msr_step {L n n2 r c c2 : Nat} {B B2 : Option Addr} (h : n2 ≤ n) (h1 : r ≠ 0 → n2 < n) (h3 : n ≤ L) : msr L (.int .i64 ((r : Int) + 1)) (.slice B2 n2 c2) < msr L (.int .i64 (r : Int)) (.slice B n c) := by
  have e1 : intOf (.int .i64 ((r : Int) + 1)) = (r : Int) + 1 := rfl
  have e2 : intOf (.int .i64 (r : Int)) = (r : Int) := rfl
  unfold msr
  rw [e1, e2, if_neg (by omega)]
  show n2 + 1 < if (r : Int) = 0 then L + 2 else n + 1
  by_cases h0 : r = 0
  · rw [if_pos (by omega)]; omega
  · rw [if_neg (by omega)]; have := h1 h0; omega
set_option maxHeartbeats 32000000 in
set_option maxRecDepth 100000 in
theorem printf_good (s : ByteArray) (A : Option Addr) (l : List ByteArray) (cap : Nat) (w : World) (hs : s.size ≤ 8192) (hst : Strs w (.slice A l.length cap) l) (hl : l.length ≤ 64) (hz : ∀ x ∈ l, x.size ≤ 65536) (hE : ErrT w) (hT : PowTab w) (hZ : TzT w) :
    Calls Tryz.prog 10 #[.string s, .slice A l.length cap] w fun e w' => e = .returned (.tuple #[.string (mkB (pfOut s.data.toList (texts l)).1), .int .i64 (pfOut s.data.toList (texts l)).2]) ∧ Below w.heap.size w w' := by
  have HE := hide hE
  have HT := hide hT
  have HZ := hide hZ
  have HLZ := hide hz
  have HST := hide hst
  have HDS := hide (directives_any s w (by omega) hE)
  unfold dirsR at HDS
  clear hE hT hZ hst hz
  go_enter Tryz.func10, Tryz.ntmps10
  go_wp2_with fail
  go_loopw [28] (fun i wr => ∃ k : Nat, i = .int .i64 (k : Int) ∧ k ≤ l.length ∧ wr = w) (fun i _ => l.length - (intOf i).toNat)
  case atStart => exact ⟨0, rfl, by omega, rfl⟩
  case round =>
    obtain ⟨k, rfl, hk, rfl⟩ := hrel
    by_cases hlt : k < l.length
    · have hd : (k : Int) < (l.length : Int) := by omega
      have hget := List.getElem?_eq_getElem hlt
      obtain ⟨x, hx⟩ : ∃ x, l[k] = x := ⟨_, rfl⟩
      rw [hx] at hget
      have hxz : x.size ≤ 65536 := HLZ.out x (List.mem_of_getElem? hget)
      obtain ⟨b, o, rfl, hb, hc⟩ := strs_at HST.out hget
      clear hx hget
      go_wp2_with fail
      go_roundw
      case rel => exact ⟨k + 1, by first | go_num | (simp; omega), by omega, by first | rfl | trivial⟩
      case measure => simp [intOf]; omega
    · have hd : ¬ (k : Int) < (l.length : Int) := by omega
      go_wp2_with fail
      refine HDS.out.mono ?_
      rintro e w1 (⟨hn, rfl, hb⟩ | ⟨ds, v, hds, rfl, ho, hdl⟩)
      · have HV : Hid (pfOut s.data.toList (texts l) = ([], 1)) := hide (by unfold pfOut; rw [hn])
        have HB := hide hb
        clear hn hb
        go_wp2_with fail
        go_ret2
        exact ⟨by rw [HV.out]; rfl, HB.out⟩
      · have HV : Hid (pfOut s.data.toList (texts l) = lopP ds (l.length + 1) (texts l) []) := hide (by unfold pfOut; rw [hds]; simp only [texts, List.length_map])
        have HDK := hide (pfP_ok hds)
        have HB1 := hide ho.bel
        have hdn : ds.length ≤ 8192 := by have := len_size s; omega
        obtain ⟨A', cap', rfl, hcs⟩ := own_dirs ho.own
        have HCE := hide hcs
        have HST1 := hide (HST.out.below ho.bel)
        have HE1 := hide (HE.out.below ho.bel)
        have HT1 := hide (HT.out.below ho.bel)
        have HZ1 := hide (HZ.out.below ho.bel)
        have HBL0 := hide (show Bld w1.heap.size w1.heap.size [] (w1.alloc (.cells #[.pointer none, .slice none 0 0] 77)) from Lib.fresh_isBuilder _ _ w1)
        clear hds ho hdl hcs hlt hd hk
        go_wp2_with fail
        go_loopw [1, 11, 12] (fun av rv tv wr => ∃ (gs : List ByteArray) (B : Option Addr) (c : Nat) (out : List UInt8) (r : Nat) (tk : Bool), av = .slice B gs.length c ∧ rv = .int .i64 (r : Int) ∧ tv = .bool tk ∧ r ≤ 70 ∧ out.length ≤ 65536 ∧ Hid (LpAt ds l gs out r tk) ∧ Hid (Strs w1 (.slice B gs.length c) gs) ∧ Hid (∀ x ∈ gs, x.size ≤ 65536) ∧ Hid (Bld w1.heap.size w1.heap.size out wr) ∧ Hid (Below w1.heap.size w1 wr)) (fun av rv _ _ => msr l.length rv av)
        case atStart => exact ⟨l, A, cap, [], 0, true, rfl, rfl, rfl, by omega, by simp, hide (LpAt.start _ _ _), HST1, HLZ, HBL0, hide ((Below.refl _ _).alloc (Nat.le_refl _) _)⟩
        case round =>
          obtain ⟨gs, B, c, out, r, tk, rfl, rfl, rfl, hr70, hol, HLP, HSG, HGZ, HBL, HBW⟩ := hrel
          by_cases hc : r = 0 ∨ (tk = true ∧ gs ≠ [])
          case neg =>
            have HD := hide (HV.out.trans (HLP.out.done hc))
            have r0 : ((r : Int) == 0) = false := by
              have : ¬ r = 0 := fun e => hc (Or.inl e)
              simpa using this
            have hcc : tk = false ∨ (tk = true ∧ gs.length = 0) := by
              cases tk with
              | false => exact Or.inl rfl
              | true =>
                refine Or.inr ⟨rfl, ?_⟩
                have : gs = [] := Classical.byContradiction fun h => hc (Or.inr ⟨rfl, h⟩)
                rw [this]; rfl
            have HBS := hide (bldString_any _ _ out wr HBL.out HBW.out.size)
            clear hc
            rcases hcc with rfl | ⟨rfl, hg0⟩
            all_goals
              go_wp2_with fail
              refine HBS.out.mono ?_
              rintro e w2 ⟨rfl, hb⟩
              have HB2 := hide (HB1.out.trans ((HBW.out.trans hb).mono HB1.out.size))
              clear hb
              go_wp2_with fail
              go_ret2
              exact ⟨by rw [HD.out]; rfl, HB2.out⟩
          case pos =>
            have HC := hide hc
            have hcc : ((r : Int) == 0) = true ∨ (((r : Int) == 0) = false ∧ tk = true ∧ (0 : Int) < (gs.length : Int)) := by
              by_cases h : r = 0
              · exact Or.inl (by simp [h])
              · refine Or.inr ⟨by simpa using h, ?_⟩
                rcases hc with hc | ⟨h1, h2⟩
                · exact absurd hc h
                · have := List.length_pos_iff.2 h2
                  exact ⟨h1, by omega⟩
            clear hc
            rcases hcc with r0 | ⟨r0, rfl, r2⟩
            all_goals
              go_wp2_with fail
              go_loopw [1, 12, 57] (fun av tv jv wr => ∃ (gs2 : List ByteArray) (B : Option Addr) (c : Nat) (out2 : List UInt8) (j : Nat) (tk2 : Bool), av = .slice B gs2.length c ∧ tv = .bool tk2 ∧ jv = .int .i64 (j : Int) ∧ j ≤ ds.length ∧ out2.length ≤ 65536 ∧ Hid (RnAt ds gs gs2 out out2 j tk2) ∧ Hid (Strs w1 (.slice B gs2.length c) gs2) ∧ Hid (∀ x ∈ gs2, x.size ≤ 65536) ∧ Hid (Bld w1.heap.size w1.heap.size out2 wr) ∧ Hid (Below w1.heap.size w1 wr)) (fun _ _ jv _ => ds.length - (intOf jv).toNat)
              case atStart => exact ⟨gs, B, c, out, 0, false, rfl, rfl, rfl, by omega, hol, hide (RnAt.start _ _ _), HSG, HGZ, HBL, HBW⟩
              case round =>
                obtain ⟨gs2, B2, c2, out2, j, tk2, rfl, rfl, rfl, hj, hol2, HRN, HSG2, HGZ2, HBL2, HBW2⟩ := hrel
                by_cases hlt : j < ds.length
                · have hd : (j : Int) < (ds.length : Int) := by omega
                  have hget := List.getElem?_eq_getElem hlt
                  obtain ⟨d, hdd⟩ : ∃ d, ds[j] = d := ⟨_, rfl⟩
                  rw [hdd] at hget
                  have HGET := hide hget
                  obtain ⟨hdok, hkind⟩ := HDK.out d (List.mem_of_getElem? hget)
                  obtain ⟨g, rfl, hg, k0, k1, k2, k3, k4, k5⟩ := HCE.out j d hget
                  have c0 := (HBW2.out.cell (p := ⟨g, j * 6, none⟩) hg).trans k0
                  have c1 := (HBW2.out.cell (p := ⟨g, j * 6 + 1, none⟩) hg).trans k1
                  have c2 := (HBW2.out.cell (p := ⟨g, j * 6 + 2, none⟩) hg).trans k2
                  have c3 := (HBW2.out.cell (p := ⟨g, j * 6 + 3, none⟩) hg).trans k3
                  have c4 := (HBW2.out.cell (p := ⟨g, j * 6 + 4, none⟩) hg).trans k4
                  have c5 := (HBW2.out.cell (p := ⟨g, j * 6 + 5, none⟩) hg).trans k5
                  clear hget hdd hkind k0 k1 k2 k3 k4 k5
                  have HR := hide (show DvRow 89 wr.heap.size d (wr.alloc (.cells (dvC d) 89)) from heap_alloc_new wr _)
                  have HBW3 := hide (HBW2.out.alloc HBW2.out.size (.cells (dvC d) 89))
                  have HBL3 := hide (bld_keep HBL2.out ((Below.refl _ wr).alloc (Nat.le_refl _) (.cells (dvC d) 89)))
                  obtain ⟨tx, fl, wd, dot, pr, lt⟩ := d
                  by_cases h0 : lt = 0
                  · subst h0
                    simp only [dvC] at c0 c1 c2 c3 c4 c5
                    unfold dvC at HBW3 HBL3
                    rw [show (((0 : UInt8).toNat : Nat) : Int) = 0 from rfl] at HBW3 HBL3 c5
                    have htl : tx.length ≤ 1 := hdok.1
                    have hqz : (mkB (tx)).size ≤ 80000 := by rw [mkB_size]; exact by omega
                    have HWS := hide (writeString_any _ _ out2 (mkB (tx)) _ HBL3.out (by omega) HBW3.out.size)
                    rw [mkB_data2] at HWS
                    go_wp2_with fail
                    with_reducible refine HWS.out.mono ?_
                    rintro e w4 ⟨rfl, hb4, hbe4⟩
                    have HBL4 := hide hb4
                    have HBW4 := hide (HBW3.out.trans hbe4)
                    have HLEN := hide (Tryz.Builder_Len _ _ _ w4 hb4)
                    rw [Lib.byteCells_length] at HLEN
                    obtain ⟨L, hL⟩ : ∃ L, (out2 ++ tx).length = L := ⟨_, rfl⟩
                    rw [hL] at HLEN
                    clear hb4 hbe4
                    by_cases hbig : 65536 < L
                    · have HRB : Hid (rndP ds (texts gs) out = .inl 2) := hide (HRN.out.txtBig HGET.out rfl (by show 65536 < (out2 ++ tx).length; omega))
                      have hb' : (65536 : Int) < (L : Int) := by omega
                      clear hL
                      go_wp2_with fail
                      with_reducible refine HLEN.out.mono ?_
                      rintro e w5 ⟨rfl, rfl⟩
                      have HFIN := hide (HV.out.trans (HLP.out.bad (by simpa using HC.out) HRB.out))
                      have HBF := hide (HB1.out.trans (HBW4.out.mono HB1.out.size))
                      go_wp2_with fail
                      go_ret2
                      exact ⟨by rw [HFIN.out]; rfl, HBF.out⟩
                    · have HRN2 := hide (show RnAt ds gs gs2 out (out2 ++ tx) (j + 1) tk2 from HRN.out.txt HGET.out rfl (by show ¬ 65536 < (out2 ++ tx).length; omega))
                      have hb' : ¬ (65536 : Int) < (L : Int) := by omega
                      have hol3 : (out2 ++ tx).length ≤ 65536 := by omega
                      clear hL
                      go_wp2_with fail
                      with_reducible refine HLEN.out.mono ?_
                      rintro e w5 ⟨rfl, rfl⟩
                      go_wp2_with fail
                      go_roundw
                      case rel => exact ⟨gs2, _, _, out2 ++ tx, j + 1, tk2, rfl, rfl, by first | go_num | (simp; omega), by omega, hol3, HRN2, HSG2, HGZ2, HBL4, HBW4⟩
                      case measure => simp [intOf]; omega
                  · have HN0 : Hid (¬ lt = 0) := hide h0
                    have f0 : ((lt.toNat : Int) != 0) = true := by
                      have h9 : ((lt.toNat : Int) == 0) = false := (u8_eqN lt 0).trans (decide_eq_false h0)
                      rw [bne, h9]; rfl
                    simp only [dvC] at c0 c1 c2 c3 c4 c5
                    unfold dvC at HBW3 HBL3
                    obtain ⟨⟨y0, y1, y2⟩, y3, y4, y5⟩ := HR.out.cells
                    unfold dvC at y0 y1 y2 y3 y4 y5
                    clear h0
                    cases gs2 with
                    | nil =>
                      have HWR := hide (fun (n : Nat) => written_any (⟨tx, fl, wd, dot, pr, lt⟩ : Dv) hdok ([]) (by simp) (wr.alloc (.cells #[.string (mkB tx), .string (mkB fl), .int .i64 (wd : Int), .bool dot, .int .i64 (pr : Int), .int .u8 (lt.toNat : Int)] 89)) (HE1.out.below HBW3.out) (HT1.out.below HBW3.out) (HZ1.out.below HBW3.out))
                      unfold dvV dvC at HWR
                      have HWL := hide (wrP_len hdok ([]))
                      obtain ⟨S, hS⟩ : ∃ S, (wrP (⟨tx, fl, wd, dot, pr, lt⟩ : Dv) ([])).1 = S := ⟨_, rfl⟩
                      obtain ⟨er, her⟩ : ∃ er, (wrP (⟨tx, fl, wd, dot, pr, lt⟩ : Dv) ([])).2 = er := ⟨_, rfl⟩
                      rw [hS, her] at HWR
                      rw [hS] at HWL
                      have hSl : S.length ≤ 80000 := by have := HWL.out; have : ([] : List UInt8).length ≤ 65536 := (by simp); omega
                      rw [show mkB [] = (⟨#[]⟩ : ByteArray) from rfl] at HWR
                      go_wp2_with fail
                      with_reducible refine (HWR.out 0).mono ?_
                      rintro e w3 ⟨rfl, hb0⟩
                      have hb : Below (wr.alloc (.cells #[.string (mkB tx), .string (mkB fl), .int .i64 (wd : Int), .bool dot, .int .i64 (pr : Int), .int .u8 (lt.toNat : Int)] 89)).heap.size (wr.alloc (.cells #[.string (mkB tx), .string (mkB fl), .int .i64 (wd : Int), .bool dot, .int .i64 (pr : Int), .int .u8 (lt.toNat : Int)] 89)) w3 := ⟨hb0.os, hb0.tape, hb0.output, hb0.size, hb0.block⟩
                      clear hb0
                      have HBW5 := hide (HBW3.out.trans (hb.mono HBW3.out.size))
                      have HBL5 := hide (bld_keep HBL3.out hb)
                      clear hb
                      by_cases he : er = 0
                      · have her0 := her.trans he
                        subst he
                        have hqz : (mkB (S)).size ≤ 80000 := by rw [mkB_size]; exact hSl
                        have HWS := hide (writeString_any _ _ out2 (mkB (S)) _ HBL5.out (by omega) HBW5.out.size)
                        rw [mkB_data2] at HWS
                        go_wp2_with fail
                        with_reducible refine HWS.out.mono ?_
                        rintro e w4 ⟨rfl, hb4, hbe4⟩
                        have HBL4 := hide hb4
                        have HBW4 := hide (HBW5.out.trans hbe4)
                        have HLEN := hide (Tryz.Builder_Len _ _ _ w4 hb4)
                        rw [Lib.byteCells_length] at HLEN
                        obtain ⟨L, hL⟩ : ∃ L, (out2 ++ S).length = L := ⟨_, rfl⟩
                        rw [hL] at HLEN
                        clear hb4 hbe4
                        by_cases hbig : 65536 < L
                        · have HRB : Hid (rndP ds (texts gs) out = .inl 2) := hide (HRN.out.dirBig HGET.out HN0.out (show (texts ([] : List ByteArray)).headD [] = ([] : List UInt8) from rfl) her0 (by rw [hS, hL]; exact hbig))
                          have hb' : (65536 : Int) < (L : Int) := by omega
                          clear hL
                          go_wp2_with fail
                          with_reducible refine HLEN.out.mono ?_
                          rintro e w5 ⟨rfl, rfl⟩
                          have HFIN := hide (HV.out.trans (HLP.out.bad (by simpa using HC.out) HRB.out))
                          have HBF := hide (HB1.out.trans (HBW4.out.mono HB1.out.size))
                          go_wp2_with fail
                          go_ret2
                          exact ⟨by rw [HFIN.out]; rfl, HBF.out⟩
                        · have HRN2 := hide (show RnAt ds gs ([] : List ByteArray) out (out2 ++ S) (j + 1) true from by have h := HRN.out.dir HGET.out HN0.out (show (texts ([] : List ByteArray)).headD [] = ([] : List UInt8) from rfl) her0 (gs2 := ([] : List ByteArray)) (by rw [hS, hL]; exact hbig) rfl; rw [hS] at h; exact h)
                          have hb' : ¬ (65536 : Int) < (L : Int) := by omega
                          have hol3 : (out2 ++ S).length ≤ 65536 := by omega
                          clear hL
                          go_wp2_with fail
                          with_reducible refine HLEN.out.mono ?_
                          rintro e w5 ⟨rfl, rfl⟩
                          go_wp2_with fail
                          go_roundw
                          case rel => exact ⟨([] : List ByteArray), _, _, out2 ++ S, j + 1, true, rfl, rfl, by first | go_num | (simp; omega), by omega, hol3, HRN2, HSG2, HGZ2, HBL4, HBW4⟩
                          case measure => simp [intOf]; omega
                      · have HRB : Hid (rndP ds (texts gs) out = .inl er) := hide (by rw [← her]; exact HRN.out.err HGET.out HN0.out (show (texts ([] : List ByteArray)).headD [] = ([] : List UInt8) from rfl) (by rw [her]; exact he))
                        have e1 : (er != 0) = true := by simpa using he
                        clear he her hS
                        have HFIN := hide (HV.out.trans (HLP.out.bad (by simpa using HC.out) HRB.out))
                        have HBF := hide (HB1.out.trans (HBW5.out.mono HB1.out.size))
                        go_wp2_with fail
                        go_ret2
                        exact ⟨by rw [HFIN.out]; rfl, HBF.out⟩
                    | cons x gs3 =>
                      have hxz := HGZ2.out x List.mem_cons_self
                      have HGZ3 : Hid (∀ y ∈ gs3, y.size ≤ 65536) := hide (fun y hy => HGZ2.out y (List.mem_cons_of_mem _ hy))
                      obtain ⟨b, o, rfl, hb, hcx⟩ := strs_head HSG2.out
                      have hcx2 := (HBW3.out.cell (p := ⟨b, o, none⟩) hb).trans hcx
                      obtain ⟨B3, c6, hsl, hst3⟩ := cut_oneP HSG2.out
                      have HSG3 := hide hst3
                      have hln : (0 : Int) < ((gs3.length : Int) + 1) := by omega
                      clear hst3 hcx
                      have HWR := hide (fun (n : Nat) => written_any (⟨tx, fl, wd, dot, pr, lt⟩ : Dv) hdok (x.data.toList) (by rw [len_size]; omega) ((wr.alloc (.cells #[.string (mkB tx), .string (mkB fl), .int .i64 (wd : Int), .bool dot, .int .i64 (pr : Int), .int .u8 (lt.toNat : Int)] 89)).drewN n) (HE1.out.below (below_q HBW3.out)) (HT1.out.below (below_q HBW3.out)) (HZ1.out.below (below_q HBW3.out)))
                      unfold dvV dvC at HWR
                      have HWL := hide (wrP_len hdok (x.data.toList))
                      obtain ⟨S, hS⟩ : ∃ S, (wrP (⟨tx, fl, wd, dot, pr, lt⟩ : Dv) (x.data.toList)).1 = S := ⟨_, rfl⟩
                      obtain ⟨er, her⟩ : ∃ er, (wrP (⟨tx, fl, wd, dot, pr, lt⟩ : Dv) (x.data.toList)).2 = er := ⟨_, rfl⟩
                      rw [hS, her] at HWR
                      rw [hS] at HWL
                      have hSl : S.length ≤ 80000 := by have := HWL.out; have : (x.data.toList : List UInt8).length ≤ 65536 := (by rw [len_size]; exact hxz); omega
                      rw [mkB_list x] at HWR
                      go_wp2_with fail
                      go_quiet (fail)
                      go_wp2_with fail
                      with_reducible refine (HWR.out _).mono ?_
                      rintro e w3 ⟨rfl, hb0⟩
                      have hb : Below (wr.alloc (.cells #[.string (mkB tx), .string (mkB fl), .int .i64 (wd : Int), .bool dot, .int .i64 (pr : Int), .int .u8 (lt.toNat : Int)] 89)).heap.size (wr.alloc (.cells #[.string (mkB tx), .string (mkB fl), .int .i64 (wd : Int), .bool dot, .int .i64 (pr : Int), .int .u8 (lt.toNat : Int)] 89)) w3 := ⟨hb0.os, hb0.tape, hb0.output, hb0.size, hb0.block⟩
                      clear hb0
                      have HBW5 := hide (HBW3.out.trans (hb.mono HBW3.out.size))
                      have HBL5 := hide (bld_keep HBL3.out hb)
                      clear hb
                      by_cases he : er = 0
                      · have her0 := her.trans he
                        subst he
                        have hqz : (mkB (S)).size ≤ 80000 := by rw [mkB_size]; exact hSl
                        have HWS := hide (writeString_any _ _ out2 (mkB (S)) _ HBL5.out (by omega) HBW5.out.size)
                        rw [mkB_data2] at HWS
                        go_wp2_with fail
                        with_reducible refine HWS.out.mono ?_
                        rintro e w4 ⟨rfl, hb4, hbe4⟩
                        have HBL4 := hide hb4
                        have HBW4 := hide (HBW5.out.trans hbe4)
                        have HLEN := hide (Tryz.Builder_Len _ _ _ w4 hb4)
                        rw [Lib.byteCells_length] at HLEN
                        obtain ⟨L, hL⟩ : ∃ L, (out2 ++ S).length = L := ⟨_, rfl⟩
                        rw [hL] at HLEN
                        clear hb4 hbe4
                        by_cases hbig : 65536 < L
                        · have HRB : Hid (rndP ds (texts gs) out = .inl 2) := hide (HRN.out.dirBig HGET.out HN0.out (show (texts (x :: gs3)).headD [] = x.data.toList from rfl) her0 (by rw [hS, hL]; exact hbig))
                          have hb' : (65536 : Int) < (L : Int) := by omega
                          clear hL
                          go_wp2_with fail
                          with_reducible refine HLEN.out.mono ?_
                          rintro e w5 ⟨rfl, rfl⟩
                          have HFIN := hide (HV.out.trans (HLP.out.bad (by simpa using HC.out) HRB.out))
                          have HBF := hide (HB1.out.trans (HBW4.out.mono HB1.out.size))
                          go_wp2_with fail
                          go_ret2
                          exact ⟨by rw [HFIN.out]; rfl, HBF.out⟩
                        · have HRN2 := hide (show RnAt ds gs gs3 out (out2 ++ S) (j + 1) true from by have h := HRN.out.dir HGET.out HN0.out (show (texts (x :: gs3)).headD [] = x.data.toList from rfl) her0 (gs2 := gs3) (by rw [hS, hL]; exact hbig) rfl; rw [hS] at h; exact h)
                          have hb' : ¬ (65536 : Int) < (L : Int) := by omega
                          have hol3 : (out2 ++ S).length ≤ 65536 := by omega
                          clear hL
                          go_wp2_with fail
                          with_reducible refine HLEN.out.mono ?_
                          rintro e w5 ⟨rfl, rfl⟩
                          go_wp2_with fail
                          go_roundw
                          case rel => exact ⟨gs3, _, _, out2 ++ S, j + 1, true, rfl, rfl, by first | go_num | (simp; omega), by omega, hol3, HRN2, HSG3, HGZ3, HBL4, HBW4⟩
                          case measure => simp [intOf]; omega
                      · have HRB : Hid (rndP ds (texts gs) out = .inl er) := hide (by rw [← her]; exact HRN.out.err HGET.out HN0.out (show (texts (x :: gs3)).headD [] = x.data.toList from rfl) (by rw [her]; exact he))
                        have e1 : (er != 0) = true := by simpa using he
                        clear he her hS
                        have HFIN := hide (HV.out.trans (HLP.out.bad (by simpa using HC.out) HRB.out))
                        have HBF := hide (HB1.out.trans (HBW5.out.mono HB1.out.size))
                        go_wp2_with fail
                        go_ret2
                        exact ⟨by rw [HFIN.out]; rfl, HBF.out⟩
                · have hd : ¬ (j : Int) < (ds.length : Int) := by omega
                  obtain ⟨hrd, htk⟩ := HRN.out.done (by omega)
                  obtain ⟨hlp, hle, hlt2⟩ := HLP.out.round (by simpa using HC.out) hrd
                  have h69 : r + 1 ≤ 70 := by have := hlp.1.2; omega
                  rw [← htk] at hlp
                  have HLP2 := hide hlp
                  have HLT := hide hlt2
                  clear hrd htk hlp hlt2 hlt
                  go_wp2_with fail
                  go_roundw
                  case rel => exact ⟨gs2, B2, c2, out2, r + 1, tk2, rfl, by first | go_num | (simp; omega), rfl, h69, hol2, HLP2, HSG2, HGZ2, HBL2, HBW2⟩
                  case measure =>
                    exact msr_step hle HLT.out HLP.out.1.1
end Go.Proofs.YtifpmigghplmoaaGreatDoor
