/- The program's numbers of a sequence: compareDigits, combine. -/
import Derived.Test.YtoieicdnehnacaaGreatDoorDecW
import Derived.Test.YtoieicdnehnacaaGreatDoorNum
set_option linter.unusedVariables false
set_option linter.unusedSimpArgs false
namespace Go.Pw
open Go.RowKit
theorem fillS_dig {l : List UInt8} (h : DigL l) (n : Nat) : fillS l n true = padL n l := by
  have hp : Lib.hasPrefix l [45] = false := by
    cases l with
    | nil => rfl
    | cons c l =>
      unfold Lib.hasPrefix List.isPrefixOf
      have hc := h c List.mem_cons_self
      rw [beq_false_of_ne (show (45 : UInt8) ≠ c from fun e => by subst e; simp at hc)]
      rfl
  unfold fillS padL
  rw [if_pos rfl, hp, if_neg (by simp)]
  unfold Lib.trimPrefix
  rw [hp]; rfl
/-- the place that a loop from the right stands at -/
def IV : Nat → Value
  | 0 => .int .i64 (-1)
  | k + 1 => .int .i64 (k : Int)
def ivN : Value → Nat
  | .int _ k => (k + 1).toNat
  | _ => 0
theorem IV_pred (k : Nat) : Value.int .i64 ((k : Int) - 1) = IV k := by
  cases k with
  | zero => rfl
  | succ k => show Value.int .i64 (((k + 1 : Nat) : Int) - 1) = .int .i64 (k : Int); rw [show ((k + 1 : Nat) : Int) - 1 = (k : Int) by omega]
end Go.Pw
namespace Go.Proofs.YtoieicdnehnacaaGreatDoor
open Go.RowKit Go.Pw
theorem rd_two_q (w : World) (x y : Int) (t : TypeId) : Rd (w.alloc (.cells #[.int .i64 x, .int .i64 y] t)) 1 (.slice (some ⟨w.heap.size, 0, none⟩) 2 2) 2 ([x, y].map (Value.int .i64)) := by
  refine ⟨rfl, _, _, rfl, Nat.le_refl _, by unfold maxLen; omega, fun _ => ⟨w.heap.size, 0, rfl, by simp, fun j u hu => ?_⟩⟩
  rw [World.cell?_alloc_new]
  simpa using hu
theorem cmpDig_any (a b : ByteArray) (w : World) (ha : Canon a.data.toList) (hb : Canon b.data.toList) (hsa : a.size ≤ 100000) (hsb : b.size ≤ 100000) :
    Calls Tryz.prog 100 #[.string a, .string b] w fun e w' => e = .returned (.int .i64 (Lib.compareInt (valL a.data.toList) (valL b.data.toList))) ∧ Below w.heap.size w w' := by
  have la := len_size a
  have lb := len_size b
  have HV : Hid (Lib.compareInt (valL a.data.toList : Int) (valL b.data.toList : Int) = firstNZ [Lib.compareInt (a.size : Int) (b.size : Int), Lib.compareBytes a.data.toList b.data.toList]) := hide (by
    rcases Nat.lt_trichotomy a.size b.size with h | h | h
    · have hv := canon_len ha hb (by omega)
      have e1 : Lib.compareInt (a.size : Int) (b.size : Int) = -1 := by unfold Lib.compareInt; rw [if_pos (by omega)]
      have e2 : Lib.compareInt (valL a.data.toList : Int) (valL b.data.toList : Int) = -1 := by unfold Lib.compareInt; rw [if_pos (by omega)]
      rw [e1, e2]; rfl
    · have e1 : Lib.compareInt (a.size : Int) (b.size : Int) = 0 := by unfold Lib.compareInt; rw [if_neg (by omega), if_neg (by omega)]
      rw [e1, cb_val _ _ ha.1 hb.1 (by omega)]
      simp only [firstNZ, if_pos]
      split
      · assumption
      · rfl
    · have hv := canon_len hb ha (by omega)
      have e1 : Lib.compareInt (a.size : Int) (b.size : Int) = 1 := by unfold Lib.compareInt; rw [if_neg (by omega), if_pos (by omega)]
      have e2 : Lib.compareInt (valL a.data.toList : Int) (valL b.data.toList : Int) = 1 := by unfold Lib.compareInt; rw [if_neg (by omega), if_pos (by omega)]
      rw [e1, e2]; rfl)
  have HC1 := hide (fun W => Tryz.cmp_Compare_int (a.size : Int) (b.size : Int) W)
  have HC2 := hide (fun W => compareS_any a b W)
  obtain ⟨x, hx⟩ : ∃ x, Lib.compareInt (a.size : Int) (b.size : Int) = x := ⟨_, rfl⟩
  obtain ⟨y, hy⟩ : ∃ y, Lib.compareBytes a.data.toList b.data.toList = y := ⟨_, rfl⟩
  rw [hx] at HC1
  rw [hy] at HC2
  rw [hx, hy] at HV
  have HO := hide (fun W : World => or_any _ [x, y] _ (rd_two_q W x y 3))
  clear la lb ha hb hx hy
  go_enter Tryz.func100, Tryz.ntmps100
  go_wp2_with fail
  refine (HC1.out _).mono ?_
  rintro e w' ⟨rfl, rfl⟩
  go_wp2_with fail
  refine (HC2.out _).mono ?_
  rintro e w' ⟨rfl, rfl⟩
  go_wp2_with fail
  refine (HO.out _).mono ?_
  rintro e w2 ⟨rfl, rfl⟩
  go_wp2_with fail
  go_ret
  exact ⟨by rw [HV.out]; rfl, (Below.refl _ _).alloc (Nat.le_refl _) _⟩
set_option maxHeartbeats 8000000 in
set_option maxRecDepth 100000 in
theorem combAdd_any (a b : ByteArray) (w : World) (ha : DigL a.data.toList) (hb : DigL b.data.toList) (hsa : a.size ≤ 100000) (hsb : b.size ≤ 100000) :
    Calls Tryz.prog 101 #[.string a, .string b, .int .i64 (1)] w fun e w' => NumR (valL a.data.toList + valL b.data.toList) e ∧ Below w.heap.size w w' := by
  obtain ⟨n, hn⟩ : ∃ n, max a.size b.size + 1 = n := ⟨_, rfl⟩
  have hni : max (a.size : Int) (b.size : Int) + 1 = (n : Int) := by omega
  have hn1 : n ≤ 100001 := by omega
  have hn0 : 1 ≤ n := by omega
  have la := len_size a
  have lb := len_size b
  have hA : (padL n a.data.toList).length = n := padL_len (by omega)
  have hB : (padL n b.data.toList).length = n := padL_len (by omega)
  have HLT : Hid (valL a.data.toList + valL b.data.toList < 10 ^ n) := hide (by
    have h1 := valL_lt _ ha
    have h2 := valL_lt _ hb
    have h3 : 10 ^ a.data.toList.length ≤ 10 ^ (n - 1) := Nat.pow_le_pow_right (by omega) (by omega)
    have h4 : 10 ^ b.data.toList.length ≤ 10 ^ (n - 1) := Nat.pow_le_pow_right (by omega) (by omega)
    have h5 : 10 ^ n = 10 ^ (n - 1) * 10 := by rw [← Nat.pow_succ, show (n - 1).succ = n by omega]
    omega)
  have HVV : Hid ((valL (padL n a.data.toList) : Int) + (1) * (valL (padL n b.data.toList) : Int) = ((valL a.data.toList + valL b.data.toList : Nat) : Int)) := hide (by rw [padL_val, padL_val]; omega)
  have HFA := hide (fun W => filled_any a (n : Int) true W (by omega) (by omega) (by omega))
  have HFB := hide (fun W => filled_any b (n : Int) true W (by omega) (by omega) (by omega))
  rw [fillS_dig ha, Int.toNat_natCast] at HFA
  rw [fillS_dig hb, Int.toNat_natCast] at HFB
  have HDA := hide (padL_dig (n := n) ha)
  have HDB := hide (padL_dig (n := n) hb)
  obtain ⟨A, hAA⟩ : ∃ A, padL n a.data.toList = A := ⟨_, rfl⟩
  obtain ⟨B, hBB⟩ : ∃ B, padL n b.data.toList = B := ⟨_, rfl⟩
  rw [hAA] at HFA HDA hA HVV
  rw [hBB] at HFB HDB hB HVV
  obtain ⟨V, hV⟩ : ∃ V, valL a.data.toList + valL b.data.toList = V := ⟨_, rfl⟩
  rw [hV] at HLT HVV
  rw [hV]
  have HMS : Hid ((mkB A).size = n ∧ (mkB B).size = n) := hide ⟨by rw [mkB_size, hA], by rw [mkB_size, hB]⟩
  have HMD : Hid ((mkB A).data.toList = A ∧ (mkB B).data.toList = B) := hide ⟨rfl, rfl⟩
  obtain ⟨SA, hSA⟩ : ∃ SA, mkB A = SA := ⟨_, rfl⟩
  obtain ⟨SB, hSB⟩ : ∃ SB, mkB B = SB := ⟨_, rfl⟩
  rw [hSA] at HFA HMS HMD
  rw [hSB] at HFB HMS HMD
  have hmk := run_make_row' (P := Tryz.prog) 57 5 (.int .u8 0) 1 Tryz.underlying57 infoB rfl .i64 .i64 n (by omega) (by omega)
  have HHA := hide hA
  have HHB := hide hB
  clear hn la lb hA hB ha hb hAA hBB hV hSA hSB
  go_enter Tryz.func101, Tryz.ntmps101
  go_wp2_with fail
  refine (HFA.out _).mono ?_
  rintro e w1 ⟨rfl, hb1⟩
  go_wp2_with fail
  refine (HFB.out _).mono ?_
  rintro e w2 ⟨rfl, hb2⟩
  have HB2 := hide (hb1.trans (hb2.mono hb1.size))
  clear hb1 hb2
  have HBK : Hid (w.heap.size ≤ w2.heap.size) := hide HB2.out.size
  have HR0 := hide (rowB_made w2 n 5)
  have HB0 := hide (HB2.out.alloc HB2.out.size (.cells (madeCells #[.int .u8 0] n) 5))
  have HA0 : Hid (AddAt A B (List.replicate n 0) (1) 0 n n) := hide (AddAt.start (1) HHA.out HHB.out (List.length_replicate ..))
  go_wp2_with fail
  clear hmk hni
  obtain ⟨BK, hBK⟩ : ∃ BK, w2.heap.size = BK := ⟨_, rfl⟩
  rw [hBK] at HR0 HBK
  simp only [hBK]
  clear hBK
  have HN0 : Hid (Value.int .i64 ((n : Int) - 1) = IV n) := hide (IV_pred n)
  go_loopw [9, 10] (fun cv iv wr => ∃ (i : Nat) (cr : Int) (O : List UInt8), i ≤ n ∧ iv = IV i ∧ cv = .int .i64 cr ∧ Hid (AddAt A B O (1) cr n i) ∧ Hid (RowB wr BK O) ∧ Hid (Below w.heap.size w wr)) (fun _ iv _ => ivN iv)
  case atStart => exact ⟨n, 0, List.replicate n 0, by omega, HN0.out, rfl, HA0, HR0, HB0⟩
  case round =>
    obtain ⟨i, cr, O, hi, rfl, rfl, HA, HR, HB⟩ := hrel
    cases i with
    | succ k =>
      rw [show IV (k + 1) = Value.int .i64 (k : Int) from rfl]
      have hd : (0 : Int) ≤ (k : Int) := by omega
      have hka : k < SA.size := by rw [HMS.out.1]; omega
      have hkb : k < SB.size := by rw [HMS.out.2]; omega
      have hax : A[k]? = some SA[k] := by
        have h : SA.data.toList[k]? = some SA[k] := by rw [List.getElem?_eq_getElem (by rw [len_size]; exact hka)]; rfl
        rwa [HMD.out.1] at h
      have hby : B[k]? = some SB[k] := by
        have h : SB.data.toList[k]? = some SB[k] := by rw [List.getElem?_eq_getElem (by rw [len_size]; exact hkb)]; rfl
        rwa [HMD.out.2] at h
      have hdx := HDA.out _ (List.mem_of_getElem? hax)
      have hdy := HDB.out _ (List.mem_of_getElem? hby)
      obtain ⟨x, hx⟩ : ∃ x, SA[k] = x := ⟨_, rfl⟩
      obtain ⟨y, hy⟩ : ∃ y, SB[k] = y := ⟨_, rfl⟩
      rw [hx] at hax hdx
      rw [hy] at hby hdy
      have hx1 : 48 ≤ (x.toNat : Int) := by omega
      have hx2 : (x.toNat : Int) ≤ 57 := by omega
      have hy1 : 48 ≤ (y.toNat : Int) := by omega
      have hy2 : (y.toNat : Int) ≤ 57 := by omega
      have hcr1 := HA.out.lo
      have hcr2 := HA.out.hi
      have hw0 : IntKind.u8.wrap ((x.toNat : Int) - 48) = (x.toNat : Int) - 48 := by rw [show IntKind.u8.wrap ((x.toNat : Int) - 48) = ((x.toNat : Int) - 48) % 256 from rfl]; omega
      have hw1 : IntKind.u8.wrap ((y.toNat : Int) - 48) = (y.toNat : Int) - 48 := by rw [show IntKind.u8.wrap ((y.toNat : Int) - 48) = ((y.toNat : Int) - 48) % 256 from rfl]; omega
      have hw2 : IntKind.i64.wrap ((x.toNat : Int) - 48) = (x.toNat : Int) - 48 := IntWalk.i64_in _ (by omega)
      have hw3 : IntKind.i64.wrap ((y.toNat : Int) - 48) = (y.toNat : Int) - 48 := IntWalk.i64_in _ (by omega)
      have hw4 : True := trivial
      have hw5 : True := trivial
      have hka2 : (k : Int) < (SA.size : Int) := by omega
      have hkb2 : (k : Int) < (SB.size : Int) := by omega
      go_wp2_with fail
      go_quiet (fail)
      have hE1 : (x.toNat : Int) - 48 + ((y.toNat : Int) - 48) + cr ≤ 19 := by omega
      have hE0 : -10 ≤ (x.toNat : Int) - 48 + ((y.toNat : Int) - 48) + cr := by omega
      by_cases hneg : (x.toNat : Int) - 48 + ((y.toNat : Int) - 48) + cr < 0
      · obtain ⟨c, hc, hcd⟩ := digit_of (x := (x.toNat : Int) - 48 + ((y.toNat : Int) - 48) + cr + 10) (by omega) (by omega)
        have hn9 : ¬ (9 < (x.toNat : Int) - 48 + ((y.toNat : Int) - 48) + cr + 10) := by omega
        have HAN : Hid (AddAt A B (O.set k c) (1) (-1) n k) := hide (AddAt.step (i := k) HA.out HHA.out HHB.out (by omega) hax hby (-1) hcd (by omega) (by omega) (by omega))
        have HRN : Hid (RowB ((wr.drewN nq).setCell ⟨BK, k, none⟩ (.int .u8 (48 + ((x.toNat : Int) - 48 + ((y.toNat : Int) - 48) + cr + 10)))) BK (O.set k c)) := hide (by rw [← hc]; exact RowB.set (w := wr.drewN nq) HR.out (by rw [HA.out.len]; omega) c)
        have HBN := hide ((below_drewN HB.out nq).setCell (p := ⟨BK, k, none⟩) (by have := HBK.out; omega) (.int .u8 (48 + ((x.toNat : Int) - 48 + ((y.toNat : Int) - 48) + cr + 10))))
        have hcell : (wr.drewN nq).cell? ⟨BK, k, none⟩ = some (.int .u8 (O[k]'(by rw [HA.out.len]; omega)).toNat) := (HR.out.2 k _ (List.getElem?_eq_getElem (by rw [HA.out.len]; omega))).1
        have hfrz : (wr.drewN nq).frozen? ⟨BK, k, none⟩ = false := (HR.out.2 k _ (List.getElem?_eq_getElem (by rw [HA.out.len]; omega))).2
        have hlB : BK < (wr.drewN nq).heap.size := HR.out.1
        obtain ⟨wd, hwd⟩ : ∃ wd, wr.drewN nq = wd := ⟨_, rfl⟩
        rw [hwd] at HRN HBN hcell hfrz hlB ⊢
        clear hwd hax hby hc hcd hw0 hw1 hw2 hw3 hw4 hw5 hdx hdy
        go_wp2_with fail
        go_roundw
        case rel => exact ⟨k, -1, O.set k c, by omega, IV_pred k, rfl, HAN, HRN, HBN⟩
        case measure => simp [ivN]
      · by_cases hbig : 9 < (x.toNat : Int) - 48 + ((y.toNat : Int) - 48) + cr
        · obtain ⟨c, hc, hcd⟩ := digit_of (x := (x.toNat : Int) - 48 + ((y.toNat : Int) - 48) + cr - 10) (by omega) (by omega)
          have HAN : Hid (AddAt A B (O.set k c) (1) (1) n k) := hide (AddAt.step (i := k) HA.out HHA.out HHB.out (by omega) hax hby (1) hcd (by omega) (by omega) (by omega))
          have HRN : Hid (RowB ((wr.drewN nq).setCell ⟨BK, k, none⟩ (.int .u8 (48 + ((x.toNat : Int) - 48 + ((y.toNat : Int) - 48) + cr - 10)))) BK (O.set k c)) := hide (by rw [← hc]; exact RowB.set (w := wr.drewN nq) HR.out (by rw [HA.out.len]; omega) c)
          have HBN := hide ((below_drewN HB.out nq).setCell (p := ⟨BK, k, none⟩) (by have := HBK.out; omega) (.int .u8 (48 + ((x.toNat : Int) - 48 + ((y.toNat : Int) - 48) + cr - 10))))
          have hcell : (wr.drewN nq).cell? ⟨BK, k, none⟩ = some (.int .u8 (O[k]'(by rw [HA.out.len]; omega)).toNat) := (HR.out.2 k _ (List.getElem?_eq_getElem (by rw [HA.out.len]; omega))).1
          have hfrz : (wr.drewN nq).frozen? ⟨BK, k, none⟩ = false := (HR.out.2 k _ (List.getElem?_eq_getElem (by rw [HA.out.len]; omega))).2
          have hlB : BK < (wr.drewN nq).heap.size := HR.out.1
          obtain ⟨wd, hwd⟩ : ∃ wd, wr.drewN nq = wd := ⟨_, rfl⟩
          rw [hwd] at HRN HBN hcell hfrz hlB ⊢
          clear hwd hax hby hc hcd hw0 hw1 hw2 hw3 hw4 hw5 hdx hdy
          go_wp2_with fail
          go_roundw
          case rel => exact ⟨k, 1, O.set k c, by omega, IV_pred k, rfl, HAN, HRN, HBN⟩
          case measure => simp [ivN]
        · obtain ⟨c, hc, hcd⟩ := digit_of (x := (x.toNat : Int) - 48 + ((y.toNat : Int) - 48) + cr) (by omega) (by omega)
          have HAN : Hid (AddAt A B (O.set k c) (1) (0) n k) := hide (AddAt.step (i := k) HA.out HHA.out HHB.out (by omega) hax hby (0) hcd (by omega) (by omega) (by omega))
          have HRN : Hid (RowB ((wr.drewN nq).setCell ⟨BK, k, none⟩ (.int .u8 (48 + ((x.toNat : Int) - 48 + ((y.toNat : Int) - 48) + cr)))) BK (O.set k c)) := hide (by rw [← hc]; exact RowB.set (w := wr.drewN nq) HR.out (by rw [HA.out.len]; omega) c)
          have HBN := hide ((below_drewN HB.out nq).setCell (p := ⟨BK, k, none⟩) (by have := HBK.out; omega) (.int .u8 (48 + ((x.toNat : Int) - 48 + ((y.toNat : Int) - 48) + cr))))
          have hcell : (wr.drewN nq).cell? ⟨BK, k, none⟩ = some (.int .u8 (O[k]'(by rw [HA.out.len]; omega)).toNat) := (HR.out.2 k _ (List.getElem?_eq_getElem (by rw [HA.out.len]; omega))).1
          have hfrz : (wr.drewN nq).frozen? ⟨BK, k, none⟩ = false := (HR.out.2 k _ (List.getElem?_eq_getElem (by rw [HA.out.len]; omega))).2
          have hlB : BK < (wr.drewN nq).heap.size := HR.out.1
          obtain ⟨wd, hwd⟩ : ∃ wd, wr.drewN nq = wd := ⟨_, rfl⟩
          rw [hwd] at HRN HBN hcell hfrz hlB ⊢
          clear hwd hax hby hc hcd hw0 hw1 hw2 hw3 hw4 hw5 hdx hdy
          go_wp2_with fail
          go_roundw
          case rel => exact ⟨k, 0, O.set k c, by omega, IV_pred k, rfl, HAN, HRN, HBN⟩
          case measure => simp [ivN]
    | zero =>
      rw [show IV 0 = Value.int .i64 (-1) from rfl]
      have hdn := HA.out.done HVV.out HLT.out
      have hst := strip_val O hdn.1
      have hback : (convert 57 9 (.slice (some ⟨BK, 0, none⟩) n n)).run Tryz.prog wr = .ok (.string (mkB O)) wr := by
        have := run_convert_bytes_back (P := Tryz.prog) wr 57 9 5 ⟨BK, 0, none⟩ n O Tryz.underlying57 Tryz.underlying5 Tryz.underlying9 (fun j hj => by
          have := (HR.out.2 j _ (List.getElem?_eq_getElem hj)).1
          have ea : Addr.add ⟨BK, 0, none⟩ j = ⟨BK, j, none⟩ := by
            unfold Addr.add; split
            · rename_i h; rw [h]
            · simp
          rw [ea]; exact this)
        rw [HA.out.len] at this
        exact this
      have HST : Hid (∀ r : ByteArray, r.data.toList = (mkB O).data.toList.dropWhile (· == 48) → NumR V (.returned (.string r))) := hide (fun r hr => ⟨r, rfl, by rw [hr]; exact hst.1, by rw [hr, ← hdn.2]; exact hst.2⟩)
      clear hdn hst
      go_wp2_with fail
      refine (trimL_any _ _).mono ?_
      rintro e w' ⟨r, hr1, hr2, rfl, rfl⟩
      have HR2 := hide (HST.out r hr2)
      clear hr1 hr2
      go_wp2_with fail
      go_ret
      exact ⟨HR2.out, HB.out⟩
set_option maxHeartbeats 8000000 in
set_option maxRecDepth 100000 in
theorem combSub_any (a b : ByteArray) (w : World) (ha : DigL a.data.toList) (hb : DigL b.data.toList) (hsa : a.size ≤ 100000) (hsb : b.size ≤ 100000) (hle : valL b.data.toList ≤ valL a.data.toList) :
    Calls Tryz.prog 101 #[.string a, .string b, .int .i64 (-1)] w fun e w' => NumR (valL a.data.toList - valL b.data.toList) e ∧ Below w.heap.size w w' := by
  obtain ⟨n, hn⟩ : ∃ n, max a.size b.size + 1 = n := ⟨_, rfl⟩
  have hni : max (a.size : Int) (b.size : Int) + 1 = (n : Int) := by omega
  have hn1 : n ≤ 100001 := by omega
  have hn0 : 1 ≤ n := by omega
  have la := len_size a
  have lb := len_size b
  have hA : (padL n a.data.toList).length = n := padL_len (by omega)
  have hB : (padL n b.data.toList).length = n := padL_len (by omega)
  have HLT : Hid (valL a.data.toList - valL b.data.toList < 10 ^ n) := hide (by
    have h1 := valL_lt _ ha
    have h2 := valL_lt _ hb
    have h3 : 10 ^ a.data.toList.length ≤ 10 ^ (n - 1) := Nat.pow_le_pow_right (by omega) (by omega)
    have h4 : 10 ^ b.data.toList.length ≤ 10 ^ (n - 1) := Nat.pow_le_pow_right (by omega) (by omega)
    have h5 : 10 ^ n = 10 ^ (n - 1) * 10 := by rw [← Nat.pow_succ, show (n - 1).succ = n by omega]
    omega)
  have HVV : Hid ((valL (padL n a.data.toList) : Int) + (-1) * (valL (padL n b.data.toList) : Int) = ((valL a.data.toList - valL b.data.toList : Nat) : Int)) := hide (by rw [padL_val, padL_val]; omega)
  have HFA := hide (fun W => filled_any a (n : Int) true W (by omega) (by omega) (by omega))
  have HFB := hide (fun W => filled_any b (n : Int) true W (by omega) (by omega) (by omega))
  rw [fillS_dig ha, Int.toNat_natCast] at HFA
  rw [fillS_dig hb, Int.toNat_natCast] at HFB
  have HDA := hide (padL_dig (n := n) ha)
  have HDB := hide (padL_dig (n := n) hb)
  obtain ⟨A, hAA⟩ : ∃ A, padL n a.data.toList = A := ⟨_, rfl⟩
  obtain ⟨B, hBB⟩ : ∃ B, padL n b.data.toList = B := ⟨_, rfl⟩
  rw [hAA] at HFA HDA hA HVV
  rw [hBB] at HFB HDB hB HVV
  obtain ⟨V, hV⟩ : ∃ V, valL a.data.toList - valL b.data.toList = V := ⟨_, rfl⟩
  rw [hV] at HLT HVV
  rw [hV]
  have HMS : Hid ((mkB A).size = n ∧ (mkB B).size = n) := hide ⟨by rw [mkB_size, hA], by rw [mkB_size, hB]⟩
  have HMD : Hid ((mkB A).data.toList = A ∧ (mkB B).data.toList = B) := hide ⟨rfl, rfl⟩
  obtain ⟨SA, hSA⟩ : ∃ SA, mkB A = SA := ⟨_, rfl⟩
  obtain ⟨SB, hSB⟩ : ∃ SB, mkB B = SB := ⟨_, rfl⟩
  rw [hSA] at HFA HMS HMD
  rw [hSB] at HFB HMS HMD
  have hmk := run_make_row' (P := Tryz.prog) 57 5 (.int .u8 0) 1 Tryz.underlying57 infoB rfl .i64 .i64 n (by omega) (by omega)
  have HHA := hide hA
  have HHB := hide hB
  clear hn la lb hA hB ha hb hAA hBB hV hSA hSB hle
  go_enter Tryz.func101, Tryz.ntmps101
  go_wp2_with fail
  refine (HFA.out _).mono ?_
  rintro e w1 ⟨rfl, hb1⟩
  go_wp2_with fail
  refine (HFB.out _).mono ?_
  rintro e w2 ⟨rfl, hb2⟩
  have HB2 := hide (hb1.trans (hb2.mono hb1.size))
  clear hb1 hb2
  have HBK : Hid (w.heap.size ≤ w2.heap.size) := hide HB2.out.size
  have HR0 := hide (rowB_made w2 n 5)
  have HB0 := hide (HB2.out.alloc HB2.out.size (.cells (madeCells #[.int .u8 0] n) 5))
  have HA0 : Hid (AddAt A B (List.replicate n 0) (-1) 0 n n) := hide (AddAt.start (-1) HHA.out HHB.out (List.length_replicate ..))
  go_wp2_with fail
  clear hmk hni
  obtain ⟨BK, hBK⟩ : ∃ BK, w2.heap.size = BK := ⟨_, rfl⟩
  rw [hBK] at HR0 HBK
  simp only [hBK]
  clear hBK
  have HN0 : Hid (Value.int .i64 ((n : Int) - 1) = IV n) := hide (IV_pred n)
  go_loopw [9, 10] (fun cv iv wr => ∃ (i : Nat) (cr : Int) (O : List UInt8), i ≤ n ∧ iv = IV i ∧ cv = .int .i64 cr ∧ Hid (AddAt A B O (-1) cr n i) ∧ Hid (RowB wr BK O) ∧ Hid (Below w.heap.size w wr)) (fun _ iv _ => ivN iv)
  case atStart => exact ⟨n, 0, List.replicate n 0, by omega, HN0.out, rfl, HA0, HR0, HB0⟩
  case round =>
    obtain ⟨i, cr, O, hi, rfl, rfl, HA, HR, HB⟩ := hrel
    cases i with
    | succ k =>
      rw [show IV (k + 1) = Value.int .i64 (k : Int) from rfl]
      have hd : (0 : Int) ≤ (k : Int) := by omega
      have hka : k < SA.size := by rw [HMS.out.1]; omega
      have hkb : k < SB.size := by rw [HMS.out.2]; omega
      have hax : A[k]? = some SA[k] := by
        have h : SA.data.toList[k]? = some SA[k] := by rw [List.getElem?_eq_getElem (by rw [len_size]; exact hka)]; rfl
        rwa [HMD.out.1] at h
      have hby : B[k]? = some SB[k] := by
        have h : SB.data.toList[k]? = some SB[k] := by rw [List.getElem?_eq_getElem (by rw [len_size]; exact hkb)]; rfl
        rwa [HMD.out.2] at h
      have hdx := HDA.out _ (List.mem_of_getElem? hax)
      have hdy := HDB.out _ (List.mem_of_getElem? hby)
      obtain ⟨x, hx⟩ : ∃ x, SA[k] = x := ⟨_, rfl⟩
      obtain ⟨y, hy⟩ : ∃ y, SB[k] = y := ⟨_, rfl⟩
      rw [hx] at hax hdx
      rw [hy] at hby hdy
      have hx1 : 48 ≤ (x.toNat : Int) := by omega
      have hx2 : (x.toNat : Int) ≤ 57 := by omega
      have hy1 : 48 ≤ (y.toNat : Int) := by omega
      have hy2 : (y.toNat : Int) ≤ 57 := by omega
      have hcr1 := HA.out.lo
      have hcr2 := HA.out.hi
      have hw0 : IntKind.u8.wrap ((x.toNat : Int) - 48) = (x.toNat : Int) - 48 := by rw [show IntKind.u8.wrap ((x.toNat : Int) - 48) = ((x.toNat : Int) - 48) % 256 from rfl]; omega
      have hw1 : IntKind.u8.wrap ((y.toNat : Int) - 48) = (y.toNat : Int) - 48 := by rw [show IntKind.u8.wrap ((y.toNat : Int) - 48) = ((y.toNat : Int) - 48) % 256 from rfl]; omega
      have hw2 : IntKind.i64.wrap ((x.toNat : Int) - 48) = (x.toNat : Int) - 48 := IntWalk.i64_in _ (by omega)
      have hw3 : IntKind.i64.wrap ((y.toNat : Int) - 48) = (y.toNat : Int) - 48 := IntWalk.i64_in _ (by omega)
      have hw4 : True := trivial
      have hw5 : True := trivial
      have hka2 : (k : Int) < (SA.size : Int) := by omega
      have hkb2 : (k : Int) < (SB.size : Int) := by omega
      go_wp2_with fail
      go_quiet (fail)
      have hE1 : (x.toNat : Int) - 48 - ((y.toNat : Int) - 48) + cr ≤ 19 := by omega
      have hE0 : -10 ≤ (x.toNat : Int) - 48 - ((y.toNat : Int) - 48) + cr := by omega
      by_cases hneg : (x.toNat : Int) - 48 - ((y.toNat : Int) - 48) + cr < 0
      · obtain ⟨c, hc, hcd⟩ := digit_of (x := (x.toNat : Int) - 48 - ((y.toNat : Int) - 48) + cr + 10) (by omega) (by omega)
        have hn9 : ¬ (9 < (x.toNat : Int) - 48 - ((y.toNat : Int) - 48) + cr + 10) := by omega
        have HAN : Hid (AddAt A B (O.set k c) (-1) (-1) n k) := hide (AddAt.step (i := k) HA.out HHA.out HHB.out (by omega) hax hby (-1) hcd (by omega) (by omega) (by omega))
        have HRN : Hid (RowB ((wr.drewN nq).setCell ⟨BK, k, none⟩ (.int .u8 (48 + ((x.toNat : Int) - 48 - ((y.toNat : Int) - 48) + cr + 10)))) BK (O.set k c)) := hide (by rw [← hc]; exact RowB.set (w := wr.drewN nq) HR.out (by rw [HA.out.len]; omega) c)
        have HBN := hide ((below_drewN HB.out nq).setCell (p := ⟨BK, k, none⟩) (by have := HBK.out; omega) (.int .u8 (48 + ((x.toNat : Int) - 48 - ((y.toNat : Int) - 48) + cr + 10))))
        have hcell : (wr.drewN nq).cell? ⟨BK, k, none⟩ = some (.int .u8 (O[k]'(by rw [HA.out.len]; omega)).toNat) := (HR.out.2 k _ (List.getElem?_eq_getElem (by rw [HA.out.len]; omega))).1
        have hfrz : (wr.drewN nq).frozen? ⟨BK, k, none⟩ = false := (HR.out.2 k _ (List.getElem?_eq_getElem (by rw [HA.out.len]; omega))).2
        have hlB : BK < (wr.drewN nq).heap.size := HR.out.1
        obtain ⟨wd, hwd⟩ : ∃ wd, wr.drewN nq = wd := ⟨_, rfl⟩
        rw [hwd] at HRN HBN hcell hfrz hlB ⊢
        clear hwd hax hby hc hcd hw0 hw1 hw2 hw3 hw4 hw5 hdx hdy
        go_wp2_with fail
        go_roundw
        case rel => exact ⟨k, -1, O.set k c, by omega, IV_pred k, rfl, HAN, HRN, HBN⟩
        case measure => simp [ivN]
      · by_cases hbig : 9 < (x.toNat : Int) - 48 - ((y.toNat : Int) - 48) + cr
        · obtain ⟨c, hc, hcd⟩ := digit_of (x := (x.toNat : Int) - 48 - ((y.toNat : Int) - 48) + cr - 10) (by omega) (by omega)
          have HAN : Hid (AddAt A B (O.set k c) (-1) (1) n k) := hide (AddAt.step (i := k) HA.out HHA.out HHB.out (by omega) hax hby (1) hcd (by omega) (by omega) (by omega))
          have HRN : Hid (RowB ((wr.drewN nq).setCell ⟨BK, k, none⟩ (.int .u8 (48 + ((x.toNat : Int) - 48 - ((y.toNat : Int) - 48) + cr - 10)))) BK (O.set k c)) := hide (by rw [← hc]; exact RowB.set (w := wr.drewN nq) HR.out (by rw [HA.out.len]; omega) c)
          have HBN := hide ((below_drewN HB.out nq).setCell (p := ⟨BK, k, none⟩) (by have := HBK.out; omega) (.int .u8 (48 + ((x.toNat : Int) - 48 - ((y.toNat : Int) - 48) + cr - 10))))
          have hcell : (wr.drewN nq).cell? ⟨BK, k, none⟩ = some (.int .u8 (O[k]'(by rw [HA.out.len]; omega)).toNat) := (HR.out.2 k _ (List.getElem?_eq_getElem (by rw [HA.out.len]; omega))).1
          have hfrz : (wr.drewN nq).frozen? ⟨BK, k, none⟩ = false := (HR.out.2 k _ (List.getElem?_eq_getElem (by rw [HA.out.len]; omega))).2
          have hlB : BK < (wr.drewN nq).heap.size := HR.out.1
          obtain ⟨wd, hwd⟩ : ∃ wd, wr.drewN nq = wd := ⟨_, rfl⟩
          rw [hwd] at HRN HBN hcell hfrz hlB ⊢
          clear hwd hax hby hc hcd hw0 hw1 hw2 hw3 hw4 hw5 hdx hdy
          go_wp2_with fail
          go_roundw
          case rel => exact ⟨k, 1, O.set k c, by omega, IV_pred k, rfl, HAN, HRN, HBN⟩
          case measure => simp [ivN]
        · obtain ⟨c, hc, hcd⟩ := digit_of (x := (x.toNat : Int) - 48 - ((y.toNat : Int) - 48) + cr) (by omega) (by omega)
          have HAN : Hid (AddAt A B (O.set k c) (-1) (0) n k) := hide (AddAt.step (i := k) HA.out HHA.out HHB.out (by omega) hax hby (0) hcd (by omega) (by omega) (by omega))
          have HRN : Hid (RowB ((wr.drewN nq).setCell ⟨BK, k, none⟩ (.int .u8 (48 + ((x.toNat : Int) - 48 - ((y.toNat : Int) - 48) + cr)))) BK (O.set k c)) := hide (by rw [← hc]; exact RowB.set (w := wr.drewN nq) HR.out (by rw [HA.out.len]; omega) c)
          have HBN := hide ((below_drewN HB.out nq).setCell (p := ⟨BK, k, none⟩) (by have := HBK.out; omega) (.int .u8 (48 + ((x.toNat : Int) - 48 - ((y.toNat : Int) - 48) + cr))))
          have hcell : (wr.drewN nq).cell? ⟨BK, k, none⟩ = some (.int .u8 (O[k]'(by rw [HA.out.len]; omega)).toNat) := (HR.out.2 k _ (List.getElem?_eq_getElem (by rw [HA.out.len]; omega))).1
          have hfrz : (wr.drewN nq).frozen? ⟨BK, k, none⟩ = false := (HR.out.2 k _ (List.getElem?_eq_getElem (by rw [HA.out.len]; omega))).2
          have hlB : BK < (wr.drewN nq).heap.size := HR.out.1
          obtain ⟨wd, hwd⟩ : ∃ wd, wr.drewN nq = wd := ⟨_, rfl⟩
          rw [hwd] at HRN HBN hcell hfrz hlB ⊢
          clear hwd hax hby hc hcd hw0 hw1 hw2 hw3 hw4 hw5 hdx hdy
          go_wp2_with fail
          go_roundw
          case rel => exact ⟨k, 0, O.set k c, by omega, IV_pred k, rfl, HAN, HRN, HBN⟩
          case measure => simp [ivN]
    | zero =>
      rw [show IV 0 = Value.int .i64 (-1) from rfl]
      have hdn := HA.out.done HVV.out HLT.out
      have hst := strip_val O hdn.1
      have hback : (convert 57 9 (.slice (some ⟨BK, 0, none⟩) n n)).run Tryz.prog wr = .ok (.string (mkB O)) wr := by
        have := run_convert_bytes_back (P := Tryz.prog) wr 57 9 5 ⟨BK, 0, none⟩ n O Tryz.underlying57 Tryz.underlying5 Tryz.underlying9 (fun j hj => by
          have := (HR.out.2 j _ (List.getElem?_eq_getElem hj)).1
          have ea : Addr.add ⟨BK, 0, none⟩ j = ⟨BK, j, none⟩ := by
            unfold Addr.add; split
            · rename_i h; rw [h]
            · simp
          rw [ea]; exact this)
        rw [HA.out.len] at this
        exact this
      have HST : Hid (∀ r : ByteArray, r.data.toList = (mkB O).data.toList.dropWhile (· == 48) → NumR V (.returned (.string r))) := hide (fun r hr => ⟨r, rfl, by rw [hr]; exact hst.1, by rw [hr, ← hdn.2]; exact hst.2⟩)
      clear hdn hst
      go_wp2_with fail
      refine (trimL_any _ _).mono ?_
      rintro e w' ⟨r, hr1, hr2, rfl, rfl⟩
      have HR2 := hide (HST.out r hr2)
      clear hr1 hr2
      go_wp2_with fail
      go_ret
      exact ⟨HR2.out, HB.out⟩
end Go.Proofs.YtoieicdnehnacaaGreatDoor
