/- Printf, the reference: Printed (printed by gen_pfrl.py). -/
import Derived.Test.YtifpmigghplmoaaGreatDoorZPfRk
import Derived.Test.YtifpmigghplmoaaGreatDoorZPfRf
import Derived.Test.YtifpmigghplmoaaGreatDoorZPfRj
set_option linter.unusedVariables false
set_option linter.unusedSimpArgs false
namespace Go.Proofs.YtifpmigghplmoaaGreatDoor
open Go.RowKit Go.Pw Go.Shelf
/-- the row of a directive as the reference's struct holds it -/
theorem rv_cells {w : World} {b : Nat} {x : Array Value} {t : TypeId} (h : w.heap[b]? = some (.cells x t (0, 0))) (j : Nat) : w.cell? ⟨b, j, none⟩ = x[j]? := by
  rw [Lib.cell_of_heap h]
def lenR (v : Value) : Nat := match v with | .slice _ n _ => n | _ => 0
theorem rdP_pct {r q : List UInt8} {d : Dv} (h : rdP r = some (d, q)) (h0 : d.lt = 0) : d.tx = [37] := by
  by_cases hp : ∃ r', r = 37 :: r'
  · obtain ⟨r', rfl⟩ := hp
    rw [rdP] at h
    cases h; rfl
  · rw [rdP_dir (fun r' e => hp ⟨r', e⟩)] at h
    split at h
    · cases h
    · obtain ⟨a, b, c⟩ := dirB_ok h
      rw [h0] at c
      exact absurd c (by decide)
set_option maxHeartbeats 32000000 in
set_option maxRecDepth 100000 in
theorem printed_any (s : ByteArray) (A : Option Addr) (l : List ByteArray) (cap : Nat) (w : World) (hs : s.size ≤ 8192) (hst : Strs w (.slice A l.length cap) l) (hl : l.length ≤ 64) (hz : ∀ x ∈ l, x.size ≤ 65536) :
    Calls Tryz.prog 16 #[.string s, .slice A l.length cap, .bool false] w fun e w' => e = .returned (.tuple #[.string (mkB (pfOut s.data.toList (texts l)).1), .int .i64 (pfOut s.data.toList (texts l)).2]) ∧ Below w.heap.size w w' := by
  have HL := hide (len_size s)
  have HLZ := hide hz
  have HST := hide hst
  obtain ⟨bs, hbs⟩ : ∃ bs, s.data.toList = bs := ⟨_, rfl⟩
  have HBS := hide hbs
  rw [hbs]
  rw [hbs] at HL
  have HGT : Hid (∀ i (h : i < s.size), bs.drop i = s[i]'h :: bs.drop (i + 1)) := hide (fun i h => by
    have h2 : i < bs.length := by rw [HL.out]; exact h
    rw [List.drop_eq_getElem_cons h2]
    subst hbs; rfl)
  have HXD : Hid (∀ i, (s.extract i s.size).data.toList = bs.drop i) := hide (fun i => by rw [extract_drop, mkB_data2, hbs])
  clear hst hz hbs
  go_enter Tryz.func16, Tryz.ntmps16
  go_wp2_with fail
  go_loopw [8, 9] (fun tv iv wr => ∃ (i : Nat) (tk : Bool), tv = .bool tk ∧ iv = .int .i64 (i : Int) ∧ i ≤ s.size ∧ Hid (CkAt bs i tk) ∧ Hid (Below w.heap.size w wr)) (fun _ iv _ => s.size - (intOf iv).toNat)
  case atStart => exact ⟨0, false, rfl, rfl, by omega, hide (CkAt.start _), hide (Below.refl _ _)⟩
  case round =>
    obtain ⟨i, tk, rfl, rfl, hi, HCK, HB⟩ := hrel
    by_cases hlt : i < s.size
    case pos =>
      have d0 : (i : Int) < (s.size : Int) := by omega
      have d1 : (i : Int) ≤ (s.size : Int) := by omega
      have d2 : i ≤ s.size := by omega
      obtain ⟨c, hc⟩ : ∃ c, s[i]'hlt = c := ⟨_, rfl⟩
      have HC := hide hc
      have HDR : Hid (bs.drop i = c :: bs.drop (i + 1)) := hide (by rw [HGT.out i hlt, hc])
      have hbl : i < bs.length := by rw [HL.out]; exact hlt
      have HBL := hide hbl
      have hxz : (s.extract i s.size).size ≤ 8192 := by rw [ByteArray.size_extract]; omega
      have hx0 : 0 < (s.extract i s.size).size := by rw [ByteArray.size_extract]; omega
      have hx1 : (s.extract i s.size).data.toList.drop 1 = bs.drop (i + 1) := by rw [HXD.out, HDR.out]; rfl
      have HES := hide (fun W => escapeR_any (s.extract i s.size) W (by omega))
      have HDO := hide (fun W => directiveOf_any (s.extract i s.size) W (by omega) hx0)
      simp only [hx1] at HES HDO
      unfold dirQV at HDO
      clear hbl hxz hx0 hx1
      by_cases h92 : c = 92
      case pos =>
        have f92 : (((s[i]'hlt).toNat : Int) == 92) = true := by rw [hc, h92]; rfl
        clear hc
        cases he : escP (bs.drop (i + 1)) with
        | none =>
          have HN : Hid (pfOut bs (texts l) = ([], 1)) := hide (by
            unfold pfOut
            rw [HCK.out.no HBL.out (by rw [HDR.out, hdP, if_neg (by rw [h92]; decide), if_pos h92, he])])
          unfold escQ at HES
          simp only [he] at HES
          clear he h92
          go_wp2_with fail
          refine (HES.out _).mono ?_
          rintro e w2 ⟨rfl, hb⟩
          have HB2 := hide (HB.out.trans (hb.mono HB.out.size))
          clear hb
          go_wp2_with fail
          go_ret2
          exact ⟨by rw [HN.out]; rfl, HB2.out⟩
        | some x =>
          obtain ⟨x, k⟩ := x
          obtain ⟨hk1, hk2⟩ := escP_k he
          rw [List.length_drop, HL.out] at hk1
          have HN := hide (HCK.out.next (d := txD x) (k := k + 1) (by rw [HDR.out, hdP, if_neg (by rw [h92]; decide), if_pos h92, he]))
          have hk3 : 0 < (k : Int) + 1 := by omega
          have hk4 : ((k : Int) + 1 == 0) = false := by simp; omega
          unfold escQ at HES
          simp only [he] at HES
          clear he h92
          go_wp2_with fail
          refine (HES.out _).mono ?_
          rintro e w2 ⟨rfl, hb⟩
          have HB2 := hide (HB.out.trans (hb.mono HB.out.size))
          clear hb
          go_wp2_with fail
          go_roundw
          case rel => exact ⟨i + (k + 1), tk, rfl, by first | go_num | (simp; omega), by omega, by simpa [txD] using HN, HB2⟩
          case measure => simp [intOf]; omega
      case neg =>
        have f92 : (((s[i]'hlt).toNat : Int) == 92) = false := by rw [hc]; exact u8_neN h92
        by_cases h37 : c = 37
        case pos =>
          have f37 : (((s[i]'hlt).toNat : Int) == 37) = true := by rw [hc, h37]; rfl
          clear hc
          cases hr : rdP (bs.drop (i + 1)) with
          | none =>
            have HN : Hid (pfOut bs (texts l) = ([], 1)) := hide (by
              unfold pfOut
              rw [HCK.out.no HBL.out (by rw [HDR.out, hdP, if_pos h37, hr])])
            unfold dirQ rv0 at HDO
            simp only [hr] at HDO
            clear hr h37 h92
            go_wp2_with fail
            refine (HDO.out _).mono ?_
            rintro e w2 ⟨rfl, hb⟩
            have HB2 := hide (HB.out.trans (hb.mono HB.out.size))
            have HB3 := hide (HB2.out.alloc HB2.out.size (.cells #[.bool false, .bool false, .bool false, .bool false, .bool false, .int .i64 0, .int .i64 0, .int .u8 0, .int .i64 0] 97))
            clear hb
            cases tk
            all_goals
              go_wp2_with fail
              go_ret2
              exact ⟨by rw [HN.out]; rfl, HB3.out⟩
          | some x =>
            obtain ⟨d, q⟩ := x
            obtain ⟨hq1, hq2⟩ := rdP_len' hr
            obtain ⟨K, hK⟩ : ∃ K, (bs.drop (i + 1)).length - q.length + 1 = K := ⟨_, rfl⟩
            have HN := hide (HCK.out.next (d := d) (k := K) (by rw [HDR.out, hdP, if_pos h37, hr, ← hK]))
            have hk0 : 0 < K := by omega
            have hkz : i + K ≤ s.size := by rw [List.length_drop, HL.out] at hq1 hK; omega
            have hk3 : (0 : Int) < (K : Int) := by omega
            have hk4 : ((K : Int) == 0) = false := by simp; omega
            unfold dirQ at HDO
            simp only [hr, hK] at HDO
            obtain ⟨lt, hlt9⟩ : ∃ lt : Int, (if d.lt = 0 then 37 else (d.lt.toNat : Int)) = lt := ⟨_, rfl⟩
            have HLT : Hid ((lt != 37) = (d.lt != 0)) := hide (by
              rw [← hlt9]
              obtain ⟨-, hkd⟩ := rdP_ok hr
              rcases hkd with ⟨h, -⟩ | ⟨h, -⟩
              · rw [h]; rfl
              · revert h
                intro h
                have h2 : ∀ x ∈ letL, ((if x = 0 then (37 : Int) else (x.toNat : Int)) != 37) = (x != 0) := by decide
                exact h2 _ h)
            unfold rvC at HDO
            rw [hlt9] at HDO
            obtain ⟨pi, hpi⟩ : ∃ pi : Int, (if d.dot = true then (d.pr : Int) else -1) = pi := ⟨_, rfl⟩
            rw [hpi] at HDO
            clear hr h37 h92 hq1 hq2 hK hlt9 hpi
            go_wp2_with fail
            refine (HDO.out _).mono ?_
            rintro e w2 ⟨rfl, hb⟩
            have HB2 := hide (HB.out.trans (hb.mono HB.out.size))
            clear hb
            have HB3 := hide (HB2.out.alloc HB2.out.size (.cells #[.bool (decide (45 ∈ d.fl)), .bool (decide (43 ∈ d.fl)), .bool (decide (32 ∈ d.fl)), .bool (decide (48 ∈ d.fl)), .bool (decide (35 ∈ d.fl)), .int .i64 (d.wd : Int), .int .i64 pi, .int .u8 lt, .int .i64 (K : Int)] 97))
            cases tk
            case true =>
              go_wp2_with fail
              go_roundw
              case rel => exact ⟨i + K, true, rfl, by first | go_num | (simp; omega), by omega, by simpa using HN, HB3⟩
              case measure => simp [intOf]; omega
            case false =>
              cases hlb : (d.lt != 0)
              all_goals
                rw [hlb] at HLT HN
                have hl2 := HLT.out
                clear hlb
                go_wp2_with fail
                go_roundw
                case rel => exact ⟨i + K, _, rfl, by first | go_num | (simp; omega), by omega, by simpa using HN, HB3⟩
                case measure => simp [intOf]; omega
        case neg =>
          have f37 : (((s[i]'hlt).toNat : Int) == 37) = false := by rw [hc]; exact u8_neN h37
          have HN := hide (HCK.out.next (d := txD c) (k := 1) (by rw [HDR.out, hdP, if_neg h37, if_neg h92]))
          clear hc h37 h92
          go_wp2_with fail
          go_roundw
          case rel => exact ⟨i + 1, tk, rfl, by first | go_num | (simp; omega), by omega, by simpa [txD] using HN, HB⟩
          case measure => simp [intOf]; omega
    case neg =>
      have d0 : ¬ (i : Int) < (s.size : Int) := by omega
      obtain ⟨ds, hds, htk⟩ := HCK.out.done (by rw [HL.out]; omega)
      have HV : Hid (pfOut bs (texts l) = lopP ds (l.length + 1) (texts l) []) := hide (by unfold pfOut; rw [hds]; simp only [texts, List.length_map])
      have HDK := hide (pfP_ok hds)
      have HRI0 := hide (RiAt.start hds)
      have HTK := hide htk
      clear hds htk hi
      go_wp2_with fail
      go_loopw [1, 12] (fun av ov wr => ∃ (gs : List ByteArray) (B : Option Addr) (c : Nat) (out : List UInt8) (r : Nat) (tk' : Bool), av = .slice B gs.length c ∧ ov = .string (mkB out) ∧ out.length ≤ 65536 ∧ Hid (LpAt ds l gs out r tk') ∧ Hid (r = 0 ∨ (tk' = true ∧ gs ≠ [])) ∧ Hid (Strs w (.slice B gs.length c) gs) ∧ Hid (∀ x ∈ gs, x.size ≤ 65536) ∧ Hid (Below w.heap.size w wr)) (fun av _ _ => lenR av)
      case atStart => exact ⟨l, A, cap, [], 0, true, rfl, rfl, by simp, hide (LpAt.start _ _ _), hide (Or.inl rfl), HST, HLZ, HB⟩
      case round =>
        obtain ⟨gs, B, c0, out, r, tk', rfl, rfl, hol, HLP, HCN, HSG, HGZ, HBW⟩ := hrel
        go_wp2_with fail
        go_loopw [1, 12, 13] (fun av ov iv wr => ∃ (gs2 : List ByteArray) (B : Option Addr) (c : Nat) (out2 : List UInt8) (i j : Nat) (tk2 : Bool), av = .slice B gs2.length c ∧ ov = .string (mkB out2) ∧ iv = .int .i64 (i : Int) ∧ i ≤ s.size ∧ out2.length ≤ 65536 ∧ Hid (RiAt bs ds i j) ∧ Hid (RnAt ds gs gs2 out out2 j tk2) ∧ Hid (Strs w (.slice B gs2.length c) gs2) ∧ Hid (∀ x ∈ gs2, x.size ≤ 65536) ∧ Hid (Below w.heap.size w wr)) (fun _ _ iv _ => s.size - (intOf iv).toNat)
        case atStart => exact ⟨gs, B, c0, out, 0, 0, false, rfl, rfl, rfl, by omega, hol, HRI0, hide (RnAt.start _ _ _), HSG, HGZ, HBW⟩
        case round =>
          obtain ⟨gs2, B2, c2, out2, i, j, tk2, rfl, rfl, rfl, hi, hol2, HRI, HRN, HSG2, HGZ2, HB2⟩ := hrel
          by_cases hlt : i < s.size
          case pos =>
            have d0 : (i : Int) < (s.size : Int) := by omega
            have d1 : (i : Int) ≤ (s.size : Int) := by omega
            obtain ⟨d, k, hhd, hk0, hik, hget, hri2⟩ := HRI.out.part (by rw [HL.out]; exact hlt)
            rw [HL.out] at hik
            have HRI2 := hide hri2
            have HGET := hide hget
            obtain ⟨c, hc⟩ : ∃ c, s[i]'hlt = c := ⟨_, rfl⟩
            have HDR : Hid (bs.drop i = c :: bs.drop (i + 1)) := hide (by rw [HGT.out i hlt, hc])
            have HON : Hid (s.extract i (i + 1) = mkB [c]) := hide (by rw [one_cut s i hlt, hc])
            rw [HDR.out, hdP] at hhd
            have hx0 : 0 < (s.extract i s.size).size := by rw [ByteArray.size_extract]; omega
            have hx1 : (s.extract i s.size).data.toList.drop 1 = bs.drop (i + 1) := by rw [HXD.out, HDR.out]; rfl
            have HES := hide (fun W => escapeR_any (s.extract i s.size) W (by rw [ByteArray.size_extract]; omega))
            have HDO := hide (fun W => directiveOf_any (s.extract i s.size) W (by rw [ByteArray.size_extract]; omega) hx0)
            simp only [hx1] at HES HDO
            unfold dirQV at HDO
            obtain ⟨u, hu⟩ : ∃ u, mkB out2 = u := ⟨_, rfl⟩
            have huz : u.size = out2.length := by rw [← hu, mkB_size]
            have hub : u.size ≤ 65536 := by omega
            have HU := hide hu
            rw [hu]
            clear hget hri2 hx0 hx1 hu huz
            by_cases h37 : c = 37
            case pos =>
              have f37 : (((s[i]'hlt).toNat : Int) == 37) = true := by rw [hc, h37]; rfl
              have f92 : (((s[i]'hlt).toNat : Int) == 92) = false := by rw [hc, h37]; rfl
              rw [if_pos h37] at hhd
              clear hc
              cases hr : rdP (bs.drop (i + 1)) with
              | none => rw [hr] at hhd; cases hhd
              | some x =>
                obtain ⟨d', q⟩ := x
                rw [hr] at hhd
                simp only [Option.some.injEq, Prod.mk.injEq] at hhd
                obtain ⟨rfl, hkk⟩ := hhd
                obtain ⟨hdok, hkind⟩ := rdP_ok hr
                unfold dirQ at HDO
                simp only [hr, hkk] at HDO
                have hpct := fun h0 => rdP_pct hr h0
                clear hr hkk h37
                by_cases h0 : d'.lt = 0
                · have HD0 := hide h0
                  have HTX := hide (hpct h0)
                  obtain ⟨row, hrow⟩ : ∃ row, rvC d' k = row := ⟨_, rfl⟩
                  have hr7 : rvC d' k = #[.bool (decide (45 ∈ d'.fl)), .bool (decide (43 ∈ d'.fl)), .bool (decide (32 ∈ d'.fl)), .bool (decide (48 ∈ d'.fl)), .bool (decide (35 ∈ d'.fl)), .int .i64 (d'.wd : Int), .int .i64 (if d'.dot = true then (d'.pr : Int) else -1), .int .u8 37, .int .i64 (k : Int)] := by unfold rvC; rw [if_pos h0]
                  obtain ⟨pi, hpi⟩ : ∃ pi : Int, (if d'.dot = true then (d'.pr : Int) else -1) = pi := ⟨_, rfl⟩
                  rw [hpi] at hr7
                  rw [hr7] at HDO
                  clear hrow hpi hr7 h0 hpct hkind
                  go_wp2_with fail
                  refine (HDO.out _).mono ?_
                  rintro e w3 ⟨rfl, hb⟩
                  have HB3 := hide (HB2.out.trans (hb.mono HB2.out.size))
                  clear hb
                  have HB4 := hide (HB3.out.alloc HB3.out.size (.cells #[.bool (decide (45 ∈ d'.fl)), .bool (decide (43 ∈ d'.fl)), .bool (decide (32 ∈ d'.fl)), .bool (decide (48 ∈ d'.fl)), .bool (decide (35 ∈ d'.fl)), .int .i64 (d'.wd : Int), .int .i64 pi, .int .u8 37, .int .i64 (k : Int)] 97))
                  obtain ⟨z, hz⟩ : ∃ z, (⟨#[37]⟩ : ByteArray) = z := ⟨_, rfl⟩
                  have hzz : z.size = 1 := by rw [← hz]; rfl
                  have HZ : Hid (z = mkB [37]) := hide (by rw [← hz]; rfl)
                  have hzl : z.size ≤ 80000 := by omega
                  clear hzz
                  have HAP : Hid (u ++ z = mkB (out2 ++ [37])) := hide (by rw [← HU.out, HZ.out, mkB_app'])
                  have hL : (out2 ++ [37]).length = u.size + z.size := by rw [← mkB_size, ← HAP.out, ByteArray.size_append]
                  by_cases hbig : 65536 < u.size + z.size
                  · have HRB : Hid (rndP ds (texts gs) out = .inl 2) := hide (HRN.out.txtBig HGET.out HD0.out (by rw [HTX.out, hL]; exact hbig))
                    have hb' : (65536 : Int) < (u.size : Int) + (z.size : Int) := by omega
                    clear hL
                    go_wp2_with fail
                    have HFIN := hide (HV.out.trans (HLP.out.bad HCN.out HRB.out))
                    go_ret2
                    exact ⟨by rw [HFIN.out]; rfl, HB4.out⟩
                  · have HRN2 : Hid (RnAt ds gs gs2 out (out2 ++ [37]) (j + 1) tk2) := hide (by have h := HRN.out.txt HGET.out HD0.out (by rw [HTX.out, hL]; exact hbig); rw [HTX.out] at h; exact h)
                    have hb' : ¬ (65536 : Int) < (u.size : Int) + (z.size : Int) := by omega
                    have hol3 : (out2 ++ [37]).length ≤ 65536 := by omega
                    have HOL := hide hol3
                    clear hL hol3
                    go_wp2_with fail
                    go_roundw
                    case rel => exact ⟨gs2, B2, c2, out2 ++ [37], i + k, j + 1, tk2, rfl, by rw [← HAP.out], by first | go_num | (simp; omega) | (congr 1; omega), hik, HOL.out, HRI2, HRN2, HSG2, HGZ2, HB4⟩
                    case measure => simp [intOf]; omega
                · have HN0 := hide h0
                  have hletter : d'.lt ∈ letL := by
                    rcases hkind with ⟨h, -⟩ | ⟨h, -⟩
                    · exact absurd h h0
                    · exact h
                  obtain ⟨d, hdd⟩ : ∃ d, d' = d := ⟨_, rfl⟩
                  subst hdd
                  have hr7 := rvC_row d' k h0
                  obtain ⟨b45, hb45⟩ : ∃ x, decide (45 ∈ d'.fl) = x := ⟨_, rfl⟩
                  obtain ⟨b43, hb43⟩ : ∃ x, decide (43 ∈ d'.fl) = x := ⟨_, rfl⟩
                  obtain ⟨b32, hb32⟩ : ∃ x, decide (32 ∈ d'.fl) = x := ⟨_, rfl⟩
                  obtain ⟨b48, hb48⟩ : ∃ x, decide (48 ∈ d'.fl) = x := ⟨_, rfl⟩
                  obtain ⟨b35, hb35⟩ : ∃ x, decide (35 ∈ d'.fl) = x := ⟨_, rfl⟩
                  obtain ⟨wd, hwd⟩ : ∃ x, d'.wd = x := ⟨_, rfl⟩
                  obtain ⟨pi, hpi⟩ : ∃ pi : Int, (if d'.dot = true then (d'.pr : Int) else -1) = pi := ⟨_, rfl⟩
                  have h379 : (((d'.lt.toNat : Int)) != 37) = true := by
                    have h2 : ∀ x ∈ letL, ((x.toNat : Int) != 37) = true := by decide
                    exact h2 _ hletter
                  obtain ⟨lt, hlt9⟩ : ∃ lt : Int, (d'.lt.toNat : Int) = lt := ⟨_, rfl⟩
                  rw [hlt9] at h379
                  rw [hb45, hb43, hb32, hb48, hb35, hwd, hpi, hlt9] at hr7
                  have HROW := hide hr7
                  rw [hr7] at HDO
                  clear hb45 hb43 hb32 hb48 hb35 hwd hpi hlt9 hr7 hpct hkind h0
                  obtain ⟨d, hdd⟩ : ∃ d, d' = d := ⟨_, rfl⟩
                  rw [hdd] at HROW HN0 hletter hdok HGET
                  clear hdd
                  go_wp2_with fail
                  refine (HDO.out _).mono ?_
                  rintro e w3 ⟨rfl, hb⟩
                  have HB3 := hide (HB2.out.trans (hb.mono HB2.out.size))
                  clear hb
                  have HB9 := hide (HB3.out.alloc HB3.out.size (.cells #[.bool b45, .bool b43, .bool b32, .bool b48, .bool b35, .int .i64 (wd : Int), .int .i64 pi, .int .u8 lt, .int .i64 (k : Int)] 97))
                  cases gs2 with
                  | nil =>
                    have HSH := hide (fun (n : Nat) => shownR_any d hdok hletter k ([]) (by simp) (w3.alloc (.cells #[.bool b45, .bool b43, .bool b32, .bool b48, .bool b35, .int .i64 (wd : Int), .int .i64 pi, .int .u8 lt, .int .i64 (k : Int)] 97)))
                    have HWL := hide (wrP_len hdok ([]))
                    obtain ⟨S, hS⟩ : ∃ S, (wrP d ([])).1 = S := ⟨_, rfl⟩
                    obtain ⟨er, her⟩ : ∃ er, (wrP d ([])).2 = er := ⟨_, rfl⟩
                    rw [hS, her] at HSH
                    rw [hS] at HWL
                    rw [HROW.out] at HSH
                    rw [show mkB [] = (⟨#[]⟩ : ByteArray) from rfl] at HSH
                    have hSl : S.length ≤ 80000 := by have h9 := HWL.out; have : ([] : List UInt8).length ≤ 65536 := (by simp); omega
                    obtain ⟨z, hz⟩ : ∃ z, mkB S = z := ⟨_, rfl⟩
                    rw [hz] at HSH
                    have hzz : z.size = S.length := by rw [← hz, mkB_size]
                    have hzl : z.size ≤ 80000 := by omega
                    have HZ : Hid (z = mkB S) := hide hz.symm
                    clear hz hzz
                    go_wp2_with fail
                    with_reducible refine (HSH.out 0).mono ?_
                    rintro e w4 ⟨rfl, hb0⟩
                    have hb : Below (w3.alloc (.cells #[.bool b45, .bool b43, .bool b32, .bool b48, .bool b35, .int .i64 (wd : Int), .int .i64 pi, .int .u8 lt, .int .i64 (k : Int)] 97)).heap.size (w3.alloc (.cells #[.bool b45, .bool b43, .bool b32, .bool b48, .bool b35, .int .i64 (wd : Int), .int .i64 pi, .int .u8 lt, .int .i64 (k : Int)] 97)) w4 := ⟨hb0.os, hb0.tape, hb0.output, hb0.size, hb0.block⟩
                    have HB4 := hide (HB9.out.trans (hb.mono HB9.out.size))
                    clear hb hb0
                    by_cases he : er = 0
                    · have her0 := her.trans he
                      subst he
                      have HAP : Hid (u ++ z = mkB (out2 ++ S)) := hide (by rw [← HU.out, HZ.out, mkB_app'])
                      have hL : (out2 ++ S).length = u.size + z.size := by rw [← mkB_size, ← HAP.out, ByteArray.size_append]
                      by_cases hbig : 65536 < u.size + z.size
                      · have HRB : Hid (rndP ds (texts gs) out = .inl 2) := hide (HRN.out.dirBig HGET.out HN0.out (show (texts ([] : List ByteArray)).headD [] = ([] : List UInt8) from rfl) her0 (by rw [hS, hL]; exact hbig))
                        have hb' : (65536 : Int) < (u.size : Int) + (z.size : Int) := by omega
                        clear hL
                        go_wp2_with fail
                        have HFIN := hide (HV.out.trans (HLP.out.bad HCN.out HRB.out))
                        go_ret2
                        exact ⟨by rw [HFIN.out]; rfl, HB4.out⟩
                      · have HRN2 : Hid (RnAt ds gs ([] : List ByteArray) out (out2 ++ S) (j + 1) true) := hide (by have h := HRN.out.dir HGET.out HN0.out (show (texts ([] : List ByteArray)).headD [] = ([] : List UInt8) from rfl) her0 (gs2 := ([] : List ByteArray)) (by rw [hS, hL]; exact hbig) rfl; rw [hS] at h; exact h)
                        have hb' : ¬ (65536 : Int) < (u.size : Int) + (z.size : Int) := by omega
                        have hol3 : (out2 ++ S).length ≤ 65536 := by omega
                        have HOL := hide hol3
                        clear hL hol3
                        go_wp2_with fail
                        go_roundw
                        case rel => exact ⟨([] : List ByteArray), _, _, out2 ++ S, i + k, j + 1, true, rfl, by rw [← HAP.out], by first | go_num | (simp; omega) | (congr 1; omega), hik, HOL.out, HRI2, HRN2, HSG2, HGZ2, HB4⟩
                        case measure => simp [intOf]; omega
                    · have HRB : Hid (rndP ds (texts gs) out = .inl er) := hide (by rw [← her]; exact HRN.out.err HGET.out HN0.out (show (texts ([] : List ByteArray)).headD [] = ([] : List UInt8) from rfl) (by rw [her]; exact he))
                      have e1 : (er != 0) = true := by simpa using he
                      clear he her hS
                      go_wp2_with fail
                      have HFIN := hide (HV.out.trans (HLP.out.bad HCN.out HRB.out))
                      go_ret2
                      exact ⟨by rw [HFIN.out]; rfl, HB4.out⟩
                  | cons x gs3 =>
                    have hxz := HGZ2.out x List.mem_cons_self
                    have HGZ3 : Hid (∀ y ∈ gs3, y.size ≤ 65536) := hide (fun y hy => HGZ2.out y (List.mem_cons_of_mem _ hy))
                    obtain ⟨b, o, rfl, hb, hcx⟩ := strs_head HSG2.out
                    have hcx2 := (HB9.out.cell (p := ⟨b, o, none⟩) hb).trans hcx
                    obtain ⟨B3, c6, hsl, hst3⟩ := cut_oneP HSG2.out
                    have HSG3 := hide hst3
                    have hln : (0 : Int) < ((gs3.length : Int) + 1) := by omega
                    clear hst3 hcx
                    have HSH := hide (fun (n : Nat) => shownR_any d hdok hletter k (x.data.toList) (by rw [len_size]; omega) ((w3.alloc (.cells #[.bool b45, .bool b43, .bool b32, .bool b48, .bool b35, .int .i64 (wd : Int), .int .i64 pi, .int .u8 lt, .int .i64 (k : Int)] 97)).drewN n))
                    have HWL := hide (wrP_len hdok (x.data.toList))
                    obtain ⟨S, hS⟩ : ∃ S, (wrP d (x.data.toList)).1 = S := ⟨_, rfl⟩
                    obtain ⟨er, her⟩ : ∃ er, (wrP d (x.data.toList)).2 = er := ⟨_, rfl⟩
                    rw [hS, her] at HSH
                    rw [hS] at HWL
                    rw [HROW.out] at HSH
                    rw [mkB_list x] at HSH
                    have hSl : S.length ≤ 80000 := by have h9 := HWL.out; have : (x.data.toList : List UInt8).length ≤ 65536 := (by rw [len_size]; exact hxz); omega
                    obtain ⟨z, hz⟩ : ∃ z, mkB S = z := ⟨_, rfl⟩
                    rw [hz] at HSH
                    have hzz : z.size = S.length := by rw [← hz, mkB_size]
                    have hzl : z.size ≤ 80000 := by omega
                    have HZ : Hid (z = mkB S) := hide hz.symm
                    clear hz hzz
                    go_wp2_with fail
                    go_quiet (fail)
                    go_wp2_with fail
                    with_reducible refine (HSH.out _).mono ?_
                    rintro e w4 ⟨rfl, hb0⟩
                    have hb : Below (w3.alloc (.cells #[.bool b45, .bool b43, .bool b32, .bool b48, .bool b35, .int .i64 (wd : Int), .int .i64 pi, .int .u8 lt, .int .i64 (k : Int)] 97)).heap.size (w3.alloc (.cells #[.bool b45, .bool b43, .bool b32, .bool b48, .bool b35, .int .i64 (wd : Int), .int .i64 pi, .int .u8 lt, .int .i64 (k : Int)] 97)) w4 := ⟨hb0.os, hb0.tape, hb0.output, hb0.size, hb0.block⟩
                    have HB4 := hide (HB9.out.trans (hb.mono HB9.out.size))
                    clear hb hb0
                    by_cases he : er = 0
                    · have her0 := her.trans he
                      subst he
                      have HAP : Hid (u ++ z = mkB (out2 ++ S)) := hide (by rw [← HU.out, HZ.out, mkB_app'])
                      have hL : (out2 ++ S).length = u.size + z.size := by rw [← mkB_size, ← HAP.out, ByteArray.size_append]
                      by_cases hbig : 65536 < u.size + z.size
                      · have HRB : Hid (rndP ds (texts gs) out = .inl 2) := hide (HRN.out.dirBig HGET.out HN0.out (show (texts (x :: gs3)).headD [] = x.data.toList from rfl) her0 (by rw [hS, hL]; exact hbig))
                        have hb' : (65536 : Int) < (u.size : Int) + (z.size : Int) := by omega
                        clear hL
                        go_wp2_with fail
                        have HFIN := hide (HV.out.trans (HLP.out.bad HCN.out HRB.out))
                        go_ret2
                        exact ⟨by rw [HFIN.out]; rfl, HB4.out⟩
                      · have HRN2 : Hid (RnAt ds gs gs3 out (out2 ++ S) (j + 1) true) := hide (by have h := HRN.out.dir HGET.out HN0.out (show (texts (x :: gs3)).headD [] = x.data.toList from rfl) her0 (gs2 := gs3) (by rw [hS, hL]; exact hbig) rfl; rw [hS] at h; exact h)
                        have hb' : ¬ (65536 : Int) < (u.size : Int) + (z.size : Int) := by omega
                        have hol3 : (out2 ++ S).length ≤ 65536 := by omega
                        have HOL := hide hol3
                        clear hL hol3
                        go_wp2_with fail
                        go_roundw
                        case rel => exact ⟨gs3, _, _, out2 ++ S, i + k, j + 1, true, rfl, by rw [← HAP.out], by first | go_num | (simp; omega) | (congr 1; omega), hik, HOL.out, HRI2, HRN2, HSG3, HGZ3, HB4⟩
                        case measure => simp [intOf]; omega
                    · have HRB : Hid (rndP ds (texts gs) out = .inl er) := hide (by rw [← her]; exact HRN.out.err HGET.out HN0.out (show (texts (x :: gs3)).headD [] = x.data.toList from rfl) (by rw [her]; exact he))
                      have e1 : (er != 0) = true := by simpa using he
                      clear he her hS
                      go_wp2_with fail
                      have HFIN := hide (HV.out.trans (HLP.out.bad HCN.out HRB.out))
                      go_ret2
                      exact ⟨by rw [HFIN.out]; rfl, HB4.out⟩
            case neg =>
              have f37 : (((s[i]'hlt).toNat : Int) == 37) = false := by rw [hc]; exact u8_neN h37
              rw [if_neg h37] at hhd
              by_cases h92 : c = 92
              case pos =>
                have f92 : (((s[i]'hlt).toNat : Int) == 92) = true := by rw [hc, h92]; rfl
                rw [if_pos h92] at hhd
                clear hc h37
                cases hr : escP (bs.drop (i + 1)) with
                | none => rw [hr] at hhd; cases hhd
                | some x =>
                  obtain ⟨x, k'⟩ := x
                  rw [hr] at hhd
                  simp only [Option.some.injEq, Prod.mk.injEq] at hhd
                  obtain ⟨rfl, rfl⟩ := hhd
                  have HD0 : Hid ((txD x).lt = 0) := hide rfl
                  have HTX : Hid ((txD x).tx = [x]) := hide rfl
                  unfold escQ at HES
                  simp only [hr] at HES
                  clear hr h92
                  obtain ⟨k, hk⟩ : ∃ k, k' + 1 = k := ⟨_, rfl⟩
                  have hk9 : (k' : Int) + 1 = (k : Int) := by omega
                  rw [hk] at hik HRI2
                  clear hk hk0
                  go_wp2_with fail
                  refine (HES.out _).mono ?_
                  rintro e w3 ⟨rfl, hb⟩
                  have HB3 := hide (HB2.out.trans (hb.mono HB2.out.size))
                  clear hb
                  have HB4 := hide (HB3.out.alloc HB3.out.size (.cells #[.int .u8 (x.toNat : Int)] 5))
                  obtain ⟨z, hz⟩ : ∃ z, (⟨#[x]⟩ : ByteArray) = z := ⟨_, rfl⟩
                  have hzz : z.size = 1 := by rw [← hz]; rfl
                  have HZ : Hid (z = mkB [x]) := hide (by rw [← hz]; rfl)
                  have hone := one_string w3 x
                  rw [hz] at hone
                  clear hz
                  have hzl : z.size ≤ 80000 := by omega
                  clear hzz
                  have HAP : Hid (u ++ z = mkB (out2 ++ [x])) := hide (by rw [← HU.out, HZ.out, mkB_app'])
                  have hL : (out2 ++ [x]).length = u.size + z.size := by rw [← mkB_size, ← HAP.out, ByteArray.size_append]
                  by_cases hbig : 65536 < u.size + z.size
                  · have HRB : Hid (rndP ds (texts gs) out = .inl 2) := hide (HRN.out.txtBig HGET.out HD0.out (by rw [HTX.out, hL]; exact hbig))
                    have hb' : (65536 : Int) < (u.size : Int) + (z.size : Int) := by omega
                    clear hL
                    go_wp2_with fail
                    have HFIN := hide (HV.out.trans (HLP.out.bad HCN.out HRB.out))
                    go_ret2
                    exact ⟨by rw [HFIN.out]; rfl, HB4.out⟩
                  · have HRN2 : Hid (RnAt ds gs gs2 out (out2 ++ [x]) (j + 1) tk2) := hide (by have h := HRN.out.txt HGET.out HD0.out (by rw [HTX.out, hL]; exact hbig); rw [HTX.out] at h; exact h)
                    have hb' : ¬ (65536 : Int) < (u.size : Int) + (z.size : Int) := by omega
                    have hol3 : (out2 ++ [x]).length ≤ 65536 := by omega
                    have HOL := hide hol3
                    clear hL hol3
                    go_wp2_with fail
                    go_roundw
                    case rel => exact ⟨gs2, B2, c2, out2 ++ [x], i + k, j + 1, tk2, rfl, by rw [← HAP.out], by first | go_num | (simp; omega) | (congr 1; omega), hik, HOL.out, HRI2, HRN2, HSG2, HGZ2, HB4⟩
                    case measure => simp [intOf]; omega
              case neg =>
                have f92 : (((s[i]'hlt).toNat : Int) == 92) = false := by rw [hc]; exact u8_neN h92
                rw [if_neg h92] at hhd
                simp only [Option.some.injEq, Prod.mk.injEq] at hhd
                obtain ⟨rfl, rfl⟩ := hhd
                have HD0 : Hid ((txD c).lt = 0) := hide rfl
                have HTX : Hid ((txD c).tx = [c]) := hide rfl
                obtain ⟨z, hz⟩ : ∃ z, s.extract i (i + 1) = z := ⟨_, rfl⟩
                have hzz : z.size = 1 := by rw [← hz, HON.out, mkB_size]; rfl
                have HZ : Hid (z = mkB [c]) := hide (by rw [← hz, HON.out])
                clear hc h37 h92
                have hzl : z.size ≤ 80000 := by omega
                clear hzz
                have HAP : Hid (u ++ z = mkB (out2 ++ [c])) := hide (by rw [← HU.out, HZ.out, mkB_app'])
                have hL : (out2 ++ [c]).length = u.size + z.size := by rw [← mkB_size, ← HAP.out, ByteArray.size_append]
                by_cases hbig : 65536 < u.size + z.size
                · have HRB : Hid (rndP ds (texts gs) out = .inl 2) := hide (HRN.out.txtBig HGET.out HD0.out (by rw [HTX.out, hL]; exact hbig))
                  have hb' : (65536 : Int) < (u.size : Int) + (z.size : Int) := by omega
                  clear hL
                  go_wp2_with fail
                  have HFIN := hide (HV.out.trans (HLP.out.bad HCN.out HRB.out))
                  go_ret2
                  exact ⟨by rw [HFIN.out]; rfl, HB2.out⟩
                · have HRN2 : Hid (RnAt ds gs gs2 out (out2 ++ [c]) (j + 1) tk2) := hide (by have h := HRN.out.txt HGET.out HD0.out (by rw [HTX.out, hL]; exact hbig); rw [HTX.out] at h; exact h)
                  have hb' : ¬ (65536 : Int) < (u.size : Int) + (z.size : Int) := by omega
                  have hol3 : (out2 ++ [c]).length ≤ 65536 := by omega
                  have HOL := hide hol3
                  clear hL hol3
                  go_wp2_with fail
                  go_roundw
                  case rel => exact ⟨gs2, B2, c2, out2 ++ [c], i + 1, j + 1, tk2, rfl, by rw [← HAP.out], by first | go_num | (simp; omega) | (congr 1; omega), hik, HOL.out, HRI2, HRN2, HSG2, HGZ2, HB2⟩
                  case measure => simp [intOf]; omega
          case neg =>
            have d0 : ¬ (i : Int) < (s.size : Int) := by omega
            obtain ⟨hrd, htk2⟩ := HRN.out.done (HRI.out.done (by rw [HL.out]; exact hlt))
            obtain ⟨hlp, hle, hlt2⟩ := HLP.out.round HCN.out hrd
            have hdec : takP ds = true → gs2 ≠ [] → gs2.length < gs.length := fun ht hg => by
              have h9 := (rndP_len ds (texts gs) out out2 (texts gs2) hrd).2 ht (fun e => by
                have h8 := (rndP_len ds (texts gs) out out2 (texts gs2) hrd).1
                rw [e] at h8
                have : texts gs2 = [] := List.eq_nil_of_length_eq_zero (by simpa using h8)
                exact hg (texts_nil.1 this))
              simpa [texts] using h9
            have HDEC := hide hdec
            have HLP2 := hide hlp
            have HTKV := HTK.out
            clear hrd htk2 hlp hle hlt2 hdec hlt
            have hcz : (gs2.length = 0) ∨ (¬ gs2.length = 0 ∧ tk = false) ∨ (¬ gs2.length = 0 ∧ tk = true) := by
              by_cases h : gs2.length = 0
              · exact Or.inl h
              · cases tk
                · exact Or.inr (Or.inl ⟨h, rfl⟩)
                · exact Or.inr (Or.inr ⟨h, rfl⟩)
            rcases hcz with hz | ⟨hz, rfl⟩ | ⟨hz, rfl⟩
            · have HFIN := hide (HV.out.trans (HLP2.out.done (by
                rintro (h | ⟨-, h⟩)
                · omega
                · exact h (List.eq_nil_of_length_eq_zero hz))))
              have e0 : ((gs2.length : Int) == 0) = true := by simp [hz]
              clear HTKV hz
              go_wp2_with fail
              go_ret2
              exact ⟨by rw [HFIN.out]; rfl, HB2.out⟩
            · have HFIN := hide (HV.out.trans (HLP2.out.done (by
                rintro (h | ⟨h, -⟩)
                · omega
                · rw [← HTKV] at h; cases h)))
              have e0 : ((gs2.length : Int) == 0) = false := by simpa using hz
              clear HTKV hz
              go_wp2_with fail
              go_ret2
              exact ⟨by rw [HFIN.out]; rfl, HB2.out⟩
            · have hg2 : gs2 ≠ [] := fun e => hz (by rw [e]; rfl)
              have HC9 : Hid (r + 1 = 0 ∨ (takP ds = true ∧ gs2 ≠ [])) := hide (Or.inr ⟨HTKV.symm, hg2⟩)
              have HME : Hid (gs2.length < gs.length) := hide (HDEC.out HTKV.symm hg2)
              have e0 : ((gs2.length : Int) == 0) = false := by simpa using hz
              clear HTKV hz hg2
              go_wp2_with fail
              go_roundw
              case rel => exact ⟨gs2, B2, c2, out2, r + 1, takP ds, rfl, rfl, hol2, HLP2, HC9, HSG2, HGZ2, HB2⟩
              case measure => exact HME.out
end Go.Proofs.YtifpmigghplmoaaGreatDoor
