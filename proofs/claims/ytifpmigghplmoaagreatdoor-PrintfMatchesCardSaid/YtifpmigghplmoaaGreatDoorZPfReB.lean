/- Printf, the reference: wordNumber: the digits (arm B; printed by gen_pfre.py). -/
import Derived.Test.YtifpmigghplmoaaGreatDoorZPrL
import Derived.Test.YtifpmigghplmoaaGreatDoorZPrK
set_option linter.unusedVariables false
set_option linter.unusedSimpArgs false
namespace Go.Proofs.YtifpmigghplmoaaGreatDoor
open Go.RowKit Go.Pw Go.Shelf
set_option maxHeartbeats 32000000 in
set_option maxRecDepth 100000 in
theorem wordNumber_B (c : UInt8) (r : List UInt8) (w : World) (hc : c = 43) (hr : r.length ≤ 900000) :
    Calls Tryz.prog 91 #[.string (mkB (c :: r))] w fun e w' => e = .returned (.tuple #[.int .i64 (numP (c :: r)).1, .int .i64 (numP (c :: r)).2]) ∧ w' = w := by
  have hemp : (mkB (c :: r)).toList.isEmpty = false := by rw [Lib.toList_data, mkB_data2]; rfl
  have hsz : (mkB (c :: r)).size = r.length + 1 := by rw [mkB_size]; rfl
  have HV : Hid (numP (c :: r) = numT false (baseP r).2 (baseP r).1) := hide (by
    subst hc
    rw [numP, if_neg (by decide)]
    rfl)
  obtain ⟨q, hq⟩ : ∃ q, mkB (c :: r) = q := ⟨_, rfl⟩
  have hcc : ∀ h : 0 < q.size, q[0] = c := by subst hq; intro h; rfl
  obtain ⟨t, ht⟩ : ∃ t, mkB r = t := ⟨_, rfl⟩
  have HXT : Hid (q.extract 1 q.size = t) := hide (by rw [← hq, ← ht, extract_drop, mkB_data2]; rfl)
  have HTT : t.data.toList = r := by rw [← ht, mkB_data2]
  have hts : t.size ≤ 900001 := by rw [← ht, mkB_size]; omega
  have HTQ : Hid (q.size - 1 = t.size) := hide (by rw [← hq, ← ht, mkB_size, mkB_size]; rfl)
  obtain ⟨Z, hZ⟩ : ∃ Z, numP (c :: r) = Z := ⟨_, rfl⟩
  rw [hZ, ← HTT] at HV
  rw [hZ]
  rw [hq] at hemp hsz ⊢
  have hq0 : 0 < q.size := by omega
  have hq1 : (1 : Int) ≤ (q.size : Int) := by omega
  have hi : (0 : Int) < (q.size : Int) := by omega
  have g1 : ((q[0].toNat : Int) == 39) = false := by rw [hcc hq0, hc]; rfl
  have g2 : ((q[0].toNat : Int) == 34) = false := by rw [hcc hq0, hc]; rfl
  have g3 : ((q[0].toNat : Int) == 45) = false := by rw [hcc hq0, hc]; rfl
  have g4 : ((q[0].toNat : Int) == 43) = true := by rw [hcc hq0, hc]; rfl
  clear hq hcc hsz hc HTT ht hZ
  have HTL : Hid (t.data.toList.length = t.size) := hide (len_size t)
  have hbase : ∃ (b : Nat) (ds : ByteArray), (b = 10 ∨ b = 8 ∨ b = 16) ∧ ds.size ≤ 900001 ∧ Z = numT false b ds.data.toList ∧
      ((b = 16 ∧ (2 : Int) < (t.size : Int) ∧ (∃ h : 0 < t.size, ((t[0].toNat : Int) == 48) = true) ∧ (∃ h : 1 < t.size, ((t[1].toNat : Int) == 120) = true) ∧ t.extract 2 t.size = ds) ∨
       (b = 8 ∧ ¬ (2 : Int) < (t.size : Int) ∧ (1 : Int) < (t.size : Int) ∧ (∃ h : 0 < t.size, ((t[0].toNat : Int) == 48) = true) ∧ t.extract 1 t.size = ds) ∨
       (b = 8 ∧ (2 : Int) < (t.size : Int) ∧ (1 : Int) < (t.size : Int) ∧ (∃ h : 0 < t.size, ((t[0].toNat : Int) == 48) = true) ∧ (∃ h : 1 < t.size, ((t[1].toNat : Int) == 120) = false) ∧ t.extract 1 t.size = ds) ∨
       (b = 10 ∧ (2 : Int) < (t.size : Int) ∧ (1 : Int) < (t.size : Int) ∧ (∃ h : 0 < t.size, ((t[0].toNat : Int) == 48) = false) ∧ ds = t) ∨
       (b = 10 ∧ ¬ (2 : Int) < (t.size : Int) ∧ (1 : Int) < (t.size : Int) ∧ (∃ h : 0 < t.size, ((t[0].toNat : Int) == 48) = false) ∧ ds = t) ∨
       (b = 10 ∧ ¬ (2 : Int) < (t.size : Int) ∧ ¬ (1 : Int) < (t.size : Int) ∧ ds = t)) := by
    have hl := HTL.out
    have hV := HV.out
    match htl : t.data.toList with
    | [] =>
      rw [htl] at hl hV
      simp at hl
      refine ⟨10, t, .inl rfl, hts, by rw [htl]; exact hV, .inr (.inr (.inr (.inr (.inr ⟨rfl, by omega, by omega, rfl⟩))))⟩
    | [x] =>
      rw [htl] at hl hV
      simp at hl
      refine ⟨10, t, .inl rfl, hts, ?_, .inr (.inr (.inr (.inr (.inr ⟨rfl, by omega, by omega, rfl⟩))))⟩
      rw [htl, hV]
      unfold baseP
      rw [if_neg (by simp [Lib.hasPrefix, List.isPrefixOf]), if_neg (by simp)]
    | x :: y :: z =>
      rw [htl] at hl hV
      simp at hl
      have h0 : 0 < t.size := by omega
      have h1 : 1 < t.size := by omega
      have e0 : t[0]'h0 = x := by
        have : t.data.toList[0]? = some (t[0]'h0) := by rw [List.getElem?_eq_getElem (by rw [htl]; simp)]; rfl
        rw [htl] at this; simp at this; exact this.symm
      have e1 : t[1]'h1 = y := by
        have : t.data.toList[1]? = some (t[1]'h1) := by rw [List.getElem?_eq_getElem (by rw [htl]; simp)]; rfl
        rw [htl] at this; simp at this; exact this.symm
      have hx1 : (t.extract 1 t.size).data.toList = y :: z := by rw [extract_drop, mkB_data2, htl]; rfl
      have hx2 : (t.extract 2 t.size).data.toList = z := by rw [extract_drop, mkB_data2, htl]; rfl
      by_cases hx : x = 48
      · have q0 : ((t[0]'h0).toNat : Int) = 48 := by rw [e0, hx]; rfl
        by_cases hy : y = 120
        · have q1 : ((t[1]'h1).toNat : Int) = 120 := by rw [e1, hy]; rfl
          have hp : Lib.hasPrefix (x :: y :: z) [48, 120] = true := by rw [hx, hy]; simp [Lib.hasPrefix, List.isPrefixOf]
          have hb : baseP (x :: y :: z) = (z, 16) := by unfold baseP; rw [if_pos hp]; rfl
          rw [hb] at hV
          simp only at hV
          by_cases hz : z = []
          · subst hz
            refine ⟨8, t.extract 1 t.size, .inr (.inl rfl), by rw [ByteArray.size_extract]; omega, ?_, .inr (.inl ⟨rfl, by simp at hl; omega, by omega, ⟨h0, by simp [q0]⟩, rfl⟩)⟩
            rw [hV, hx1, hy]; rfl
          · have : 0 < z.length := List.length_pos_iff.2 hz
            refine ⟨16, t.extract 2 t.size, .inr (.inr rfl), by rw [ByteArray.size_extract]; omega, by rw [hV, hx2], .inl ⟨rfl, by omega, ⟨h0, by simp [q0]⟩, ⟨h1, by simp [q1]⟩, rfl⟩⟩
        · have q1 : (((t[1]'h1).toNat : Int) == 120) = false := by rw [e1]; exact u8_neN hy
          have hp : ¬ Lib.hasPrefix (x :: y :: z) [48, 120] = true := by simp [Lib.hasPrefix, List.isPrefixOf]; intro _ h; exact hy h.symm
          have hb : baseP (x :: y :: z) = (y :: z, 8) := by unfold baseP; rw [if_neg hp, if_pos ⟨by simp, hx⟩]; rfl
          rw [hb] at hV
          simp only at hV
          by_cases hz : z = []
          · refine ⟨8, t.extract 1 t.size, .inr (.inl rfl), by rw [ByteArray.size_extract]; omega, by rw [hV, hx1], .inr (.inl ⟨rfl, by simp [hz] at hl; omega, by omega, ⟨h0, by simp [q0]⟩, rfl⟩)⟩
          · have : 0 < z.length := List.length_pos_iff.2 hz
            refine ⟨8, t.extract 1 t.size, .inr (.inl rfl), by rw [ByteArray.size_extract]; omega, by rw [hV, hx1], .inr (.inr (.inl ⟨rfl, by omega, by omega, ⟨h0, by simp [q0]⟩, ⟨h1, q1⟩, rfl⟩))⟩
      · have q0 : (((t[0]'h0).toNat : Int) == 48) = false := by rw [e0]; exact u8_neN hx
        have hp : ¬ Lib.hasPrefix (x :: y :: z) [48, 120] = true := by simp [Lib.hasPrefix, List.isPrefixOf]; intro h; exact absurd h.symm hx
        have hb : baseP (x :: y :: z) = (x :: y :: z, 10) := by unfold baseP; rw [if_neg hp, if_neg (fun h => hx h.2)]
        rw [hb] at hV
        simp only at hV
        by_cases hz : (2 : Int) < (t.size : Int)
        · refine ⟨10, t, .inl rfl, hts, by rw [htl]; exact hV, .inr (.inr (.inr (.inl ⟨rfl, hz, by omega, ⟨h0, q0⟩, rfl⟩)))⟩
        · refine ⟨10, t, .inl rfl, hts, by rw [htl]; exact hV, .inr (.inr (.inr (.inr (.inl ⟨rfl, hz, by omega, ⟨h0, q0⟩, rfl⟩))))⟩
  clear HTL HV
  obtain ⟨b, ds, hb, hdz, hzv, harm⟩ := hbase
  have HBB := hide hb
  have HZV := hide hzv
  have HDL : Hid (ds.data.toList.length = ds.size) := hide (len_size ds)
  clear hb hzv
  have HND : Hid (ds.size = 0 → Z = (0, 5)) := hide (fun h0 => by
    rw [HZV.out]; unfold numT; rw [if_neg]
    rintro ⟨-, h⟩
    exact h (List.eq_nil_of_length_eq_zero (by rw [HDL.out, h0])))
  have hex1 : ∀ (x y : ByteArray) (k : Nat) (W : World), (k : Int) ≤ (x.size : Int) → x.extract k x.size = y → (Instr.slice 9 (.string x) (some (.int .i64 (k : Int))) none none).run Tryz.prog W = .ok (.string y) W := fun x y k W hk e => by
    have h1 : ¬ x.size < k := by omega
    rw [← e]
    simp [go_sem, h1]
    try omega
  have HEX := hide hex1
  clear hex1
  have HS1 : Hid (∀ W, (Instr.slice 9 (.string q) (some (.int .i64 1)) none none).run Tryz.prog W = .ok (.string t) W) := hide (fun W => HEX.out q t 1 W hq1 HXT.out)
  by_cases hz0 : ds.size = 0
  · have HN := hide (HND.out hz0)
    have hemd : ds.toList.isEmpty = true := by
      have hnil : ds.data.toList = [] := List.eq_nil_of_length_eq_zero (by rw [HDL.out, hz0])
      rw [Lib.toList_data, hnil]; rfl
    clear HBB HZV HDL HND
    rcases harm with ⟨hbe, a1, ⟨a2, a3⟩, ⟨a4, a5⟩, hds⟩ | ⟨hbe, a1, a2, ⟨a3, a4⟩, hds⟩ | ⟨hbe, a1, a2, ⟨a3, a4⟩, ⟨a5, a6⟩, hds⟩ | ⟨hbe, a1, a2, ⟨a3, a4⟩, rfl⟩ | ⟨hbe, a1, a2, ⟨a3, a4⟩, rfl⟩ | ⟨hbe, a1, a2, rfl⟩
    · have h9 := congrArg ByteArray.size hds; rw [ByteArray.size_extract] at h9; omega
    · have h9 := congrArg ByteArray.size hds; rw [ByteArray.size_extract] at h9; omega
    · have h9 := congrArg ByteArray.size hds; rw [ByteArray.size_extract] at h9; omega
    · omega
    · omega
    · have hs1 := HS1.out
      first
        | omega
        | (clear hz0
           go_enter Tryz.func91, Tryz.ntmps91
           go_wp2_with fail
           go_ret2
           exact ⟨by rw [HN.out]; rfl, by first | rfl | trivial⟩)
  have hzp : 0 < ds.size := by omega
  have hemd : ds.toList.isEmpty = false := by
    rw [Lib.toList_data]
    cases hl : ds.data.toList with
    | nil => have := HDL.out; rw [hl] at this; simp at this; omega
    | cons x y => rfl
  clear hz0
  rcases harm with ⟨hbe, a1, ⟨a2, a3⟩, ⟨a4, a5⟩, hds⟩ | ⟨hbe, a1, a2, ⟨a3, a4⟩, hds⟩ | ⟨hbe, a1, a2, ⟨a3, a4⟩, ⟨a5, a6⟩, hds⟩ | ⟨hbe, a1, a2, ⟨a3, a4⟩, rfl⟩ | ⟨hbe, a1, a2, ⟨a3, a4⟩, rfl⟩ | ⟨hbe, a1, a2, rfl⟩
  all_goals
    have HBE := hide hbe
    clear hbe
    first
      | (have hs2 : ∀ W, (Instr.slice 9 (.string t) (some (.int .i64 2)) none none).run Tryz.prog W = .ok (.string ds) W := fun W => HEX.out t ds 2 W (by omega) hds; clear hds)
      | (have hs2 : ∀ W, (Instr.slice 9 (.string t) (some (.int .i64 1)) none none).run Tryz.prog W = .ok (.string ds) W := fun W => HEX.out t ds 1 W (by omega) hds; clear hds)
      | skip
    have hs1 := HS1.out
    go_enter Tryz.func91, Tryz.ntmps91
    go_wp2_with fail
    go_loopw [6, 7, 66] (fun vv lv iv wr => ∃ (V : Int) (v k : Nat) (lg : Bool), vv = .int .u64 V ∧ lv = .bool lg ∧ iv = .int .i64 (k : Int) ∧ k ≤ ds.size ∧ 0 ≤ V ∧ V ≤ 9223372036854775808 ∧ Hid (V = (v : Int)) ∧ Hid (WnAt b ds.data.toList k v lg) ∧ wr = w) (fun _ _ iv _ => ds.size - (intOf iv).toNat)
    case atStart => exact ⟨0, 0, 0, false, rfl, rfl, rfl, by omega, by omega, by omega, hide rfl, hide (WnAt.start _ _), rfl⟩
    case round =>
      obtain ⟨V, v, k, lg, rfl, rfl, rfl, hk, hV0, hV1, HVV, HWN, rfl⟩ := hrel
      by_cases hlt : k < ds.size
      · have hd : (k : Int) < (ds.size : Int) := by omega
        have hlt2 : k < ds.data.toList.length := by rw [HDL.out]; exact hlt
        have hget : ds.data.toList[k]? = some (ds[k]'hlt) := by rw [List.getElem?_eq_getElem hlt2]; rfl
        have HGT := hide hget
        have HHV := hide (fun W => hexValue_any (ds[k]'hlt) W)
        unfold hvR at HHV
        clear hget hlt2
        cases hv : hexV (ds[k]'hlt) with
        | none =>
          simp only [hv] at HHV
          have HBD : Hid (Z = (0, 5)) := hide (by rw [HZV.out]; exact WnAt.bad HGT.out (by unfold okD; rw [hv]) _)
          clear hv
          go_wp2_with fail
          refine (HHV.out _).mono ?_
          rintro e w2 ⟨rfl, rfl⟩
          go_wp2_with fail
          go_ret2
          exact ⟨by rw [HBD.out]; rfl, by first | rfl | trivial⟩
        | some d =>
          simp only [hv] at HHV
          have hd16 := hexV_lt hv
          have d0 : (0 : Int) ≤ (d : Int) := by omega
          have d1 : (d : Int) < 16 := by omega
          by_cases hdb : d < b
          · have hdi : (d : Int) < (b : Int) := by omega
            have hb16 : b ≤ 16 := by rcases HBB.out with h | h | h <;> omega
            have HBG := hide (fun hl => HWN.out.large HGT.out hv hdb hl)
            have HFT := hide (fun hl => HWN.out.fits HGT.out hv hdb hb16 hl)
            obtain ⟨Q, hQ⟩ : ∃ Q : Nat, (9223372036854775808 - d) / b = Q := ⟨_, rfl⟩
            rw [hQ] at HBG HFT
            obtain ⟨R, hR⟩ : ∃ R : Int, (Q : Int) = R := ⟨_, rfl⟩
            have hq : ((9223372036854775808 : Int) - (d : Int)) / (b : Int) = R := by
              rw [← hR, ← hQ, Int.natCast_ediv]
              congr 1
              omega
            have HR := hide hR
            rw [HBE.out] at hdi hq
            simp only [Int.cast_ofNat_Int] at hdi hq
            clear hv hdb hR hQ hb16
            by_cases hl : R < V
            · have HN2 := hide (HBG.out (by have := HR.out; have := HVV.out; omega))
              go_wp2_with fail
              refine (HHV.out _).mono ?_
              rintro e w2 ⟨rfl, rfl⟩
              go_wp2_with fail
              go_roundw
              case rel => exact ⟨V, v, k + 1, true, rfl, rfl, by first | go_num | (simp; omega), by omega, hV0, hV1, HVV, HN2, by first | rfl | trivial⟩
              case measure => simp [intOf]; omega
            · have HN2 := hide (HFT.out (by have := HR.out; have := HVV.out; omega))
              obtain ⟨V2, hV2⟩ : ∃ V2 : Int, V * (b : Int) + (d : Int) = V2 := ⟨_, rfl⟩
              have HV2 : Hid (V2 = ((v * b + d : Nat) : Int)) := hide (by rw [← hV2, HVV.out]; simp)
              have hle : V2 ≤ 9223372036854775808 := by have h1 := HN2.out.2.1; have h2 := HV2.out; omega
              have hge : 0 ≤ V * (b : Int) := Int.mul_nonneg hV0 (by omega)
              have hgv : V * (b : Int) ≤ 9223372036854775808 := by omega
              have hg2 : 0 ≤ V2 := by omega
              rw [HBE.out] at hV2 hge hgv
              simp only [Int.cast_ofNat_Int] at hV2 hge hgv
              go_wp2_with fail
              refine (HHV.out _).mono ?_
              rintro e w2 ⟨rfl, rfl⟩
              go_wp2_with fail
              go_roundw
              case rel => exact ⟨V2, v * b + d, k + 1, lg, by first | rfl | (congr 1), rfl, by first | go_num | (simp; omega), by omega, hg2, hle, HV2, HN2, by first | rfl | trivial⟩
              case measure => simp [intOf]; omega
          · have HBD : Hid (Z = (0, 5)) := hide (by rw [HZV.out]; exact WnAt.bad HGT.out (by unfold okD; rw [hv]; exact decide_eq_false hdb) _)
            have hdi : ¬ (d : Int) < (b : Int) := by omega
            rw [HBE.out] at hdi
            simp only [Int.cast_ofNat_Int] at hdi
            clear hv hdb
            go_wp2_with fail
            refine (HHV.out _).mono ?_
            rintro e w2 ⟨rfl, rfl⟩
            go_wp2_with fail
            go_ret2
            exact ⟨by rw [HBD.out]; rfl, by first | rfl | trivial⟩
      · have hd : ¬ (k : Int) < (ds.size : Int) := by omega
        have HFN := hide (HZV.out.trans (HWN.out.done (by rw [HDL.out]; omega) (fun e => by have := HDL.out; rw [e] at this; simp at this; omega) false))
        cases lg with
        | true =>
          have HF2 := hide (HFN.out.trans (if_pos (Or.inl rfl)))
          go_wp2_with fail
          go_ret2
          exact ⟨by rw [HF2.out]; rfl, by first | rfl | trivial⟩
        | false =>
          have g9 : ¬ (9223372036854775808 : Int) < V := by omega
          have HNG : Hid (wrap64 (IntKind.u64.wrap (-V)) = -V) := hide (by rw [IntKind.wrap_u64]; unfold wrap64; omega)
          by_cases he : V = 9223372036854775808
          · have e9 : (V == 9223372036854775808) = true := by simpa using he
            have HF2 := hide (HFN.out.trans (if_pos (Or.inr ⟨by have := HVV.out; omega, rfl⟩)))
            clear he
            go_wp2_with fail
            go_ret2
            exact ⟨by rw [HF2.out]; rfl, by first | rfl | trivial⟩
          · have e9 : (V == 9223372036854775808) = false := by simpa using he
            have HF2 := hide (HFN.out.trans (if_neg (by rintro (h | h); exact absurd h (by decide); exact he (by rw [HVV.out, h.1]; rfl))))
            go_wp2_with fail
            go_ret2
            refine ⟨?_, by first | rfl | trivial⟩
            rw [HF2.out]
            simp only [if_true, Bool.false_eq_true, if_false]
            rw [← HVV.out]
            first
              | rfl
              | (show Ending.returned (.tuple #[Value.int .i64 (wrap64 (IntKind.u64.wrap (-_))), Value.int .i64 0]) = _; rw [HNG.out])
end Go.Proofs.YtifpmigghplmoaaGreatDoor
