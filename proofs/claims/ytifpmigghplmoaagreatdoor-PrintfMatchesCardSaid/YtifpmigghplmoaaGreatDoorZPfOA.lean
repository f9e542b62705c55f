/- Printf: numeral: the digits (arm A; printed by gen_pfo.py). -/
import Derived.Test.YtifpmigghplmoaaGreatDoorZPrD
import Derived.Test.YtifpmigghplmoaaGreatDoorZPrK
set_option linter.unusedVariables false
set_option linter.unusedSimpArgs false
namespace Go.Proofs.YtifpmigghplmoaaGreatDoor
open Go.RowKit Go.Pw Go.Shelf
theorem okD_allA {b : Nat} {l : List UInt8} (h : ∀ c ∈ l, okD b c = true) : ∀ c ∈ l, ∃ d, hexV c = some d ∧ d < b := by
  intro c hc
  have := h c hc
  unfold okD at this
  cases hd : hexV c with
  | none => rw [hd] at this; cases this
  | some d => rw [hd] at this; exact ⟨d, rfl, of_decide_eq_true this⟩
theorem neg_parts (ds : ByteArray) : ∃ h0 : 0 < ((⟨#[45]⟩ : ByteArray) ++ ds).size, ((⟨#[45]⟩ : ByteArray) ++ ds)[0] = 45 ∧ ((⟨#[45]⟩ : ByteArray) ++ ds).extract 1 ((⟨#[45]⟩ : ByteArray) ++ ds).size = ds ∧ ((⟨#[45]⟩ : ByteArray) ++ ds).size = ds.size + 1 := by
  have e : (⟨#[45]⟩ : ByteArray) ++ ds = mkB (45 :: ds.data.toList) := by
    rw [← mkB_list ((⟨#[45]⟩ : ByteArray) ++ ds)]; simp
  rw [e]
  have hz := mkB_cons_size 45 ds.data.toList
  refine ⟨by omega, rfl, ?_, by rw [hz, len_size]⟩
  rw [extract_drop, mkB_data2]
  exact mkB_list ds
set_option maxHeartbeats 16000000 in
set_option maxRecDepth 100000 in
theorem numeral_A (c : UInt8) (r : List UInt8) (w : World) (hc : c = 45) (hr : r.length ≤ 900000) (hE : ErrT w) :
    Calls Tryz.prog 82 #[.string (mkB (c :: r))] w fun e w' => e = .returned (.tuple #[.int .i64 (numP (c :: r)).1, .int .i64 (numP (c :: r)).2]) ∧ Below w.heap.size w w' := by
  have HE := hide hE
  have hemp : (mkB (c :: r)).toList.isEmpty = false := by rw [Lib.toList_data, mkB_data2]; rfl
  have hsz := mkB_cons_size c r
  have HV : Hid (numP (c :: r) = numT true (baseP r).2 (baseP r).1) := hide (by
    subst hc
    rw [numP, if_neg (by decide)]
    rfl)
  obtain ⟨q, hq⟩ : ∃ q, mkB (c :: r) = q := ⟨_, rfl⟩
  have hcc : ∀ h : 0 < q.size, q[0] = c := by subst hq; intro h; rfl
  have HT : Hid (q.data.toList = c :: r) := hide (by rw [← hq, mkB_data2])
  obtain ⟨t, ht⟩ : ∃ t, mkB r = t := ⟨_, rfl⟩
  have HXT : Hid (q.extract 1 q.size = t) := hide (by rw [← hq, ← ht, extract_drop, mkB_data2]; rfl)
  have HTT : t.data.toList = r := by rw [← ht, mkB_data2]
  have hts : t.size ≤ 900001 := by rw [← ht]; show (mkB r).size ≤ _; unfold mkB; show r.toArray.size ≤ _; simp; omega
  rw [hq] at hemp hsz ⊢
  rw [← HT.out]
  rw [← HT.out, ← HTT] at HV
  have hq0 : 0 < q.size := by omega
  have hq1 : (1 : Int) ≤ (q.size : Int) := by omega
  have hi : (0 : Int) < (q.size : Int) := by omega
  have g1 : ((q[0].toNat : Int) == 39) = false := by rw [hcc hq0, hc]; rfl
  have g2 : ((q[0].toNat : Int) == 34) = false := by rw [hcc hq0, hc]; rfl
  have g3 : ((q[0].toNat : Int) == 45) = true := by rw [hcc hq0, hc]; rfl
  have g4 : ((q[0].toNat : Int) == 43) = false := by rw [hcc hq0, hc]; rfl
  clear hq hcc hsz hc HT HTT ht
  have HCP := hide (fun W => Tryz.strings_CutPrefix t ⟨#[48, 120]⟩ W)
  have HTL : Hid (t.data.toList.length = t.size) := hide (len_size t)
  have hbase : ∃ (rest : ByteArray) (hx : Bool) (b : Nat) (ds : ByteArray), (b = 10 ∨ b = 8 ∨ b = 16) ∧ ds.size ≤ 900001 ∧ baseP t.data.toList = (ds.data.toList, b) ∧
      (∀ W, Calls Tryz.prog 115 #[.string t, .string ⟨#[48, 120]⟩] W fun e w' => e = .returned (.tuple #[.string rest, .bool hx]) ∧ w' = W) ∧
      ((hx = true ∧ ds = rest ∧ b = 16) ∨
       (hx = false ∧ b = 8 ∧ (1 : Int) < (t.size : Int) ∧ t.extract 1 t.size = ds ∧ ∃ h : 0 < t.size, ((t[0].toNat : Int) == 48) = true) ∨
       (hx = false ∧ b = 10 ∧ ds = t ∧ ¬ (1 : Int) < (t.size : Int)) ∨
       (hx = false ∧ b = 10 ∧ ds = t ∧ (1 : Int) < (t.size : Int) ∧ ∃ h : 0 < t.size, ((t[0].toNat : Int) == 48) = false)) := by
    have hl := HTL.out
    have hd48 : (⟨#[48, 120]⟩ : ByteArray).data.toList = [48, 120] := rfl
    simp only [hd48] at HCP
    cases hp : Lib.hasPrefix t.data.toList [48, 120] with
    | true =>
      have htp : Lib.trimPrefix t.data.toList [48, 120] = t.data.toList.drop 2 := by unfold Lib.trimPrefix; rw [if_pos hp]; rfl
      refine ⟨⟨(Lib.trimPrefix t.data.toList [48, 120]).toArray⟩, true, 16, ⟨(Lib.trimPrefix t.data.toList [48, 120]).toArray⟩, .inr (.inr rfl), ?_, ?_, ?_, .inl ⟨rfl, rfl, rfl⟩⟩
      · show (Lib.trimPrefix t.data.toList [48, 120]).toArray.size ≤ _
        rw [htp]; simp; omega
      · unfold baseP; rw [if_pos hp, htp]
      · intro W; have h := HCP.out W; rw [hp] at h; exact h
    | false =>
      have hW : ∀ W, Calls Tryz.prog 115 #[.string t, .string ⟨#[48, 120]⟩] W fun e w' => e = .returned (.tuple #[.string ⟨(Lib.trimPrefix t.data.toList [48, 120]).toArray⟩, .bool false]) ∧ w' = W := by
        intro W; have h := HCP.out W; rw [hp] at h; exact h
      have hnp : ¬ Lib.hasPrefix t.data.toList [48, 120] = true := by rw [hp]; exact Bool.false_ne_true
      by_cases h1 : 1 < t.size
      · have h0 : 0 < t.size := by omega
        have hhd : t.data.toList.headD 0 = t[0] := by
          have : t.data.toList ≠ [] := fun e => by rw [e] at hl; simp at hl; omega
          obtain ⟨x, y, hxy⟩ := List.exists_cons_of_ne_nil this
          have hz : t[0] = t.data.toList[0]'(by rw [hl]; exact h0) := rfl
          rw [hz]
          simp only [hxy]; rfl
        by_cases h48 : t[0] = 48
        · refine ⟨_, false, 8, t.extract 1 t.size, .inr (.inl rfl), by rw [ByteArray.size_extract]; omega, ?_, hW, .inr (.inl ⟨rfl, rfl, by omega, rfl, h0, by rw [h48]; rfl⟩)⟩
          unfold baseP
          rw [if_neg hnp, if_pos ⟨by omega, by rw [hhd]; exact h48⟩, extract_drop, mkB_data2]
        · refine ⟨_, false, 10, t, .inl rfl, hts, ?_, hW, .inr (.inr (.inr ⟨rfl, rfl, rfl, by omega, h0, u8_neN h48⟩))⟩
          unfold baseP
          rw [if_neg hnp, if_neg (by rw [hhd]; exact fun h => h48 h.2)]
      · refine ⟨_, false, 10, t, .inl rfl, hts, ?_, hW, .inr (.inr (.inl ⟨rfl, rfl, rfl, by omega⟩))⟩
        unfold baseP
        rw [if_neg hnp, if_neg (by omega)]
  clear HCP HTL
  obtain ⟨rest, hx, b, ds, hb, hdz, hbp, hcp, harm⟩ := hbase
  rw [hbp] at HV
  simp only at HV
  have HCP := hide hcp
  have HBB := hide hb
  have hb0 : (8 : Int) ≤ (b : Int) := by omega
  have hb1 : (b : Int) ≤ 16 := by omega
  have HDL : Hid (ds.data.toList.length = ds.size) := hide (len_size ds)
  have HBAD : Hid (∀ x ∈ ds.data.toList, okD b x = false → numP q.data.toList = (0, 5)) := hide (by
    intro x hx hf
    rw [HV.out]; unfold numT
    rw [if_neg]
    rintro ⟨h, -⟩
    have := List.all_eq_true.1 h x hx
    rw [hf] at this; cases this)
  have HNIL : Hid (ds.size = 0 → numP q.data.toList = (0, 5)) := hide (by
    intro h0
    rw [HV.out]; unfold numT
    rw [if_neg]
    rintro ⟨-, h⟩
    exact h (List.eq_nil_of_length_eq_zero (by rw [HDL.out, h0])))
  have HOK : Hid ((∀ x ∈ ds.data.toList, okD b x = true) → 0 < ds.size → numP q.data.toList = if (vB b 0 ds.data.toList : Int) ≤ 9223372036854775808 then (-(vB b 0 ds.data.toList : Int), 0) else (0, 3)) := hide (by
    intro h h0
    rw [HV.out]; unfold numT
    rw [if_pos ⟨List.all_eq_true.2 h, fun e => by have := HDL.out; rw [e] at this; simp at this; omega⟩]
    simp only [if_true])
  clear hcp hb hbp HV
  rcases harm with ⟨rfl, rfl, hbe⟩ | ⟨rfl, hbe, a1, hds, a2, a3⟩ | ⟨rfl, hbe, rfl, a1⟩ | ⟨rfl, hbe, rfl, a1, a2, a3⟩
  all_goals
    have HBE := hide hbe
    clear hbe
    first
      | (have HDS := hide hds; clear hds; have HZ : Hid (t.size - 1 = ds.size) := hide (by rw [← HDS.out, ByteArray.size_extract]; omega))
      | skip
    go_enter Tryz.func82, Tryz.ntmps82
    go_wp2_with fail
    rw [HXT.out]
    refine (HCP.out _).mono ?_
    rintro e w1 ⟨rfl, rfl⟩
    go_wp2_with fail
    first
      | rw [HDS.out, HZ.out]
      | skip
    go_loopw [61] (fun i wr => ∃ k : Nat, i = .int .i64 (k : Int) ∧ k ≤ ds.size ∧ Hid (∀ c ∈ ds.data.toList.take k, okD b c = true) ∧ Hid (Below w1.heap.size w1 wr)) (fun i _ => ds.size - (intOf i).toNat)
    case atStart => exact ⟨0, rfl, by omega, hide (by intro c hc; simp at hc), hide (Below.refl _ _)⟩
    case round =>
      obtain ⟨k, rfl, hk, HA, HB⟩ := hrel
      by_cases hlt : k < ds.size
      · have hd : (k : Int) < (ds.size : Int) := by omega
        have hlt2 : k < ds.data.toList.length := by rw [HDL.out]; exact hlt
        have hget : ds.data.toList[k]? = some (ds[k]'hlt) := by rw [List.getElem?_eq_getElem hlt2]; rfl
        have HHD := hide (hexDigit_any (ds[k]'hlt) wr (HE.out.below HB.out))
        have HM : Hid (ds[k]'hlt ∈ ds.data.toList) := hide (List.mem_of_getElem? hget)
        cases hv : hexV (ds[k]'hlt) with
        | none =>
          simp only [hv] at HHD
          have HBD := hide (HBAD.out _ HM.out (by unfold okD; rw [hv]))
          clear hv hget hlt2
          go_wp2_with fail
          refine HHD.out.mono ?_
          rintro e w2 ⟨rfl, hb⟩
          have HB2 := hide (HB.out.trans (hb.mono HB.out.size))
          clear hb
          go_wp2_with fail
          go_ret2
          exact ⟨by rw [HBD.out]; rfl, HB2.out⟩
        | some d =>
          simp only [hv] at HHD
          by_cases hdb : d < b
          · have HA2 : Hid (∀ c ∈ ds.data.toList.take (k + 1), okD b c = true) := hide (by
              intro x hx
              rw [List.take_add_one, hget] at hx
              rcases List.mem_append.1 hx with hx | hx
              · exact HA.out x hx
              · obtain rfl := List.mem_singleton.1 hx
                unfold okD; rw [hv]; exact decide_eq_true hdb)
            have hdi : (d : Int) < (b : Int) := by omega
            rw [HBE.out] at hdi
            simp only [Int.cast_ofNat_Int] at hdi
            clear hv hget hlt2 hdb
            go_wp2_with fail
            refine HHD.out.mono ?_
            rintro e w2 ⟨rfl, hb⟩
            have HB2 := hide (HB.out.trans (hb.mono HB.out.size))
            clear hb
            go_wp2_with fail
            go_roundw
            case rel => exact ⟨k + 1, by first | go_num | (simp; omega), by omega, HA2, HB2⟩
            case measure => simp [intOf]; omega
          · have HBD := hide (HBAD.out _ HM.out (by unfold okD; rw [hv]; exact decide_eq_false hdb))
            have hdi : ¬ (d : Int) < (b : Int) := by omega
            rw [HBE.out] at hdi
            simp only [Int.cast_ofNat_Int] at hdi
            clear hv hget hlt2 hdb
            go_wp2_with fail
            refine HHD.out.mono ?_
            rintro e w2 ⟨rfl, hb⟩
            have HB2 := hide (HB.out.trans (hb.mono HB.out.size))
            clear hb
            go_wp2_with fail
            go_ret2
            exact ⟨by rw [HBD.out]; rfl, HB2.out⟩
      · have hkk : k = ds.size := by omega
        have HALL : Hid (∀ c ∈ ds.data.toList, okD b c = true) := hide (by have h := HA.out; rw [List.take_of_length_le (by rw [HDL.out, hkk]; exact Nat.le_refl _)] at h; exact h)
        have hde : ¬ (k : Int) < (ds.size : Int) := by omega
        by_cases hz : ds.size = 0
        · have HN := hide (HNIL.out hz)
          have hemd : ds.toList.isEmpty = true := by
            have hnil : ds.data.toList = [] := List.eq_nil_of_length_eq_zero (by rw [HDL.out, hz])
            rw [Lib.toList_data, hnil]; rfl
          clear hkk
          go_wp2_with fail
          all_goals
            go_ret2
            exact ⟨by rw [HN.out]; rfl, HB.out⟩
        · have hz0 : 0 < ds.size := by omega
          have hemd : ds.toList.isEmpty = false := by
            rw [Lib.toList_data]
            cases hl : ds.data.toList with
            | nil => have := HDL.out; rw [hl] at this; simp at this; omega
            | cons x y => rfl
          have HR := hide (HOK.out HALL.out hz0)
          obtain ⟨n0, n1, n2, n3⟩ := neg_parts ds
          have hsn : ((⟨#[45]⟩ : ByteArray) ++ ds).size ≤ 1000000 := by omega
          have HPP := hide (parse_neg b HBB.out ((⟨#[45]⟩ : ByteArray) ++ ds) ds (okD_allA HALL.out) hz0 (by omega) hsn n0 n1 n2 wr (HE.out.below HB.out))
          clear n0 n1 n2 n3 hsn
          obtain ⟨V, hV⟩ : ∃ V : Int, ((vB b 0 ds.data.toList : Nat) : Int) = V := ⟨_, rfl⟩
          simp only [hV] at HPP HR
          rw [HBE.out] at HPP
          simp only [Int.cast_ofNat_Int] at HPP
          unfold pbR at HPP
          clear hV hkk
          go_wp2_with fail
          refine HPP.out.mono ?_
          rintro e w2 ⟨hp, hb⟩
          have HB2 := hide (HB.out.trans (hb.mono HB.out.size))
          clear hb
          rcases hp with ⟨hc, rfl⟩ | ⟨hc, y, N, rfl⟩
          · rw [if_pos (by omega)] at HR
            clear hc
            go_wp2_with fail
            go_ret2
            exact ⟨by rw [HR.out]; rfl, HB2.out⟩
          · rw [if_neg (by omega)] at HR
            clear hc
            go_wp2_with fail
            go_ret2
            exact ⟨by rw [HR.out]; rfl, HB2.out⟩
end Go.Proofs.YtifpmigghplmoaaGreatDoor
