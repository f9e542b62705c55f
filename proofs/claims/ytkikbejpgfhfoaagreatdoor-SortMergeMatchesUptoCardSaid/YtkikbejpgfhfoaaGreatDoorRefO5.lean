/- The reference's order, fifth part: numbers and lines compared. -/
import Derived.Test.YtkikbejpgfhfoaaGreatDoorRefO2
import Derived.Test.YtkikbejpgfhfoaaGreatDoorRefO3
set_option linter.unusedVariables false
set_option linter.unusedSimpArgs false
namespace Go.Pw
open Go.RowKit
theorem up_size (s : ByteArray) : (⟨(s.data.toList.map upB).toArray⟩ : ByteArray).size = s.size := by
  rw [← len_size, ← len_size]; simp
theorem ord_hit {o : Sp} {a b : ByteArray} {c : Int} (h : c = keysCmp o a b) (h0 : ¬ c = 0) : c = ordCmp o a b := by
  unfold ordCmp
  rw [if_pos (.inl (by rw [← h]; exact h0))]
  exact h
theorem after_le (l : List UInt8) : (afterSign l).length ≤ l.length := by
  unfold afterSign; split
  · simp
  · exact Nat.le_refl _
theorem partD_le (l : List UInt8) : (partD l).length ≤ l.length := by
  unfold partD; split
  · rename_i t; have := takeWhile_le digB t; simp; omega
  · simp
theorem tailZ_le (l : List UInt8) : (tailZ l).length ≤ l.length := by
  unfold tailZ
  have := dropWhile_le (· == 48) l.reverse
  simpa using this
theorem numOf_le (l : List UInt8) : (numOf l).whole.length ≤ l.length ∧ (numOf l).part.length ≤ l.length := by
  have h1 := dropWhile_le blankB l
  have h2 := after_le (l.dropWhile blankB)
  have h3 := takeWhile_le digB (afterSign (l.dropWhile blankB))
  have h4 := dropWhile_le (· == 48) ((afterSign (l.dropWhile blankB)).takeWhile digB)
  have h5 := dropWhile_le digB (afterSign (l.dropWhile blankB))
  have h6 := partD_le ((afterSign (l.dropWhile blankB)).dropWhile digB)
  have h7 := tailZ_le (partD ((afterSign (l.dropWhile blankB)).dropWhile digB))
  unfold numOf
  exact ⟨by simp only; omega, by simp only; omega⟩
end Go.Pw
namespace Go.Proofs.YtkikbejpgfhfoaaGreatDoor
open Go.RowKit Go.Pw
set_option maxHeartbeats 1000000 in
set_option maxRecDepth 100000 in
theorem numericR_any (x y : ByteArray) (w : World) (hx : x.size ≤ 1000000) (hy : y.size ≤ 1000000) :
    Calls Tryz.prog 55 #[.string x, .string y] w fun e w' => e = .returned (.int .i64 (cmpNum (numOf x.data.toList) (numOf y.data.toList))) ∧ Below w.heap.size w w' := by
  have HA := hide (fun W => numberAt_any x W hx)
  have HB := hide (fun W => numberAt_any y W hy)
  have l1 := numOf_le x.data.toList
  have l2 := numOf_le y.data.toList
  rw [len_size] at l1 l2
  obtain ⟨N1, hN1⟩ : ∃ N, numOf x.data.toList = N := ⟨_, rfl⟩
  obtain ⟨N2, hN2⟩ : ∃ N, numOf y.data.toList = N := ⟨_, rfl⟩
  simp only [hN1] at HA l1 ⊢
  simp only [hN2] at HB l2 ⊢
  clear hN1 hN2
  obtain ⟨n1, W1, P1⟩ := N1
  obtain ⟨n2, W2, P2⟩ := N2
  dsimp only at HA HB l1 l2
  obtain ⟨wa, hwa⟩ : ∃ wa : ByteArray, (⟨W1.toArray⟩ : ByteArray) = wa := ⟨_, rfl⟩
  obtain ⟨pa, hpa⟩ : ∃ pa : ByteArray, (⟨P1.toArray⟩ : ByteArray) = pa := ⟨_, rfl⟩
  obtain ⟨wb, hwb⟩ : ∃ wb : ByteArray, (⟨W2.toArray⟩ : ByteArray) = wb := ⟨_, rfl⟩
  obtain ⟨pb, hpb⟩ : ∃ pb : ByteArray, (⟨P2.toArray⟩ : ByteArray) = pb := ⟨_, rfl⟩
  have eW1 : W1 = wa.data.toList := by rw [← hwa]
  have eP1 : P1 = pa.data.toList := by rw [← hpa]
  have eW2 : W2 = wb.data.toList := by rw [← hwb]
  have eP2 : P2 = pb.data.toList := by rw [← hpb]
  simp only [hwa, hpa] at HA
  simp only [hwb, hpb] at HB
  subst eW1 eP1 eW2 eP2
  simp only [len_size] at l1 l2
  have HV : Hid (cmpNum ⟨n1, wa.data.toList, pa.data.toList⟩ ⟨n2, wb.data.toList, pb.data.toList⟩ = if n1 ≠ n2 then (if n1 then -1 else 1) else if n1 then -firstNZ [Lib.compareInt (wa.size : Int) (wb.size : Int), Lib.compareBytes wa.data.toList wb.data.toList, Lib.compareBytes pa.data.toList pb.data.toList] else firstNZ [Lib.compareInt (wa.size : Int) (wb.size : Int), Lib.compareBytes wa.data.toList wb.data.toList, Lib.compareBytes pa.data.toList pb.data.toList]) := hide (by
    unfold cmpNum
    simp only [len_size])
  obtain ⟨V, hV⟩ : ∃ V, cmpNum ⟨n1, wa.data.toList, pa.data.toList⟩ ⟨n2, wb.data.toList, pb.data.toList⟩ = V := ⟨_, rfl⟩
  rw [hV] at HV ⊢
  clear hV hwa hpa hwb hpb
  have HBW := hide (fun W => bytewise_any wa wb W (by omega) (by omega))
  have HBP := hide (fun W => bytewise_any pa pb W (by omega) (by omega))
  have hr1 := cb_range wa.data.toList wb.data.toList
  have hr2 := cb_range pa.data.toList pb.data.toList
  obtain ⟨c, hc⟩ : ∃ c, Lib.compareBytes wa.data.toList wb.data.toList = c := ⟨_, rfl⟩
  obtain ⟨d, hd⟩ : ∃ d, Lib.compareBytes pa.data.toList pb.data.toList = d := ⟨_, rfl⟩
  simp only [hc] at HV HBW hr1
  simp only [hd] at HV HBP hr2
  clear hc hd
  by_cases hn : n1 = n2
  · subst hn
    rcases Nat.lt_trichotomy wa.size wb.size with h | h | h
    · have HV2 : Hid (V = if n1 then -(-1) else -1) := hide (by rw [HV.out, if_neg (by simp)]; have : Lib.compareInt (wa.size : Int) (wb.size : Int) = -1 := (by unfold Lib.compareInt; rw [if_pos (by omega)]); rw [this]; simp [firstNZ])
      have h1 : ((wa.size : Int) != (wb.size : Int)) = true := by simp; omega
      cases n1
      all_goals
        go_enter Tryz.func55, Tryz.ntmps55
        go_wp2_with fail
        refine (HA.out _).mono ?_
        rintro e w' ⟨rfl, rfl⟩
        go_wp2_with fail
        refine (HB.out _).mono ?_
        rintro e w' ⟨rfl, rfl⟩
        go_wp2_with fail
        go_ret
        exact ⟨by rw [HV2.out]; rfl, Below.refl _ _⟩
    · have HV2 : Hid (V = if n1 then -(if c = 0 then d else c) else (if c = 0 then d else c)) := hide (by
        rw [HV.out, if_neg (by simp)]
        have : Lib.compareInt (wa.size : Int) (wb.size : Int) = 0 := (by unfold Lib.compareInt; rw [if_neg (by omega), if_neg (by omega)])
        rw [this]
        have e : firstNZ [0, c, d] = if c = 0 then d else c := by
          simp only [firstNZ]
          by_cases hc0 : c = 0
          · simp [hc0]; by_cases hd0 : d = 0 <;> simp [hd0]
          · simp [hc0]
        rw [e])
      have h1 : ((wa.size : Int) != (wb.size : Int)) = false := by simp; omega
      by_cases hc0 : c = 0
      · have h2 : (c == 0) = true := by simpa using hc0
        have HV3 : Hid (V = if n1 then -d else d) := hide (by rw [HV2.out, if_pos hc0])
        clear hc0 h
        cases n1
        all_goals
          go_enter Tryz.func55, Tryz.ntmps55
          go_wp2_with fail
          refine (HA.out _).mono ?_
          rintro e w' ⟨rfl, rfl⟩
          go_wp2_with fail
          refine (HB.out _).mono ?_
          rintro e w' ⟨rfl, rfl⟩
          go_wp2_with fail
          refine (HBW.out _).mono ?_
          rintro e w2 ⟨rfl, hb2⟩
          go_wp2_with fail
          refine (HBP.out _).mono ?_
          rintro e w3 ⟨rfl, hb3⟩
          have hb4 := hb2.trans (hb3.mono hb2.size)
          clear hb2 hb3
          go_wp2_with fail
          go_ret
          exact ⟨by rw [HV3.out]; rfl, hb4⟩
      · have h2 : (c == 0) = false := by simpa using hc0
        have HV3 : Hid (V = if n1 then -c else c) := hide (by rw [HV2.out, if_neg hc0])
        clear hc0 h
        cases n1
        all_goals
          go_enter Tryz.func55, Tryz.ntmps55
          go_wp2_with fail
          refine (HA.out _).mono ?_
          rintro e w' ⟨rfl, rfl⟩
          go_wp2_with fail
          refine (HB.out _).mono ?_
          rintro e w' ⟨rfl, rfl⟩
          go_wp2_with fail
          refine (HBW.out _).mono ?_
          rintro e w2 ⟨rfl, hb2⟩
          go_wp2_with fail
          go_ret
          exact ⟨by rw [HV3.out]; rfl, hb2⟩
    · have HV2 : Hid (V = if n1 then -1 else 1) := hide (by rw [HV.out, if_neg (by simp)]; have : Lib.compareInt (wa.size : Int) (wb.size : Int) = 1 := (by unfold Lib.compareInt; rw [if_neg (by omega), if_pos (by omega)]); rw [this]; simp [firstNZ])
      have h1 : ((wa.size : Int) != (wb.size : Int)) = true := by simp; omega
      cases n1
      all_goals
        go_enter Tryz.func55, Tryz.ntmps55
        go_wp2_with fail
        refine (HA.out _).mono ?_
        rintro e w' ⟨rfl, rfl⟩
        go_wp2_with fail
        refine (HB.out _).mono ?_
        rintro e w' ⟨rfl, rfl⟩
        go_wp2_with fail
        go_ret
        exact ⟨by rw [HV2.out]; rfl, Below.refl _ _⟩
  · have HV2 : Hid (V = if n1 then -1 else 1) := hide (by rw [HV.out, if_pos hn])
    cases n1 <;> cases n2
    · exact absurd rfl hn
    · clear hn
      go_enter Tryz.func55, Tryz.ntmps55
      go_wp2_with fail
      refine (HA.out _).mono ?_
      rintro e w' ⟨rfl, rfl⟩
      go_wp2_with fail
      refine (HB.out _).mono ?_
      rintro e w' ⟨rfl, rfl⟩
      go_wp2_with fail
      go_ret
      exact ⟨by rw [HV2.out]; rfl, Below.refl _ _⟩
    · clear hn
      go_enter Tryz.func55, Tryz.ntmps55
      go_wp2_with fail
      refine (HA.out _).mono ?_
      rintro e w' ⟨rfl, rfl⟩
      go_wp2_with fail
      refine (HB.out _).mono ?_
      rintro e w' ⟨rfl, rfl⟩
      go_wp2_with fail
      go_ret
      exact ⟨by rw [HV2.out]; rfl, Below.refl _ _⟩
    · exact absurd rfl hn
set_option maxHeartbeats 2000000 in
set_option maxRecDepth 100000 in
theorem orderR_any (o : Sp) (kv : Value) (a b : ByteArray) (w : World) (hk : KeysIn w kv o.keys) (hg : ∀ k ∈ o.keys, k.good) (ha : a.size ≤ 1000000) (hb : b.size ≤ 1000000) :
    Calls Tryz.prog 32 #[spV o kv, .string a, .string b] w fun e w' => e = .returned (.int .i64 (ordCmp o a b)) ∧ Below w.heap.size w w' := by
  obtain ⟨sep, keys, rv, st, un⟩ := o
  obtain ⟨_, A, cap, rfl, hcap, hmax, hx⟩ := hk
  unfold maxLen at hmax
  have HX := hide hx
  have HG := hide hg
  clear hx hg
  unfold spV
  dsimp only at HX HG hcap hmax ⊢
  have HB0 := hide ((Below.refl w.heap.size w).alloc (Nat.le_refl _) (.cells #[.string sep, .slice A keys.length cap, .bool rv, .bool st, .bool un] 24))
  go_enter Tryz.func32, Tryz.ntmps32
  go_wp2_with fail
  have hW1 : (w.alloc (.cells #[.string sep, .slice A keys.length cap, .bool rv, .bool st, .bool un] 24)).cell? ⟨w.heap.size, 0, none⟩ = some (.string sep) := by simp
  obtain ⟨W1, hWW⟩ : ∃ W1, w.alloc (.cells #[.string sep, .slice A keys.length cap, .bool rv, .bool st, .bool un] 24) = W1 := ⟨_, rfl⟩
  have hz1 : W1.heap.size = w.heap.size + 1 := by rw [← hWW]; simp
  rw [hWW] at HB0 hW1 ⊢
  have HC0 := hide hW1
  have HBK : Hid (W1.heap[w.heap.size]? = some (.cells #[.string sep, .slice A keys.length cap, .bool rv, .bool st, .bool un] 24 (0, 0))) := hide (by rw [← hWW]; exact heap_alloc_new _ _)
  have HZ1 := hide hz1
  clear hWW hW1 hz1
  go_loopw [16] (fun i wr => ∃ k : Nat, k ≤ keys.length ∧ i = .int .i64 (k : Int) ∧ Below W1.heap.size W1 wr ∧ Hid (keysCmp ⟨sep, keys, rv, st, un⟩ a b = firstNZ ((keys.drop k).map (keyCmp sep a b)))) (fun i _ => keys.length - (intOf i).toNat)
  case atStart => exact ⟨0, by omega, rfl, Below.refl _ _, hide rfl⟩
  case round =>
    obtain ⟨k, hkn, rfl, hbw, HV⟩ := hrel
    by_cases hlt : k < keys.length
    · obtain ⟨g, o, rfl, hgl, hj⟩ := HX.out (by omega)
      have hzz := hbw.size
      rw [HZ1.out] at hzz
      have hj' : ∀ j u, (kysCells keys)[j]? = some u → wr.cell? ⟨g, o + j, none⟩ = some u := fun j u hu => (hbw.cell (p := ⟨g, o + j, none⟩) (by rw [HZ1.out]; show g < _; omega)).trans ((HB0.out.cell (p := ⟨g, o + j, none⟩) hgl).trans (hj j u hu))
      have hK := List.getElem?_eq_getElem hlt
      have hgd := HG.out _ (List.getElem_mem hlt)
      obtain ⟨c0, c1, c2, c3, c4, c5, c6, c7⟩ := KeysIn.cells (n := 0) (cap := 0) hj' hK
      obtain ⟨K, hKK⟩ : ∃ K, keys[k] = K := ⟨_, rfl⟩
      have HM := hide (fun (e : keyCmp sep a b K = 0) => fnz_miss (f := keyCmp sep a b) HV hlt (by rw [hKK]; exact e))
      have HH := hide (fun (e : ¬ keyCmp sep a b K = 0) => fnz_hit (f := keyCmp sep a b) HV hlt (by rw [hKK]) e)
      rw [hKK] at hgd c0 c1 c2 c3 c4 c5 c6 c7
      clear hj hj' hK hKK
      obtain ⟨X, hX⟩ : ∃ X, Pw.keyOf K a sep = X := ⟨_, rfl⟩
      obtain ⟨Y, hY⟩ : ∃ Y, Pw.keyOf K b sep = Y := ⟨_, rfl⟩
      have hXs : X.size ≤ 1000000 := by rw [← hX]; exact Nat.le_trans (keyOf_size _ _ _) ha
      have hYs : Y.size ≤ 1000000 := by rw [← hY]; exact Nat.le_trans (keyOf_size _ _ _) hb
      have HKA := hide (fun W => keyR_any K a sep W hgd ha)
      have HKB := hide (fun W => keyR_any K b sep W hgd hb)
      simp only [hX] at HKA
      simp only [hY] at HKB
      have HR : Hid (keyCmp sep a b K = if K.reverse then -rawCmp K X Y else rawCmp K X Y) := by
        show _ = _
        unfold keyCmp; rw [hX, hY]
      clear hX hY hgd
      obtain ⟨f1, f2, l1, l2, nu, re, fo, bl⟩ := K
      unfold kyV at HKA HKB
      dsimp only at HKA HKB c0 c1 c2 c3 c4 c5 c6 c7
      have hnw := heap_alloc_new wr (.cells #[.int .i64 f1, .int .i64 f2, .int .i64 l1, .int .i64 l2, .bool nu, .bool re, .bool fo, .bool bl] 60)
      have KA : Hid (KyAt (wr.alloc (.cells #[.int .i64 f1, .int .i64 f2, .int .i64 l1, .int .i64 l2, .bool nu, .bool re, .bool fo, .bool bl] 60)) wr.heap.size ⟨f1, f2, l1, l2, nu, re, fo, bl⟩) := hide hnw
      have BW : Hid (Below W1.heap.size W1 (wr.alloc (.cells #[.int .i64 f1, .int .i64 f2, .int .i64 l1, .int .i64 l2, .bool nu, .bool re, .bool fo, .bool bl] 60))) := hide (hbw.alloc hbw.size _)
      have SC : Hid ((wr.alloc (.cells #[.int .i64 f1, .int .i64 f2, .int .i64 l1, .int .i64 l2, .bool nu, .bool re, .bool fo, .bool bl] 60)).cell? ⟨w.heap.size, 0, none⟩ = some (.string sep)) := hide ((BW.out.cell (p := ⟨w.heap.size, 0, none⟩) (by rw [HZ1.out]; simp)).trans HC0.out)
      have qs := SC.out
      have hne : w.heap.size ≠ wr.heap.size := by omega
      have HSZ := hide hzz
      clear hnw
      go_wp2_with fail
      go_region_held3 (fun w' => w'.cell? ⟨w.heap.size, 0, none⟩ = some (.string sep) ∧ w'.cell? ⟨wr.heap.size, 0, none⟩ = some (.int .i64 f1) ∧ w'.cell? ⟨wr.heap.size, 1, none⟩ = some (.int .i64 f2) ∧ w'.cell? ⟨wr.heap.size, 2, none⟩ = some (.int .i64 l1) ∧ w'.cell? ⟨wr.heap.size, 3, none⟩ = some (.int .i64 l2) ∧ w'.cell? ⟨wr.heap.size, 4, none⟩ = some (.bool nu) ∧ w'.cell? ⟨wr.heap.size, 5, none⟩ = some (.bool re) ∧ w'.cell? ⟨wr.heap.size, 6, none⟩ = some (.bool fo) ∧ w'.cell? ⟨wr.heap.size, 7, none⟩ = some (.bool bl)) (go_keep)
        (first
          | (go_at_call 54; (with_reducible refine (HKA.out _).mono ?_); rintro e w' ⟨rfl, hbl⟩; have SC := hide (cell_next SC.out hbl rfl (by have := BW.out.size; rw [HZ1.out] at this; show w.heap.size < _; exact this)); have BW := hide (below_next BW.out hbl rfl rfl rfl rfl BW.out.size); have KA := hide (KyAt.next KA.out hbl rfl KA.out.lt); clear hbl; have qs := SC.out; obtain ⟨q0, q1, q2, q3, q4, q5, q6, q7⟩ := kyAt_cells KA.out; dsimp only at q0 q1 q2 q3 q4 q5 q6 q7)
          | (go_at_call 54; (with_reducible refine (HKB.out _).mono ?_); rintro e w' ⟨rfl, hbl⟩; have SC := hide (cell_next SC.out hbl rfl (by have := BW.out.size; rw [HZ1.out] at this; show w.heap.size < _; exact this)); have BW := hide (below_next BW.out hbl rfl rfl rfl rfl BW.out.size); have KA := hide (KyAt.next KA.out hbl rfl KA.out.lt); clear hbl; have qs := SC.out; obtain ⟨q0, q1, q2, q3, q4, q5, q6, q7⟩ := kyAt_cells KA.out; dsimp only at q0 q1 q2 q3 q4 q5 q6 q7))
      have BN := BW
      have KN := KA
      clear c0 c1 c2 c3 c4 c5 c6 c7 qs q0 q1 q2 q3 q4 q5 q6 q7 SC HKA HKB HSZ
      have q4 := (kyAt_cells KN.out).2.2.2.2.1
      have q6 := (kyAt_cells KN.out).2.2.2.2.2.2.1
      dsimp only at q4 q6
      by_cases hnu : nu = true
      case' pos =>
        subst hnu
        go_wp2_with fail
        refine (numericR_any X Y _ hXs hYs).mono ?_
        rintro e w5 ⟨rfl, hbl⟩
        have BN := hide (below_next BN.out hbl rfl rfl rfl rfl BN.out.size)
        have KN := hide (KyAt.next KN.out hbl rfl KN.out.lt)
        clear hbl
        obtain ⟨c, hc⟩ : ∃ c, cmpNum (numOf X.data.toList) (numOf Y.data.toList) = c := ⟨_, rfl⟩
        have hcr := cmpNum_range (numOf X.data.toList) (numOf Y.data.toList)
        rw [hc] at hcr
        rw [hc]
        have RC : Hid (rawCmp ⟨f1, f2, l1, l2, true, re, fo, bl⟩ X Y = c) := hide (by unfold rawCmp; rw [if_pos rfl]; exact hc)
        clear hc q4 q6
      case' neg =>
        obtain rfl : nu = false := by simpa using hnu
        clear hnu
        by_cases hfo : fo = true
        case' pos =>
          subst hfo
          go_wp2_with fail
          refine (capital_any X _ hXs).mono ?_
          rintro e w3 ⟨rfl, hbl⟩
          have BN := hide (below_next BN.out hbl rfl rfl rfl rfl BN.out.size)
          have KN := hide (KyAt.next KN.out hbl rfl KN.out.lt)
          clear hbl
          go_wp2_with fail
          refine (capital_any Y _ hYs).mono ?_
          rintro e w5 ⟨rfl, hbl⟩
          have BN := hide (below_next BN.out hbl rfl rfl rfl rfl BN.out.size)
          have KN := hide (KyAt.next KN.out hbl rfl KN.out.lt)
          clear hbl
          go_wp2_with fail
          refine (bytewise_any _ _ _ (by rw [up_size]; omega) (by rw [up_size]; omega)).mono ?_
          rintro e w6 ⟨rfl, hbl⟩
          have BN := hide (below_next BN.out hbl rfl rfl rfl rfl BN.out.size)
          have KN := hide (KyAt.next KN.out hbl rfl KN.out.lt)
          clear hbl
          obtain ⟨c, hc⟩ : ∃ c, Lib.compareBytes (X.data.toList.map upB) (Y.data.toList.map upB) = c := ⟨_, rfl⟩
          have hcr := cb_range (X.data.toList.map upB) (Y.data.toList.map upB)
          rw [hc] at hcr
          dsimp only
          rw [hc]
          have RC : Hid (rawCmp ⟨f1, f2, l1, l2, false, re, true, bl⟩ X Y = c) := hide (by unfold rawCmp; rw [if_neg (by simp), if_pos rfl]; exact hc)
          clear hc q4 q6
        case' neg =>
          obtain rfl : fo = false := by simpa using hfo
          clear hfo
          go_wp2_with fail
          refine (bytewise_any _ _ _ (by omega) (by omega)).mono ?_
          rintro e w6 ⟨rfl, hbl⟩
          have BN := hide (below_next BN.out hbl rfl rfl rfl rfl BN.out.size)
          have KN := hide (KyAt.next KN.out hbl rfl KN.out.lt)
          clear hbl
          obtain ⟨c, hc⟩ : ∃ c, Lib.compareBytes X.data.toList Y.data.toList = c := ⟨_, rfl⟩
          have hcr := cb_range X.data.toList Y.data.toList
          rw [hc] at hcr
          rw [hc]
          have RC : Hid (rawCmp ⟨f1, f2, l1, l2, false, re, false, bl⟩ X Y = c) := hide (by unfold rawCmp; rw [if_neg (by simp), if_neg (by simp)]; exact hc)
          clear hc q4 q6
      all_goals
        have q5 := (kyAt_cells KN.out).2.2.2.2.2.1
        dsimp only at q5
        cases re
        · have HC : Hid (keyCmp sep a b ⟨f1, f2, l1, l2, _, false, _, bl⟩ = c) := hide (HR.out.trans ((if_neg (by simp)).trans RC.out))
          by_cases h0 : c = 0
          · subst h0
            go_wp2_with fail
            go_roundw
            case rel => exact ⟨k + 1, by omega, by go_num, BN.out, HM.out HC.out⟩
            case measure => simp [intOf]; omega
          · have hne : (c != 0) = true := by simpa using h0
            have HQ := hide (ord_hit (HC.out.symm.trans (HH.out (by rw [HC.out]; exact h0))) h0)
            clear h0
            go_wp2_with fail
            go_ret
            exact ⟨ret_int HQ.out, HB0.out.trans (BN.out.mono (by rw [HZ1.out]; omega))⟩
        · have HC : Hid (keyCmp sep a b ⟨f1, f2, l1, l2, _, true, _, bl⟩ = -c) := hide (HR.out.trans ((if_pos rfl).trans (by rw [RC.out])))
          by_cases h0 : c = 0
          · subst h0
            go_wp2_with fail
            go_roundw
            case rel => exact ⟨k + 1, by omega, by go_num, BN.out, HM.out HC.out⟩
            case measure => simp [intOf]; omega
          · have hne : (c != 0) = true := by simpa using h0
            have hne2 : (-c != 0) = true := by simpa using h0
            have HQ := hide (ord_hit (HC.out.symm.trans (HH.out (by rw [HC.out]; omega))) (by omega))
            clear h0
            go_wp2_with fail
            go_ret
            exact ⟨ret_int HQ.out, HB0.out.trans (BN.out.mono (by rw [HZ1.out]; omega))⟩
    · have HE := hide (fnz_end (f := keyCmp sep a b) HV hlt)
      have hlW : w.heap.size < W1.heap.size := by rw [HZ1.out]; omega
      have hblk := (hbw.block w.heap.size hlW).trans HBK.out
      have q1 : wr.cell? ⟨w.heap.size, 1, none⟩ = some (.slice A keys.length cap) := by rw [Lib.cell_of_heap hblk]; rfl
      have q2 : wr.cell? ⟨w.heap.size, 2, none⟩ = some (.bool rv) := by rw [Lib.cell_of_heap hblk]; rfl
      have q3 : wr.cell? ⟨w.heap.size, 3, none⟩ = some (.bool st) := by rw [Lib.cell_of_heap hblk]; rfl
      have q4 : wr.cell? ⟨w.heap.size, 4, none⟩ = some (.bool un) := by rw [Lib.cell_of_heap hblk]; rfl
      have HBW := hide (HB0.out.trans (hbw.mono (by rw [HZ1.out]; omega)))
      obtain ⟨d, hd⟩ : ∃ d, Lib.compareBytes a.data.toList b.data.toList = d := ⟨_, rfl⟩
      have hdr := cb_range a.data.toList b.data.toList
      rw [hd] at hdr
      have HO : Hid (ordCmp ⟨sep, keys, rv, st, un⟩ a b = if keys ≠ [] ∧ (st = true ∨ un = true) then 0 else if rv then -d else d) := hide (by
        unfold ordCmp wholeCmp
        rw [← HE.out, hd]
        simp)
      have HCS := hide (fun W => bytewise_any a b W (by omega) (by omega))
      simp only [hd] at HCS
      have hbz := HBW.out.size
      have hbz2 : w.heap.size < wr.heap.size := by have := hbw.size; rw [HZ1.out] at this; omega
      clear hd hblk HE HV hbw
      by_cases hl0 : 0 < keys.length
      · have hkne : keys ≠ [] := fun e => by rw [e] at hl0; simp at hl0
        have HK := hide hkne
        clear hkne
        cases st
        · cases un
          · have HO2 : Hid (ordCmp ⟨sep, keys, rv, false, false⟩ a b = if rv then -d else d) := hide (HO.out.trans (if_neg (by simp)))
            clear HO
            cases rv
            all_goals
              go_wp2_with fail
              refine (HCS.out _).mono ?_
              rintro e w2 ⟨rfl, hb2⟩
              have HB9 := hide (HBW.out.trans (hb2.mono hbz))
              have p2 := (hb2.cell (p := ⟨w.heap.size, 2, none⟩) (by show w.heap.size < _; exact hbz2)).trans q2
              clear hb2
              go_wp2_with fail
              go_ret
              exact ⟨by rw [HO2.out]; rfl, HB9.out⟩
          · have HO2 : Hid (ordCmp ⟨sep, keys, rv, false, true⟩ a b = 0) := hide (HO.out.trans (if_pos ⟨HK.out, .inr rfl⟩))
            go_wp2_with fail
            go_ret
            exact ⟨by rw [HO2.out]; rfl, HBW.out⟩
        · have HO2 : Hid (ordCmp ⟨sep, keys, rv, true, un⟩ a b = 0) := hide (HO.out.trans (if_pos ⟨HK.out, .inl rfl⟩))
          go_wp2_with fail
          go_ret
          exact ⟨by rw [HO2.out]; rfl, HBW.out⟩
      · obtain rfl : keys = [] := List.eq_nil_of_length_eq_zero (by omega)
        have HO2 : Hid (ordCmp ⟨sep, [], rv, st, un⟩ a b = if rv then -d else d) := hide (HO.out.trans (if_neg (by simp)))
        clear HO
        cases rv
        all_goals
          go_wp2_with fail
          refine (HCS.out _).mono ?_
          rintro e w2 ⟨rfl, hb2⟩
          have HB9 := hide (HBW.out.trans (hb2.mono hbz))
          have p2 := (hb2.cell (p := ⟨w.heap.size, 2, none⟩) (by show w.heap.size < _; exact hbz2)).trans q2
          clear hb2
          go_wp2_with fail
          go_ret
          exact ⟨by rw [HO2.out]; rfl, HB9.out⟩
end Go.Proofs.YtkikbejpgfhfoaaGreatDoor
