/- The reference's side: what one side makes of a region. -/
import Derived.Test.YtfjbdbdjhkmifaaDmT
set_option linter.unusedVariables false
set_option linter.unusedSimpArgs false
namespace Go.Proofs.Ytfjbdbdjhkmifaa
open Go.RowKit Go.Pw
theorem insideR_cons (r : Rg) (h : Hk) (l : List Hk) : insideR r (h :: l) = if inR r h = true then h :: insideR r l else insideR r l := by
  unfold insideR; rw [List.filter_cons]
theorem own_after {w w' : World} {base : Nat} {v : Value} {n : Nat} {e : TypeId} {size : Nat} {xs : List Value} {b j : Nat} (h : w.ownsRow base e size v n xs) (hg : w.grownBy w' v.ownBlock) (hb : b < w.heap.size) (hn : v.ownBlock ≠ some b) : w'.cell? ⟨b, j, none⟩ = w.cell? ⟨b, j, none⟩ := grown_cell hg hb hn

set_option maxHeartbeats 4000000 in
set_option maxRecDepth 100000 in
theorem sideR_any (r1 r2 : Nat) (va v : Value) (al : List ByteArray) (hs : List Hk) (w : World) (hal : Strs w va al) (h : Hunks w v hs) (hg : Good al hs 0) (h1 : r1 ≤ r2) (h2 : r2 ≤ al.length) (hal1 : al.length ≤ 1000) (hlen : hs.length ≤ 1001) (hnew : ∀ h ∈ hs, h.new.length ≤ 1000) :
    Calls Try.prog 44 #[va, v, .agg #[.int .i64 (r1 : Int), .int .i64 (r2 : Int)]] w fun e w' => ∃ v', e = .returned (.tuple #[v', .bool (decide (0 < (insideR (r1, r2) hs).length))]) ∧ Strs w' v' (sideOf al (r1, r2) hs) ∧ (∀ g, v'.ownBlock = some g → w.heap.size ≤ g ∧ g < w'.heap.size) ∧ Below w.heap.size w w' := by
  have HSL : Hid ((sideOf al (r1, r2) hs).length ≤ 4000000) := hide (by
    have := sideOf_len (a := al) (r := (r1, r2)) hnew
    have h3 : (hs.length + 1) * (al.length + 1000) ≤ 1002 * 2000 := Nat.mul_le_mul (by omega) (by omega)
    omega)
  have HNEW := hide hnew
  obtain ⟨vs, hvs, ⟨_, A, ca, rfl, hca, hma, hxa⟩, hok, hel⟩ := h
  unfold maxLen at hma
  have HVS := hide hvs
  have HXA := hide hxa
  have HE := hide hel
  have HAL := hide hal
  obtain ⟨⟨_, LA, lc, rfl, hlc, hlm, hlx⟩, hlz⟩ := hal
  unfold maxLen at hlm
  have HLZ := hide hlz
  have HG := hide hg
  clear hvs hxa hel hok hg hlx hlz hnew
  have hr1b : r1 ≤ 1000 := by omega
  have hr2b : r2 ≤ 1000 := by omega
  obtain ⟨wb, hwb⟩ : ∃ wb, wb = w.alloc (.cells #[.int .i64 (r1 : Int), .int .i64 (r2 : Int)] 87) := ⟨_, rfl⟩
  have bB : Below w.heap.size w wb := by rw [hwb]; exact (Below.refl _ _).alloc (Nat.le_refl _) _
  have sB : wb.heap.size = w.heap.size + 1 := by rw [hwb]; simp
  have d0 : wb.cell? ⟨w.heap.size, 0, none⟩ = some (.int .i64 (r1 : Int)) := by rw [hwb]; simp [World.cell?_alloc_new]
  have d1 : wb.cell? ⟨w.heap.size, 1, none⟩ = some (.int .i64 (r2 : Int)) := by rw [hwb]; simp [World.cell?_alloc_new]
  go_enter Try.func44, Try.ntmps44
  rw [hwb] at d0 d1
  go_wp2_with fail
  rw [← hwb] at d0 d1 ⊢
  clear hwb
  go_loopw [8, 9, 10, 17] (fun ov pv sv i wr => ∃ (k p g : Nat) (l : List ByteArray), k ≤ hs.length ∧ i = .int .i64 (k : Int) ∧ pv = .int .i64 (p : Int) ∧ r1 ≤ p ∧ p ≤ r2 ∧ (p ≤ r1 ∨ p ≤ g) ∧ sv = .bool (decide (0 < (insideR (r1, r2) (hs.take k)).length)) ∧ wr.ownsRow (w.heap.size + 1) 9 1 ov l.length (l.map Value.string) ∧ Hid (∀ s ∈ l, s.size ≤ maxLen) ∧ Hid (Good al (hs.drop k) g) ∧ Hid (sideOf al (r1, r2) hs = l ++ appliedTo al r2 (insideR (r1, r2) (hs.drop k)) p) ∧ Below (w.heap.size + 1) wb wr) (fun _ _ _ i _ => hs.length - (intOf i).toNat)
  case atStart => exact ⟨0, r1, 0, [], Nat.zero_le _, rfl, rfl, Nat.le_refl _, h1, .inl (Nat.le_refl _), rfl, World.ownsRow_nil _ _ _ _, hide (fun _ h => by simp at h), hide (by rw [List.drop_zero]; exact HG.out), hide (by rw [List.drop_zero]; rfl), Below.refl _ _⟩
  case round =>
    obtain ⟨k, p, g, l, hk, rfl, rfl, hp1, hp2, hpg, rfl, hown, hz, hgd, hap, hbw⟩ := hrel
    have hwz := hbw.size
    rw [sB] at hwz
    have g0 := (hbw.cell (p := ⟨w.heap.size, 0, none⟩) (by show w.heap.size < _; omega)).trans d0
    have g1 := (hbw.cell (p := ⟨w.heap.size, 1, none⟩) (by show w.heap.size < _; omega)).trans d1
    have hbW : Below w.heap.size w wr := bB.trans (hbw.mono (by omega))
    have hap2 := hap.out
    have hll : l.length ≤ 4000000 := by
      have := congrArg List.length hap2
      rw [List.length_append] at this; have := HSL.out; omega
    by_cases hlt : k < hs.length
    · have hd : (k : Int) < (hs.length : Int) := by omega
      obtain ⟨ba, oa, rfl, hba, hja⟩ := HXA.out (by omega)
      have kv : k < vs.length := by rw [HVS.out]; exact hlt
      have cs := hkCells_at hs vs k hs[k] vs[k] (List.getElem?_eq_getElem hlt) (List.getElem?_eq_getElem kv) HVS.out
      rw [Nat.mul_comm] at cs
      have a0 := (hbW.cell hba).trans (hja _ _ cs.1)
      have a1 := (hbW.cell hba).trans (hja _ _ cs.2.1)
      have a2 := (hbW.cell hba).trans (hja _ _ cs.2.2.1)
      have a3 := (hbW.cell hba).trans (hja _ _ cs.2.2.2)
      clear cs hja
      simp only [← Nat.add_assoc] at a0 a1 a2 a3
      have s1 := HE.out k hs[k] vs[k].1 vs[k].2 (List.getElem?_eq_getElem hlt) (List.getElem?_eq_getElem kv)
      obtain ⟨A1, n1, c1, e1⟩ := strs_form s1.1
      obtain ⟨A2, n2, c2, e2⟩ := strs_form s1.2
      rw [e1] at a2
      rw [e2] at a3
      rw [e1, e2] at s1
      clear e1 e2 kv
      obtain ⟨t1, t2⟩ := s1
      obtain rfl := t1.len
      obtain rfl := t2.len
      have hgk := hgd.out
      have hnk := HNEW.out _ (List.getElem_mem hlt)
      have HTK : Hid (insideR (r1, r2) (hs.take (k + 1)) = insideR (r1, r2) (hs.take k) ++ (if inR (r1, r2) hs[k] = true then [hs[k]] else [])) := hide (by
        rw [List.take_succ_eq_append_getElem hlt, insideR_snoc])
      rw [List.drop_eq_getElem_cons hlt, insideR_cons] at hap2
      rw [List.drop_eq_getElem_cons hlt] at hgk
      obtain ⟨h, hh⟩ : ∃ h, hs[k] = h := ⟨_, rfl⟩
      rw [hh] at a0 a1 a2 a3 t1 t2 hgk hnk HTK hap2
      clear hh
      obtain ⟨f, hf, hgf, hfl, hgn⟩ := hgk
      have hin := inR_iff (r := (r1, r2)) hf
      have HAP := hide hap2
      have HGN := hide hgn
      have HIN := hide hin
      have T2 := hide t2
      have HF := hide hf
      obtain ⟨q0, hq0⟩ : ∃ q0, (insideR (r1, r2) (hs.take k)).length = q0 := ⟨_, rfl⟩
      rw [hq0]
      have HQ0 := hide hq0
      rw [hf] at a0
      have HOWN := hide hown
      have huge := own_ge hown
      have hult := own_lt hown
      have HBW := hide hbw
      obtain ⟨OA, oc, rfl⟩ := own_form hown
      have zB : w.heap.size < wr.heap.size := by omega
      have hwe : IntKind.i64.wrap ((f : Int) + (h.old.length : Int)) = (f : Int) + (h.old.length : Int) := IntWalk.i64_in _ (by omega)
      clear t1 t2 hgn hin hf hap2 hq0 hgd hap hown hbw d0 d1
      by_cases hA : r1 ≤ f
      · have hA' : (r1 : Int) ≤ (f : Int) := by omega
        have hA'' : decide ((r1 : Int) ≤ (f : Int)) = true := by simpa using hA'
        by_cases hB : f + h.old.length ≤ r2
        · have hB' : (f : Int) + (h.old.length : Int) ≤ (r2 : Int) := by omega
          have hB'' : decide ((f : Int) + (h.old.length : Int) ≤ (r2 : Int)) = true := by simpa using hB'
          have hinn := HIN.out.2 ⟨hA, hB⟩
          have hap3 := HAP.out
          rw [if_pos hinn, appliedTo, show h.frm.toNat = f by rw [HF.out]; rfl] at hap3
          have HAP3 := hide hap3
          have hl3 := congrArg List.length hap3
          simp only [List.length_append] at hl3
          have hs4 := HSL.out
          have hpf : p ≤ f := by omega
          obtain ⟨vk, hvk, hsk⟩ := cut_both HAL.out (lo := p) (hi := f) hpf (by omega)
          have HSK := hide hsk
          have hsl : ((al.drop p).take (f - p)).length = (part al p f).length := rfl
          obtain ⟨PP, hPP⟩ : ∃ PP, (al.drop p).take (f - p) = PP := ⟨_, rfl⟩
          rw [hPP] at HSK hsl
          have HPP := hide hPP
          have hb1 : l.length + PP.length ≤ 1000000000000 := by omega
          have hb2 : (l ++ PP).length + h.new.length ≤ 1000000000000 := by rw [List.length_append]; omega
          have HZ2 : Hid (∀ s ∈ (l ++ PP) ++ h.new, s.size ≤ maxLen) := hide (fun s hs' => by
            rcases List.mem_append.1 hs' with hs' | hs'
            · rcases List.mem_append.1 hs' with hs' | hs'
              · exact hz.out s hs'
              · rw [← HPP.out] at hs'; exact HLZ.out s (List.mem_of_mem_drop (List.mem_of_mem_take hs'))
            · exact T2.out.2 s hs')
          have HAPN : Hid (sideOf al (r1, r2) hs = ((l ++ PP) ++ h.new) ++ appliedTo al r2 (insideR (r1, r2) (hs.drop (k + 1))) (f + h.old.length)) := hide (by
            rw [HAP3.out, ← HPP.out]
            unfold part
            simp only [List.append_assoc])
          have HSOME : Hid (decide (0 < (insideR (r1, r2) (hs.take (k + 1))).length) = true) := hide (by rw [HTK.out, if_pos hinn]; simp)
          clear hap3 hl3 hPP hsk HTK HAP HAP3 hsl hz
          obtain ⟨wq, hwq⟩ : ∃ wq, wr.alloc (.cells #[.int .i64 (f : Int), .int .i64 h.to_, .slice A1 h.old.length c1, .slice A2 h.new.length c2] 43) = wq := ⟨_, rfl⟩
          obtain ⟨hbq, hsq, b0, b1, b2, b3⟩ := boxed4 (nq := 0) hwq
          have hlq : wr.heap.size < wq.heap.size := by omega
          have g0' := (hbq.cell (p := ⟨w.heap.size, 0, none⟩) zB).trans g0
          have g1' := (hbq.cell (p := ⟨w.heap.size, 1, none⟩) zB).trans g1
          have hOQ := own_below HOWN.out hbq
          have hnq : (Value.slice OA l.length oc).ownBlock ≠ some wr.heap.size := fun e => Nat.lt_irrefl _ (hult _ e)
          have hzq : w.heap.size + 1 ≤ wq.heap.size := by omega
          have hcpq : wq.heap[wr.heap.size]? = some (.cells #[.int .i64 (f : Int), .int .i64 h.to_, .slice A1 h.old.length c1, .slice A2 h.new.length c2] 43 (0, 0)) := by rw [← hwq]; exact heap_alloc_new _ _
          have hbW2 : Hid (∀ w2, Below (w.heap.size + 1) wr w2 → Below w.heap.size w w2) := hide (fun _ h => hbW.trans (h.mono (by omega)))
          have bWq : Below w.heap.size w wq := hbW.trans (hbq.mono (by omega))
          have hwf : IntKind.i64.wrap ((f : Int) + (h.old.length : Int)) = (f : Int) + (h.old.length : Int) := hwe
          go_wp2_with (first | (at_builtin; refine wpList_app_strs rfl _ _ rfl (w.heap.size + 1) _ l rfl hOQ vk PP rfl (HSK.out.below bWq) hb1 hzq ?_; intro v2 w2 hown2 hgrow2; have hcp2 := (hgrow2.block wr.heap.size hlq (fun e => hnq e.symm)).trans hcpq; have q3 : w2.cell? ⟨wr.heap.size, 3, none⟩ = some (.slice A2 h.new.length c2) := (by rw [Lib.cell_of_heap hcp2]; rfl); have hb2q : Below (w.heap.size + 1) wr w2 := (hbq.mono (by omega)).grown hgrow2 hzq (fun g hg => huge g hg)) | (at_builtin; refine wpList_app_strs rfl _ _ rfl (w.heap.size + 1) _ (l ++ PP) rfl hown2 (.slice A2 h.new.length c2) h.new rfl (T2.out.below (hbW2.out _ hb2q)) hb2 (Nat.le_trans hzq hgrow2.size) ?_; intro v3 w3 hown3 hgrow3; have hcp3 := (hgrow3.block wr.heap.size (Nat.lt_of_lt_of_le hlq hgrow2.size) (fun e => Lib.ownBlock_ne hown2 hcp2 (by decide) e.symm)).trans hcp2; have r0 : w3.cell? ⟨wr.heap.size, 0, none⟩ = some (.int .i64 (f : Int)) := (by rw [Lib.cell_of_heap hcp3]; rfl); have r2 : w3.cell? ⟨wr.heap.size, 2, none⟩ = some (.slice A1 h.old.length c1) := (by rw [Lib.cell_of_heap hcp3]; rfl); have hb3q : Below (w.heap.size + 1) wr w3 := hb2q.grown hgrow3 (Nat.le_trans hzq hgrow2.size) (own_ge hown2)))
          go_roundw
          case rel => exact ⟨k + 1, f + h.old.length, f + h.old.length, (l ++ PP) ++ h.new, by omega, by go_num, by go_num, by omega, hB, .inr (Nat.le_refl _), by rw [HSOME.out], hown3, HZ2, HGN, HAPN, HBW.out.trans hb3q⟩
          case measure => simp [intOf]; omega
        · have hB' : ¬ ((f : Int) + (h.old.length : Int) ≤ (r2 : Int)) := by omega
          have hB'' : decide ((f : Int) + (h.old.length : Int) ≤ (r2 : Int)) = false := by simpa using hB'
          have hni : ¬ (inR (r1, r2) h = true) := fun e => hB (HIN.out.1 e).2
          have hap3 := HAP.out
          rw [if_neg hni] at hap3
          have HAP3 := hide hap3
          have HTK2 : Hid ((insideR (r1, r2) (hs.take (k + 1))).length = q0) := hide (by rw [HTK.out, if_neg hni, List.append_nil]; exact HQ0.out)
          clear hap3 HTK HAP
          go_wp2_with fail
          obtain ⟨wq, hwq⟩ : ∃ wq, wr.alloc (.cells #[.int .i64 (f : Int), .int .i64 h.to_, .slice A1 h.old.length c1, .slice A2 h.new.length c2] 43) = wq := ⟨_, rfl⟩
          rw [hwq]
          obtain ⟨hbq, hsq, b0, b1, b2, b3⟩ := boxed4 (nq := 0) hwq
          go_roundw
          case rel => exact ⟨k + 1, p, f + h.old.length, l, by omega, by go_num, rfl, hp1, hp2, by omega, by rw [HTK2.out], own_below HOWN.out hbq, hz, HGN, HAP3, HBW.out.trans (hbq.mono (by omega))⟩
          case measure => simp [intOf]; omega
      · have hA' : decide ((r1 : Int) ≤ (f : Int)) = false := by simp; omega
        have hA'' : ¬ ((r1 : Int) ≤ (f : Int)) := by omega
        have hni : ¬ (inR (r1, r2) h = true) := fun e => hA (HIN.out.1 e).1
        have hap3 := HAP.out
        rw [if_neg hni] at hap3
        have HAP3 := hide hap3
        have HTK2 : Hid ((insideR (r1, r2) (hs.take (k + 1))).length = q0) := hide (by rw [HTK.out, if_neg hni, List.append_nil]; exact HQ0.out)
        clear hap3 HTK HAP
        go_wp2_with fail
        obtain ⟨wq, hwq⟩ : ∃ wq, wr.alloc (.cells #[.int .i64 (f : Int), .int .i64 h.to_, .slice A1 h.old.length c1, .slice A2 h.new.length c2] 43) = wq := ⟨_, rfl⟩
        rw [hwq]
        obtain ⟨hbq, hsq, b0, b1, b2, b3⟩ := boxed4 (nq := 0) hwq
        go_roundw
        case rel => exact ⟨k + 1, p, f + h.old.length, l, by omega, by go_num, rfl, hp1, hp2, by omega, by rw [HTK2.out], own_below HOWN.out hbq, hz, HGN, HAP3, HBW.out.trans (hbq.mono (by omega))⟩
        case measure => simp [intOf]; omega
    · obtain rfl : k = hs.length := by omega
      have hd : ¬ ((hs.length : Int) < (hs.length : Int)) := by omega
      rw [List.take_length]
      rw [List.drop_length] at hap2
      have HAP : Hid (sideOf al (r1, r2) hs = l ++ part al p r2) := hide hap2
      obtain ⟨vk, hvk, hsk⟩ := cut_both HAL.out (lo := p) (hi := r2) hp2 h2
      have hsl : ((al.drop p).take (r2 - p)).length = (part al p r2).length := rfl
      have hpl2 := part_len (l := al) (i := p) (j := r2) h2
      obtain ⟨PP, hPP⟩ : ∃ PP, part al p r2 = PP := ⟨_, rfl⟩
      have hsk2 : Strs w vk PP := by rw [← hPP]; exact hsk
      rw [hPP] at HAP hpl2
      have HSK := hide hsk2
      have HPP := hide hPP
      have hb1 : l.length + PP.length ≤ 1000000000000 := by omega
      have HOWN := hide hown
      obtain ⟨OA, oc, rfl⟩ := own_form hown
      have huge := own_ge hown
      obtain ⟨q, hq⟩ : ∃ q, (insideR (r1, r2) hs).length = q := ⟨_, rfl⟩
      rw [hq]
      clear hap2 hap hsk hsk2 hPP hsl d0 d1
      go_wp2_with (at_builtin; refine wpList_app_strs rfl _ _ rfl (w.heap.size + 1) _ l rfl HOWN.out vk PP rfl (HSK.out.below hbW) hb1 hwz ?_; intro v2 w2 hown2 hgrow2)
      have hb2 : Below w.heap.size w w2 := hbW.grown hgrow2 hbW.size (fun g hg => by have := huge g hg; omega)
      go_wp2_with fail
      go_ret2
      refine ⟨_, rfl, ?_, fun g hg => ⟨by have := own_ge hown2 g hg; omega, own_lt hown2 g hg⟩, hb2⟩
      rw [HAP.out]
      refine strs_own hown2 fun s hs' => ?_
      rcases List.mem_append.1 hs' with hs' | hs'
      · exact hz.out s hs'
      · rw [← HPP.out] at hs'; exact HLZ.out s (List.mem_of_mem_drop (List.mem_of_mem_take hs'))
end Go.Proofs.Ytfjbdbdjhkmifaa
