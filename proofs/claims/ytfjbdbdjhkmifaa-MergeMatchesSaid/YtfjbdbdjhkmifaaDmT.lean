/- (delta.region).side: what one side makes of a region. -/
import Derived.Test.YtfjbdbdjhkmifaaDmS
import Derived.Test.YtfjbdbdjhkmifaaSame
set_option linter.unusedVariables false
set_option linter.unusedSimpArgs false
namespace Go.Pw
open Go.RowKit
/-- hunks whose slices lie in blocks that there are -/
def HunksL (w : World) (v : Value) (hs : List Hk) : Prop :=
  ∃ vs : List (Value × Value), vs.length = hs.length ∧ Rd w 4 v hs.length (hkCells hs vs) ∧ (∀ h ∈ hs, h.ok) ∧
    ∀ (i : Nat) (h : Hk) (o n : Value), hs[i]? = some h → vs[i]? = some (o, n) → (Strs w o h.old ∧ Lies w o) ∧ (Strs w n h.new ∧ Lies w n)
theorem HunksL.read {w : World} {v : Value} {hs : List Hk} (h : HunksL w v hs) : Hunks w v hs := by
  obtain ⟨vs, h1, h2, h3, h4⟩ := h
  exact ⟨vs, h1, h2, h3, fun i h o n e1 e2 => ⟨(h4 i h o n e1 e2).1.1, (h4 i h o n e1 e2).2.1⟩⟩
theorem Lies.more {w w' : World} {v : Value} (h : Lies w v) (hz : w.heap.size ≤ w'.heap.size) : Lies w' v := fun g hg => Nat.lt_of_lt_of_le (h g hg) hz
theorem HunksL.below {w w' : World} {v : Value} {hs : List Hk} (h : HunksL w v hs) (hb : Below w.heap.size w w') : HunksL w' v hs := by
  obtain ⟨vs, h1, h2, h3, h4⟩ := h
  exact ⟨vs, h1, h2.below hb, h3, fun i h o n e1 e2 => ⟨⟨(h4 i h o n e1 e2).1.1.below hb, (h4 i h o n e1 e2).1.2.more hb.size⟩, (h4 i h o n e1 e2).2.1.below hb, (h4 i h o n e1 e2).2.2.more hb.size⟩⟩
theorem HunksOwn.lies {w : World} {tH base lo : Nat} {v : Value} {hs : List Hk} (h : HunksOwn w tH base lo v hs) : HunksL w v hs := by
  obtain ⟨vs, h1, h2, h3, h4⟩ := h
  exact ⟨vs, h1, .of_own h2, h3, fun i h o n e1 e2 => ⟨⟨(h4 i h o n e1 e2).1.1, fun g hg => ((h4 i h o n e1 e2).1.2 g hg).2.1⟩, (h4 i h o n e1 e2).2.1, fun g hg => ((h4 i h o n e1 e2).2.2 g hg).2.1⟩⟩
end Go.Pw
namespace Go.Proofs.Ytfjbdbdjhkmifaa
open Go.RowKit Go.Pw
theorem endH_any (f t : Int) (A1 A2 : Option Addr) (n1 c1 n2 c2 : Nat) (W : World) (h0 : 0 ≤ f) (h1 : f ≤ 1000000) (h2 : n1 ≤ 1000000) :
    Calls Try.prog 63 #[.agg #[.int .i64 f, .int .i64 t, .slice A1 n1 c1, .slice A2 n2 c2]] W fun e w' => e = .returned (.int .i64 (f + (n1 : Int))) ∧ Below W.heap.size W w' := end_any ⟨f, t, A1, n1, c1, A2, n2, c2⟩ W ⟨h0, h1⟩ h2
theorem insideR_snoc (r : Rg) (l : List Hk) (h : Hk) : insideR r (l ++ [h]) = insideR r l ++ (if inR r h = true then [h] else []) := by
  unfold insideR
  rw [List.filter_append]
  congr 1
  by_cases hh : inR r h = true
  · rw [if_pos hh, List.filter_cons, if_pos hh]; rfl
  · rw [if_neg hh, List.filter_cons, if_neg hh]; rfl

set_option maxHeartbeats 4000000 in
set_option maxRecDepth 100000 in
theorem side_any (r1 r2 : Nat) (va v : Value) (al : List ByteArray) (hs : List Hk) (w : World) (hal : Strs w va al) (h : HunksL w v hs) (hg : Good al hs 0) (h1 : r1 ≤ r2) (h2 : r2 ≤ al.length) (hal1 : al.length ≤ 1000) (hlen : hs.length ≤ 1001) (hnew : ∀ h ∈ hs, h.new.length ≤ 1000) :
    Calls Try.prog 31 #[.agg #[.int .i64 (r1 : Int), .int .i64 (r2 : Int)], va, v] w fun e w' => ∃ v', e = .returned (.tuple #[v', .bool (decide (0 < (insideR (r1, r2) hs).length))]) ∧ Strs w' v' (sideOf al (r1, r2) hs) ∧ (∀ g, v'.ownBlock = some g → w.heap.size ≤ g ∧ g < w'.heap.size) ∧ Below w.heap.size w w' := by
  have HSE := hide (side_eq (r := (r1, r2)) h1 h2 hg)
  have HSL : Hid ((sideOf al (r1, r2) hs).length ≤ 4000000) := hide (by
    have := sideOf_len (a := al) (r := (r1, r2)) hnew
    have h3 : (hs.length + 1) * (al.length + 1000) ≤ 1002 * 2000 := Nat.mul_le_mul (by omega) (by omega)
    omega)
  have HFR := hide (good_frm hg)
  obtain ⟨vs, hvs, ⟨_, A, ca, rfl, hca, hma, hxa⟩, hok, hel⟩ := h
  unfold maxLen at hma
  have HVS := hide hvs
  have HXA := hide hxa
  have HE := hide hel
  have HOK := hide hok
  have HAL := hide hal
  obtain ⟨⟨_, LA, lc, rfl, hlc, hlm, hlx⟩, hlz⟩ := hal
  clear hvs hxa hel hok hg hlx hlz
  obtain ⟨ip, hip, hpz, hps, hpb⟩ := info_parts info_hunk
  have hr1b : r1 ≤ 1000 := by omega
  have hr2b : r2 ≤ 1000 := by omega
  obtain ⟨wb, hwb⟩ : ∃ wb, wb = w.alloc (.cells #[.int .i64 (r1 : Int), .int .i64 (r2 : Int)] 67) := ⟨_, rfl⟩
  have bB : Below w.heap.size w wb := by rw [hwb]; exact (Below.refl _ _).alloc (Nat.le_refl _) _
  have sB : wb.heap.size = w.heap.size + 1 := by rw [hwb]; simp
  have d0 : wb.cell? ⟨w.heap.size, 0, none⟩ = some (.int .i64 (r1 : Int)) := by rw [hwb]; simp [World.cell?_alloc_new]
  have d1 : wb.cell? ⟨w.heap.size, 1, none⟩ = some (.int .i64 (r2 : Int)) := by rw [hwb]; simp [World.cell?_alloc_new]
  go_enter Try.func31, Try.ntmps31
  go_wp2_with fail
  rw [← hwb]
  clear hwb
  go_loopw [8, 13] (fun ov i wr => ∃ k : Nat, k ≤ hs.length ∧ i = .int .i64 (k : Int) ∧ Hid (HunksOwn wr 43 (w.heap.size + 1) 0 ov ((insideR (r1, r2) (hs.take k)).map (shiftH r1))) ∧ Below (w.heap.size + 1) wb wr) (fun _ i _ => hs.length - (intOf i).toNat)
  case atStart => exact ⟨0, Nat.zero_le _, rfl, hide (HunksOwn.nil _ _ _ _), Below.refl _ _⟩
  case round =>
    obtain ⟨k, hk, rfl, hho, hbw⟩ := hrel
    have hz := hbw.size
    rw [sB] at hz
    have g0 := (hbw.cell (p := ⟨w.heap.size, 0, none⟩) (by show w.heap.size < _; omega)).trans d0
    have g1 := (hbw.cell (p := ⟨w.heap.size, 1, none⟩) (by show w.heap.size < _; omega)).trans d1
    have HBW := hide hbw
    have hbW : Below w.heap.size w wr := bB.trans (hbw.mono (by omega))
    by_cases hlt : k < hs.length
    · have hd : (k : Int) < (hs.length : Int) := by omega
      obtain ⟨ba, oa, rfl, hba, hja⟩ := HXA.out (by omega)
      have kv : k < vs.length := by rw [HVS.out]; exact hlt
      have cs := hkCells_at hs vs k hs[k] vs[k] (List.getElem?_eq_getElem hlt) (List.getElem?_eq_getElem kv) HVS.out
      rw [Nat.mul_comm] at cs
      have a0 := (hbW.cell hba).trans (hja _ _ cs.1)
      have a1 := (hbW.cell hba).trans (hja _ _ cs.2.1)
      have a2 := (hbW.cell hba).trans (hja _ _ cs.2.2.1)
      have a3 := (hbW.cell hba).trans (hja _ _ cs.2.2.2)
      clear cs hja
      simp only [← Nat.add_assoc] at a0 a1 a2 a3
      have s1 := HE.out k hs[k] vs[k].1 vs[k].2 (List.getElem?_eq_getElem hlt) (List.getElem?_eq_getElem kv)
      have hokk := HOK.out _ (List.getElem_mem hlt)
      have hfr := HFR.out _ (List.getElem_mem hlt)
      obtain ⟨A1, n1, c1, e1⟩ := strs_form s1.1.1
      obtain ⟨A2, n2, c2, e2⟩ := strs_form s1.2.1
      rw [e1] at a2
      rw [e2] at a3
      rw [e1, e2] at s1
      clear e1 e2 kv
      obtain ⟨⟨t1, l1⟩, t2, l2⟩ := s1
      obtain rfl := t1.len
      obtain rfl := t2.len
      have HT : Hid ((insideR (r1, r2) (hs.take (k + 1))).map (shiftH r1) = (insideR (r1, r2) (hs.take k)).map (shiftH r1) ++ (if inR (r1, r2) hs[k] = true then [shiftH r1 hs[k]] else [])) := hide (by
        rw [List.take_succ_eq_append_getElem hlt, insideR_snoc, List.map_append]
        congr 1
        split <;> rfl)
      have hacl : ((insideR (r1, r2) (hs.take k)).map (shiftH r1)).length ≤ 1001 := by
        rw [List.length_map]; have := List.length_filter_le (inR (r1, r2)) (hs.take k); rw [List.length_take] at this; unfold insideR; omega
      obtain ⟨acc, hacc⟩ : ∃ acc, (insideR (r1, r2) (hs.take k)).map (shiftH r1) = acc := ⟨_, rfl⟩
      obtain ⟨h, hh⟩ : ∃ h, hs[k] = h := ⟨_, rfl⟩
      rw [hacc] at hho HT hacl
      rw [hh] at a0 a1 a2 a3 t1 t2 l1 l2 hokk hfr HT
      clear hh hacc
      obtain ⟨f, hf⟩ : ∃ f : Nat, h.frm = (f : Int) := ⟨h.frm.toNat, by omega⟩
      have hin := inR_iff (r := (r1, r2)) hf
      rw [hf] at a0 hfr
      have hfb : f + h.old.length ≤ 1000 := by omega
      have T1 := hide (t1.below hbW)
      have T2 := hide (t2.below hbW)
      have L1 := hide l1
      have L2 := hide l2
      have HIN := hide hin
      have HF := hide hf
      have HOKK := hide hokk
      obtain ⟨us, hus, hrow, hok', hel'⟩ := hho.out
      have huge := own_ge hrow
      have hult := own_lt hrow
      have HUS := hide hus
      have HROW := hide hrow
      have HOK' := hide hok'
      have HEL' := hide hel'
      obtain ⟨UA, uc, rfl⟩ := own_form hrow
      have zB : w.heap.size < wr.heap.size := by omega
      have hw1 : IntKind.i64.wrap ((f : Int) - (r1 : Int)) = (f : Int) - (r1 : Int) := IntWalk.i64_in _ (by omega)
      have HEND : Hid (∀ W : World, Calls Try.prog 63 #[.agg #[.int .i64 (f : Int), .int .i64 h.to_, .slice A1 h.old.length c1, .slice A2 h.new.length c2]] W fun e w' => e = .returned (.int .i64 ((f : Int) + (h.old.length : Int))) ∧ Below W.heap.size W w') := hide (fun W => endH_any _ _ _ _ _ _ _ _ W (by omega) (by omega) (by omega))
      have hwe : IntKind.i64.wrap ((f : Int) + (h.old.length : Int)) = (f : Int) + (h.old.length : Int) := IntWalk.i64_in _ (by omega)
      clear t1 t2 l1 l2 hin hf hokk hus hrow hok' hel' hbw
      by_cases hA : r1 ≤ f
      · have hA' : (r1 : Int) ≤ (f : Int) := by omega
        have hA'' : decide ((r1 : Int) ≤ (f : Int)) = true := by simpa using hA'
        go_wp2_with fail
        obtain ⟨wq, hwq⟩ : ∃ wq, wr.alloc (.cells #[.int .i64 (f : Int), .int .i64 h.to_, .slice A1 h.old.length c1, .slice A2 h.new.length c2] 43) = wq := ⟨_, rfl⟩
        rw [hwq]
        obtain ⟨hbq, hsq, b0, b1, b2, b3⟩ := boxed4 (nq := 0) hwq
        have g0' := (hbq.cell (p := ⟨w.heap.size, 0, none⟩) zB).trans g0
        have g1' := (hbq.cell (p := ⟨w.heap.size, 1, none⟩) zB).trans g1
        clear hwq a0 a1 a2 a3 g0 g1
        by_cases hB : f + h.old.length ≤ r2
        case' pos =>
          have hB' : (f : Int) + (h.old.length : Int) ≤ (r2 : Int) := by omega
          have hB'' : decide ((f : Int) + (h.old.length : Int) ≤ (r2 : Int)) = true := by simpa using hB'
          have HTN : Hid ((insideR (r1, r2) (hs.take (k + 1))).map (shiftH r1) = acc ++ [shiftH r1 h]) := hide (by
            rw [HT.out, if_pos (HIN.out.2 ⟨hA, hB⟩)])
        case' neg =>
          have hB' : ¬ ((f : Int) + (h.old.length : Int) ≤ (r2 : Int)) := by omega
          have hB'' : decide ((f : Int) + (h.old.length : Int) ≤ (r2 : Int)) = false := by simpa using hB'
          have HTN : Hid ((insideR (r1, r2) (hs.take (k + 1))).map (shiftH r1) = acc) := hide (by
            rw [HT.out, if_neg (fun h => hB (HIN.out.1 h).2), List.append_nil])
        case neg =>
          go_region_with (go_at_call 63; (with_reducible refine (HEND.out _).mono ?_); rintro e' w1 ⟨rfl, hb⟩; have hb1 : Below wq.heap.size wq w1 := ⟨hb.os, hb.tape, hb.output, hb.size, hb.block⟩; have hlq : wr.heap.size < wq.heap.size := (by omega); have z0 := (hb1.cell (p := ⟨wr.heap.size, 0, none⟩) hlq).trans b0; have z1 := (hb1.cell (p := ⟨wr.heap.size, 1, none⟩) hlq).trans b1; have z2 := (hb1.cell (p := ⟨wr.heap.size, 2, none⟩) hlq).trans b2; have z3 := (hb1.cell (p := ⟨wr.heap.size, 3, none⟩) hlq).trans b3; have y0 := (hb1.cell (p := ⟨w.heap.size, 0, none⟩) (by show w.heap.size < _; omega)).trans g0'; have y1 := (hb1.cell (p := ⟨w.heap.size, 1, none⟩) (by show w.heap.size < _; omega)).trans g1')
          all_goals
            have hbr : Below wr.heap.size wr w1 := hbq.trans (hb1.mono (by omega))
            clear hb b0 b1 b2 b3 g0' g1'
            go_wp2_with fail
            go_roundw
            case rel => exact ⟨k + 1, by omega, by go_num, hide (by rw [HTN.out]; exact hho.out.below hbr), HBW.out.trans (hbr.mono (by omega))⟩
            case measure => simp [intOf]; omega
        case pos =>
          have KEY : Hid (∀ (w1 : World) (ob : Obj) (vv : Value) (w5 : World), Below wr.heap.size wr w1 → w5.ownsRow (w.heap.size + 1) 43 4 vv (acc.length + 1) (hkCells acc us ++ [.int .i64 ((f : Int) - (r1 : Int)), .int .i64 0, .slice A1 h.old.length c1, .slice A2 h.new.length c2]) → (w1.alloc ob).grownBy w5 (Value.slice UA acc.length uc).ownBlock → (vv.ownBlock = (Value.slice UA acc.length uc).ownBlock ∨ vv.ownBlock = some (w1.alloc ob).heap.size) →
              HunksOwn w5 43 (w.heap.size + 1) 0 vv (acc ++ [shiftH r1 h]) ∧ Below (w.heap.size + 1) wb w5) := hide (fun w1 ob vv w5 hb1 ho hg hat => by
            have hz1 := hb1.size
            have ba : Below wr.heap.size wr (w1.alloc ob) := hb1.alloc hz1 ob
            have hel2 : HunkElems (w1.alloc ob) 0 (.slice UA acc.length uc) acc us := fun i h' o n e1 e2 => ⟨⟨(HEL'.out i h' o n e1 e2).1.1.below ba, (HEL'.out i h' o n e1 e2).1.2.more ba.size⟩, (HEL'.out i h' o n e1 e2).2.1.below ba, (HEL'.out i h' o n e1 e2).2.2.more ba.size⟩
            have hbs := ba.size
            refine ⟨HunksOwn.push (h := shiftH r1 h) HOK'.out ?_ (T1.out.below ba) (T2.out.below ba) ?_ ?_ HUS.out hel2 (by rw [show (shiftH r1 h).frm = (f : Int) - (r1 : Int) by show h.frm - (r1 : Int) = _; rw [HF.out]]; exact ho) hg hat, ?_⟩
            · refine ⟨⟨?_, ?_⟩, ⟨?_, ?_⟩⟩
              · show (-9223372036854775808 : Int) ≤ h.frm - (r1 : Int); rw [HF.out]; omega
              · show h.frm - (r1 : Int) ≤ (9223372036854775807 : Int); rw [HF.out]; omega
              · show (-9223372036854775808 : Int) ≤ 0; omega
              · show (0 : Int) ≤ 9223372036854775807; omega
            · exact fun g hg => ⟨Nat.zero_le _, by have := L1.out g hg; omega, fun e => by have := L1.out g hg; have := huge g e; omega⟩
            · exact fun g hg => ⟨Nat.zero_le _, by have := L2.out g hg; omega, fun e => by have := L2.out g hg; have := huge g e; omega⟩
            · exact HBW.out.trans ((ba.mono (by omega)).grown hg (by omega) huge))
          go_region_with (go_at_call 63; (with_reducible refine (HEND.out _).mono ?_); rintro e' w1 ⟨rfl, hb⟩; have hb1 : Below wq.heap.size wq w1 := ⟨hb.os, hb.tape, hb.output, hb.size, hb.block⟩; have hlq : wr.heap.size < wq.heap.size := (by omega); have z0 := (hb1.cell (p := ⟨wr.heap.size, 0, none⟩) hlq).trans b0; have z1 := (hb1.cell (p := ⟨wr.heap.size, 1, none⟩) hlq).trans b1; have z2 := (hb1.cell (p := ⟨wr.heap.size, 2, none⟩) hlq).trans b2; have z3 := (hb1.cell (p := ⟨wr.heap.size, 3, none⟩) hlq).trans b3; have y0 := (hb1.cell (p := ⟨w.heap.size, 0, none⟩) (by show w.heap.size < _; omega)).trans g0'; have y1 := (hb1.cell (p := ⟨w.heap.size, 1, none⟩) (by show w.heap.size < _; omega)).trans g1')
          all_goals
            have hbr : Below wr.heap.size wr w1 := hbq.trans (hb1.mono (by omega))
            clear hb b0 b1 b2 b3 g0' g1'
            go_wp2_with (at_builtin; refine wpList_append_own_at _ rfl _ _ 33 rfl (w.heap.size + 1) 43 ip _ 4 64 Try.underlying33 hip hpz hps hpb rfl (by decide) _ acc.length (hkCells acc us) rfl ((own_below HROW.out hbr).alloc _) ⟨w1.heap.size, 0, none⟩ 1 1 [.int .i64 ((f : Int) - (r1 : Int)), .int .i64 0, .slice A1 h.old.length c1, .slice A2 h.new.length c2] rfl rfl (four_new _ _ _ _ _ _) (by simp [Value.oneCell']) (by unfold maxLen; omega) (by omega) (by have := hbr.size; simp; omega) ?_; intro vv w5 hown5 hgrow5 hnil5 hat5; have HEN := hide (KEY.out _ _ vv w5 hbr hown5 hgrow5 hat5); clear hown5 hgrow5 hnil5 hat5)
            go_roundw
            case rel => exact ⟨k + 1, by omega, by go_num, hide (by rw [HTN.out]; exact HEN.out.1), HEN.out.2⟩
            case measure => simp [intOf]; omega
      · have hA' : decide ((r1 : Int) ≤ (f : Int)) = false := by simp; omega
        have hA'' : ¬ ((r1 : Int) ≤ (f : Int)) := by omega
        have HTN : Hid ((insideR (r1, r2) (hs.take (k + 1))).map (shiftH r1) = acc) := hide (by
          rw [HT.out, if_neg (fun h => hA (HIN.out.1 h).1), List.append_nil])
        go_wp2_with fail
        go_quiet (fail)
        go_wp2_with fail
        obtain ⟨wq, hwq⟩ : ∃ wq, (wr.alloc (.cells #[.int .i64 (f : Int), .int .i64 h.to_, .slice A1 h.old.length c1, .slice A2 h.new.length c2] 43)).drewN nq = wq := ⟨_, rfl⟩
        rw [hwq]
        obtain ⟨hbq, hsq, b0, b1, b2, b3⟩ := boxed4 hwq
        go_roundw
        case rel => exact ⟨k + 1, by omega, by go_num, hide (by rw [HTN.out]; exact hho.out.below hbq), HBW.out.trans (hbq.mono (by omega))⟩
        case measure => simp [intOf]; omega
    · obtain rfl : k = hs.length := by omega
      rw [List.take_length] at hho
      have hd : ¬ ((hs.length : Int) < (hs.length : Int)) := by omega
      obtain ⟨vk, hvk, hsk⟩ := cut_both HAL.out (lo := r1) (hi := r2) h1 h2
      have HSK := hide hsk
      have HH := hide hho.out.read
      obtain ⟨UA, uc, hu⟩ : ∃ UA uc, u8 = .slice UA (insideR (r1, r2) hs).length uc := by
        obtain ⟨_, _, hrow, _⟩ := hho.out
        obtain ⟨A', c', h⟩ := own_form hrow
        exact ⟨A', c', by rw [h, List.length_map]⟩
      subst hu
      have hpl : (part al r1 r2).length ≤ 1000 := by rw [part_len h2]; omega
      have HCALL := hide (replaced_at vk (.slice UA (insideR (r1, r2) hs).length uc) (part al r1 r2) ((insideR (r1, r2) hs).map (shiftH r1)) wr (HSK.out.below hbW) HH.out HSE.out.1 (by rw [HSE.out.2]; exact HSL.out) (by rw [List.length_map]; have := List.length_filter_le (inR (r1, r2)) hs; unfold insideR; omega) hpl)
      rw [HSE.out.2] at HCALL
      obtain ⟨q, hq⟩ : ∃ q, (insideR (r1, r2) hs).length = q := ⟨_, rfl⟩
      rw [hq] at HCALL ⊢
      have HQ := hide hq
      clear hsk hho HH hq
      go_wp2_with fail
      refine HCALL.out.mono ?_
      rintro e w2 ⟨v2, rfl, hs2, hg2, hb2⟩
      go_wp2_with fail
      go_ret2
      exact ⟨v2, by simp [HQ.out], hs2, fun g hg => ⟨Nat.le_trans hbW.size (hg2 g hg).1, (hg2 g hg).2⟩, hbW.trans (hb2.mono hbW.size)⟩
end Go.Proofs.Ytfjbdbdjhkmifaa
