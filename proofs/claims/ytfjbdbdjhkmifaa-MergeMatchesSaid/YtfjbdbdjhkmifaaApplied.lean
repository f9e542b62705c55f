import Derived.Test.YtfjbdbdjhkmifaaAppend
import Derived.Test.YtfjbdbdjhkmifaaSame
import Derived.Deep.RegionHeld3
set_option linter.unusedSimpArgs false
set_option linter.unusedVariables false
namespace Go.Proofs.Ytfjbdbdjhkmifaa
open Go.RowKit Go.Pw

/-- hunks that lie in order in a list, from a line on -/
def Good (a : List ByteArray) : List Hk → Nat → Prop
  | [], p => p ≤ a.length
  | h :: hs, p => ∃ f : Nat, h.frm = (f : Int) ∧ p ≤ f ∧ f + h.old.length ≤ a.length ∧ Good a hs (f + h.old.length)
/-- what hunks make of a list, from a line on -/
def applied (a : List ByteArray) : List Hk → Nat → List ByteArray
  | [], p => a.drop p
  | h :: hs, p => (a.drop p).take (h.frm.toNat - p) ++ h.new ++ applied a hs (h.frm.toNat + h.old.length)
theorem strs_own {w : World} {base : Nat} {v : Value} {l : List ByteArray} (h : w.ownsRow base 9 1 v l.length (l.map Value.string)) (hz : ∀ s ∈ l, s.size ≤ maxLen) : Strs w v l := ⟨Rd.of_own h, hz⟩
theorem Good.le {a : List ByteArray} : ∀ {hs : List Hk} {p : Nat}, Good a hs p → p ≤ a.length
  | [], _, h => h
  | h :: hs, p, ⟨f, _, h1, h2, _⟩ => by omega

set_option maxHeartbeats 4000000 in
set_option maxRecDepth 100000 in
theorem replaced_at (va v : Value) (al : List ByteArray) (hs : List Hk) (w : World) (hal : Strs w va al) (h : Hunks w v hs) (hg : Good al hs 0) (hle : (applied al hs 0).length ≤ 4000000) (hlen : hs.length ≤ 4398046511104) (hal1 : al.length ≤ 1000) :
    Calls Try.prog 64 #[va, v] w fun e w' => ∃ v', e = .returned v' ∧ Strs w' v' (applied al hs 0) ∧ (∀ g, v'.ownBlock = some g → w.heap.size ≤ g ∧ g < w'.heap.size) ∧ Below w.heap.size w w' := by
  obtain ⟨vs, hvs, ⟨_, A, ca, rfl, hca, hma, hxa⟩, hok, hel⟩ := h
  unfold maxLen at hma
  have HVS := hide hvs
  have HXA := hide hxa
  have HE := hide hel
  have HOK := hide hok
  have HG0 := hide hg
  clear hvs hxa hel hok hg
  have HAL := hide hal
  obtain ⟨⟨_, LA, lc, rfl, hlc, hlm, hlx⟩, hlz⟩ := hal
  unfold maxLen at hlm
  have HLZ := hide hlz
  clear hlx hlz
  by_cases hl1 : False
  · exact hl1.elim
  · clear hl1
    go_enter Try.func64, Try.ntmps64
    go_wp2_with fail
    go_loopw [5, 6, 12] (fun ov pv i wr => ∃ (k p : Nat) (l : List ByteArray), k ≤ hs.length ∧ i = .int .i64 (k : Int) ∧ pv = .int .i64 (p : Int) ∧ wr.ownsRow w.heap.size 9 1 ov l.length (l.map Value.string) ∧ Hid (∀ s ∈ l, s.size ≤ maxLen) ∧ Hid (Good al (hs.drop k) p) ∧ Hid (applied al hs 0 = l ++ applied al (hs.drop k) p) ∧ Below w.heap.size w wr) (fun _ _ i _ => hs.length - (intOf i).toNat)
    case atStart => exact ⟨0, 0, [], by omega, rfl, rfl, World.ownsRow_lit (base := w.heap.size) w #[] 0 (Nat.le_refl _) (by unfold maxLen; omega) rfl, fun _ h => (by simp at h), (by show Good _ _ _; rw [List.drop_zero]; exact HG0.out), (by show _ = _; simp), (Below.refl _ _).alloc (Nat.le_refl _) _⟩
    case round =>
      obtain ⟨k, p, l, hk, rfl, rfl, hown, hz, hgd, hap, hbw⟩ := hrel
      have hpl := hgd.out.le
      have hll : l.length + (applied al (hs.drop k) p).length ≤ 4000000 := by
        have := congrArg List.length hap.out
        rw [List.length_append] at this; omega
      by_cases hlt : k < hs.length
      · obtain ⟨ba, oa, rfl, hba, hja⟩ := HXA.out (by omega)
        have kv : k < vs.length := by rw [HVS.out]; exact hlt
        have cs := hkCells_at hs vs k hs[k] vs[k] (List.getElem?_eq_getElem hlt) (List.getElem?_eq_getElem kv) HVS.out
        rw [Nat.mul_comm] at cs
        have a0 := (hbw.cell hba).trans (hja _ _ cs.1)
        have a1 := (hbw.cell hba).trans (hja _ _ cs.2.1)
        have a2 := (hbw.cell hba).trans (hja _ _ cs.2.2.1)
        have a3 := (hbw.cell hba).trans (hja _ _ cs.2.2.2)
        clear cs hja
        simp only [← Nat.add_assoc] at a0 a1 a2 a3
        have s1 := HE.out k hs[k] vs[k].1 vs[k].2 (List.getElem?_eq_getElem hlt) (List.getElem?_eq_getElem kv)
        have hokk := HOK.out _ (List.getElem_mem hlt)
        have lza : ba < wr.heap.size := by have := hbw.size; omega
        obtain ⟨A1, n1, c1, e1⟩ := strs_form s1.1
        obtain ⟨A2, n2, c2, e2⟩ := strs_form s1.2
        rw [e1] at a2
        rw [e2] at a3
        rw [e1, e2] at s1
        clear e1 e2 kv
        obtain ⟨t1, t2⟩ := s1
        obtain rfl := t1.len
        obtain rfl := t2.len
        have hgk := hgd.out
        have hapk := hap.out
        rw [List.drop_eq_getElem_cons hlt] at hgk hapk hll
        obtain ⟨h, hh⟩ : ∃ h, hs[k] = h := ⟨_, rfl⟩
        rw [hh] at a0 a1 a2 a3 t1 t2 hokk hgk hapk hll
        clear hh
        obtain ⟨f, hf, hpf, hfl, hgn⟩ := hgk
        have hft : h.frm.toNat = f := by omega
        rw [applied, hft] at hapk hll
        have HAP := hide hapk
        have HGN := hide hgn
        simp only [List.length_append, List.length_take, List.length_drop] at hll
        clear hapk hgn hft hap hgd
        rw [hf] at a0
        have T1 := hide t1
        have T2 := hide t2
        clear t1 t2
        have bb1 := (Below.refl wr.heap.size wr).alloc (Nat.le_refl _) (.cells #[.int .i64 (f : Int), .int .i64 h.to_, .slice A1 h.old.length c1, .slice A2 h.new.length c2] 43)
        have hbp : Below w.heap.size w (wr.alloc (.cells #[.int .i64 (f : Int), .int .i64 h.to_, .slice A1 h.old.length c1, .slice A2 h.new.length c2] 43)) := hbw.trans (bb1.mono hbw.size)
        obtain ⟨vk, hvk, hsk⟩ := cut_both HAL.out (lo := p) (hi := f) (by omega) (by omega)
        have HSK := hide hsk
        have ownp := hown.alloc (.cells #[.int .i64 (f : Int), .int .i64 h.to_, .slice A1 h.old.length c1, .slice A2 h.new.length c2] 43)
        have hcp : (wr.alloc (.cells #[.int .i64 (f : Int), .int .i64 h.to_, .slice A1 h.old.length c1, .slice A2 h.new.length c2] 43)).heap[wr.heap.size]? = some (.cells #[.int .i64 (f : Int), .int .i64 h.to_, .slice A1 h.old.length c1, .slice A2 h.new.length c2] 43 (0, 0)) := heap_alloc_new _ _
        have hne := Lib.ownBlock_ne ownp hcp (by decide)
        have HF := hide hf
        clear hf hsk bb1
        have hzz := hbp.size
        have hb1 : l.length + ((al.drop p).take (f - p)).length ≤ 1000000000000 := by simp only [List.length_take, List.length_drop]; omega
        have hb2 : (l ++ (al.drop p).take (f - p)).length + h.new.length ≤ 1000000000000 := by simp only [List.length_append, List.length_take, List.length_drop]; omega
        have hbs : w.heap.size ≤ (wr.alloc (.cells #[.int .i64 (f : Int), .int .i64 h.to_, .slice A1 h.old.length c1, .slice A2 h.new.length c2] 43)).heap.size := hbp.size
        have hlt2 : wr.heap.size < (wr.alloc (.cells #[.int .i64 (f : Int), .int .i64 h.to_, .slice A1 h.old.length c1, .slice A2 h.new.length c2] 43)).heap.size := by simp
        go_wp2_with fail
        go_region_held3 (fun w' => w'.cell? ⟨wr.heap.size, 0, none⟩ = some (.int .i64 (f : Int)) ∧ w'.cell? ⟨wr.heap.size, 2, none⟩ = some (.slice A1 h.old.length c1) ∧ w'.cell? ⟨wr.heap.size, 3, none⟩ = some (.slice A2 h.new.length c2)) (go_keep) (first | (refine step_app_strs (by rfl) (.tmp 16) (.tmp 21) (by rfl) w.heap.size _ l (by rfl) ownp.drew vk _ (by rfl) (HSK.out.below hbp).drew hb1 hbs ?_; intro v2 w2 hown2 hgrow2; have hcp2 := (hgrow2.block wr.heap.size hlt2 (fun e => hne e.symm)).trans hcp; have hne2 := Lib.ownBlock_ne hown2 hcp2 (by decide); have q0 : w2.cell? ⟨wr.heap.size, 0, none⟩ = some (.int .i64 (f : Int)) := (by rw [Lib.cell_of_heap hcp2]; rfl); have q2 : w2.cell? ⟨wr.heap.size, 2, none⟩ = some (.slice A1 h.old.length c1) := (by rw [Lib.cell_of_heap hcp2]; rfl); have q3 : w2.cell? ⟨wr.heap.size, 3, none⟩ = some (.slice A2 h.new.length c2) := (by rw [Lib.cell_of_heap hcp2]; rfl); have hbw2 : Below w.heap.size w w2 := (Below.drew hbp).grown hgrow2 hbs (own_ge hown)) | (refine step_app_strs (by rfl) (.tmp 22) (.tmp 24) (by rfl) w.heap.size _ _ (by rfl) hown2 (.slice A2 h.new.length c2) h.new (by rfl) (T2.out.below hbw2) hb2 hbw2.size ?_; intro v3 w3 hown3 hgrow3; have hcp3 := (hgrow3.block wr.heap.size (Nat.lt_of_lt_of_le hlt2 hgrow2.size) (fun e => hne2 e.symm)).trans hcp2; have r0 : w3.cell? ⟨wr.heap.size, 0, none⟩ = some (.int .i64 (f : Int)) := (by rw [Lib.cell_of_heap hcp3]; rfl); have r2 : w3.cell? ⟨wr.heap.size, 2, none⟩ = some (.slice A1 h.old.length c1) := (by rw [Lib.cell_of_heap hcp3]; rfl); have r3 : w3.cell? ⟨wr.heap.size, 3, none⟩ = some (.slice A2 h.new.length c2) := (by rw [Lib.cell_of_heap hcp3]; rfl); have hbw3 : Below w.heap.size w w3 := hbw2.grown hgrow3 hbw2.size (own_ge hown2)))
        go_wp2_with fail
        go_roundw
        case rel =>
          refine ⟨k + 1, f + h.old.length, (l ++ (al.drop p).take (f - p)) ++ h.new, by omega, by go_num, by go_num, hown3, ?_, HGN.out, ?_, hbw3⟩
          · intro s hs'
            rcases List.mem_append.1 hs' with hs' | hs'
            · rcases List.mem_append.1 hs' with hs' | hs'
              · exact hz.out s hs'
              · exact HLZ.out s (List.mem_of_mem_drop (List.mem_of_mem_take hs'))
            · exact T2.out.2 s hs'
          · show _ = _
            rw [HAP.out]; simp
        case measure => simp [intOf]; omega
      · have HF0 : Hid (applied al hs 0 = l ++ al.drop p) := by
          show _ = _
          rw [hap.out, List.drop_of_length_le (by omega)]; rfl
        obtain ⟨vk, hvk, hsk⟩ := cut_from HAL.out (k := p) hpl
        have HSK := hide hsk
        clear hsk
        have hb1 : l.length + (al.drop p).length ≤ 1000000000000 := by rw [List.length_drop]; omega
        go_wp2_with (at_builtin; refine wpList_app_strs rfl _ _ rfl w.heap.size _ l rfl hown vk _ rfl (HSK.out.below hbw) hb1 hbw.size ?_; intro v2 w2 hown2 hgrow2)
        have hbw2 : Below w.heap.size w w2 := hbw.grown hgrow2 hbw.size (own_ge hown)
        go_wp2_with fail
        go_ret
        refine ⟨_, rfl, ?_, fun g hg => ⟨own_ge hown2 g hg, own_lt hown2 g hg⟩, hbw2⟩
        rw [HF0.out]
        refine strs_own hown2 fun s hs' => ?_
        rcases List.mem_append.1 hs' with hs' | hs'
        · exact hz.out s hs'
        · exact HLZ.out s (List.mem_of_mem_drop hs')
theorem replaced_any (va v : Value) (al : List ByteArray) (hs : List Hk) (w : World) (hal : Strs w va al) (h : Hunks w v hs) (hg : Good al hs 0) (hle : (applied al hs 0).length ≤ 4000000) (hlen : hs.length ≤ 4398046511104) (hal1 : al.length ≤ 1000) :
    Calls Try.prog 64 #[va, v] w fun e w' => ∃ v', e = .returned v' ∧ Strs w' v' (applied al hs 0) ∧ Below w.heap.size w w' := by
  refine (replaced_at va v al hs w hal h hg hle hlen hal1).mono ?_
  rintro e w' ⟨v', rfl, h1, _, h2⟩
  exact ⟨v', rfl, h1, h2⟩

end Go.Proofs.Ytfjbdbdjhkmifaa
