/- The reference's CutLine, by fields. -/
import Derived.Test.YtkikbejpgfhfoaaGreatDoorCutL
import Derived.Test.YtkikbejpgfhfoaaGreatDoorCutS
set_option linter.unusedVariables false
set_option linter.unusedSimpArgs false
namespace Go.Proofs.YtkikbejpgfhfoaaGreatDoor
open Go.RowKit Go.Pw
/-- what CutLine answers -/
def LineSaid (c : Ct) (s : ByteArray) (e : Ending) : Prop := ∃ t b, e = .returned (.tuple #[.string t, .bool b]) ∧ cutLine c s = (if b then some t else none)
theorem own_pairs {w : World} {base : Nat} {t : TypeId} {v : Value} {L : List (Nat × Nat)} (hown : w.ownsRow base t 2 v L.length (pairCells L)) (h0 : 0 < L.length) : ∃ g cap, v = .slice (some ⟨g, 0, none⟩) L.length cap ∧ g < w.heap.size ∧ ∀ (i : Nat) (p : Nat × Nat), L[i]? = some p → w.cell? ⟨g, i * 2, none⟩ = some (.int .i64 (p.1 : Int)) ∧ w.cell? ⟨g, i * 2 + 1, none⟩ = some (.int .i64 (p.2 : Int)) := by
  obtain ⟨_, A, cap, hv, _, _, hx⟩ := Rd.of_own hown
  obtain ⟨b, o, rfl, hb, hj⟩ := hx h0
  rcases hown.2 with ⟨_, h0⟩ | ⟨g, cap', cur, hv', _⟩
  · omega
  · rw [hv] at hv'
    injection hv' with e1 e2 e3
    injection e1 with e1
    injection e1 with e1 e4 e5
    subst e1 e4
    refine ⟨b, cap, hv, hb, fun i p hp => ?_⟩
    have := pairCells_at L i p hp
    have h1 := hj _ _ this.1
    have h2 := hj _ _ this.2
    simp only [Nat.zero_add] at h1 h2
    exact ⟨h1, h2⟩
set_option maxHeartbeats 4000000 in
set_option maxRecDepth 100000 in
theorem cutLineF_any (c : Ct) (rv : Value) (s : ByteArray) (w : World) (h : RngIn w rv c.ranges) (hn : c.ranges.length ≤ 1000000) (hs : s.size ≤ 65536) (hb : c.betw.size ≤ 4096) (hf : c.fields = true) (hsep : c.sep.size = 1) :
    Calls Tryz.prog 20 #[ctV c rv, .string s] w fun e w' => LineSaid c s e ∧ Below w.heap.size w w' := by
  obtain ⟨A, cap, rfl⟩ : ∃ A cap, rv = .slice A c.ranges.length cap := by
    obtain ⟨_, A, cap, h, _⟩ := h
    exact ⟨A, cap, h⟩
  have hb1 := (Below.refl w.heap.size w).alloc (Nat.le_refl _) (.cells #[.bool c.fields, .slice A c.ranges.length cap, .bool c.compl, .string c.sep, .bool c.only, .string c.betw] 43)
  have n1 : CtIn (w.alloc (.cells #[.bool c.fields, .slice A c.ranges.length cap, .bool c.compl, .string c.sep, .bool c.only, .string c.betw] 43)) w.heap.size 43 c (.slice A c.ranges.length cap) := heap_alloc_new _ _
  obtain ⟨W1, hW1⟩ : ∃ W1, w.alloc (.cells #[.bool c.fields, .slice A c.ranges.length cap, .bool c.compl, .string c.sep, .bool c.only, .string c.betw] 43) = W1 := ⟨_, rfl⟩
  rw [hW1] at hb1 n1
  have HB1 := hide hb1
  have HN1 := hide n1
  have HT := hide (fun (n : Int) W (hb : Below w.heap.size w W) (hc : CtIn W w.heap.size 43 c (.slice A c.ranges.length cap)) => takenR_any c (.slice A c.ranges.length cap) n w.heap.size W hc (h.below hb) hn)
  have hlt0 := n1.lt
  obtain ⟨d0, d1, d2, d3, d4, d5⟩ := n1.cells
  obtain ⟨by0, hby⟩ : ∃ y, bt c.sep 0 = y := ⟨_, rfl⟩
  have hsz : c.sep = ⟨#[by0]⟩ := by
    rw [← hby]
    have h1 := one_byte (s := c.sep) (k := 0) (by omega)
    rw [← h1, show (0 : Nat) + 1 = c.sep.size by omega, ByteArray.extract_zero_size]
  have HIN : Hid (∀ x : Int, (by0.toNat : Int) = x → ∀ W : World, Calls Tryz.prog 42 #[.string s, .int .u8 x] W fun e w' => e = .returned (.bool (decide (0 ≤ Lib.indexByte s.data.toList by0))) ∧ W = w') := hide (fun x hx W => inIx_any s by0 x W (by unfold maxLen; omega) hx)
  have hcl : cutLine c s = if decide (0 ≤ Lib.indexByte s.data.toList by0) then some (cutWords c ((splC by0 [] s.data.toList).map mkB)) else if c.only then none else some s := by
    unfold cutLine
    rw [hf, hby, if_pos rfl]
  have HFA : Hid (∀ W : World, Calls Tryz.prog 44 #[.string s, .string c.sep] W fun e w' => ∃ v, e = .returned v ∧ w'.ownsRow W.heap.size 69 2 v (fldL s ⟨#[by0]⟩).length (pairCells (fldL s ⟨#[by0]⟩)) ∧ Below W.heap.size W w') := hide (fun W => by rw [hsz]; exact fieldsR_any s ⟨#[by0]⟩ W (by omega))
  have hw := splC_fld s by0
  rw [← hw] at hcl
  obtain ⟨hf1, hf2, hf3⟩ := fldL_ok s ⟨#[by0]⟩
  have hst := sumL_split s by0
  rw [← hw] at hst
  obtain ⟨L, hL⟩ : ∃ L, fldL s ⟨#[by0]⟩ = L := ⟨_, rfl⟩
  simp only [hL] at HFA
  rw [hL] at hcl hf1 hf2 hf3 hst
  obtain ⟨ws, hws⟩ : ∃ ws, L.map (fun p => s.extract p.1 p.2) = ws := ⟨_, rfl⟩
  rw [hws] at hcl hst
  have hwl : ws.length = L.length := by rw [← hws, List.length_map]
  have HF3 := hide hf3
  have HWS : Hid (∀ (k : Nat) (p : Nat × Nat), L[k]? = some p → ws.getD k ⟨#[]⟩ = s.extract p.1 p.2) := hide (fun k p hp => by
    rw [← hws, List.getD_eq_getElem?_getD, List.getElem?_map, hp]; rfl)
  have HCW : Hid (∀ k, k ≤ ws.length → (jnB c.betw (cwTo c ws k)).size ≤ 65537 * 4097) := hide (fun k hk => by
    have h1 := cw_size c ws k hk
    have h2 := sumL_take ws k
    have h3 : sumL (ws.take k) * (c.betw.size + 1) ≤ 65537 * 4097 := Nat.mul_le_mul (by omega) (by omega)
    omega)
  have HCL := hide hcl
  obtain ⟨hc0, hc1⟩ : (0 : Nat) < c.sep.size ∧ ((c.sep[0]'(by omega)).toNat : Int) = (by0.toNat : Int) := ⟨by omega, by rw [← hby, bt_eq (by omega)]⟩
  obtain ⟨q, hq⟩ : ∃ q : UInt8, c.sep[0]'hc0 = q := ⟨_, rfl⟩
  have hc1 : (q.toNat : Int) = (by0.toNat : Int) := by rw [← hq]; exact hc1
  rw [hf] at d0
  unfold ctV
  rw [hf] at hW1 ⊢
  clear hb1 n1 h hcl hst hw hf3 hby hsz hL hws
  go_enter Tryz.func20, Tryz.ntmps20
  go_wp2_with fail
  (try rw [hW1])
  clear hW1 hq hc1
  refine (HIN.out _ rfl _).mono ?_
  rintro e w' ⟨rfl, rfl⟩
  obtain ⟨ha, hha⟩ : ∃ b, decide (0 ≤ Lib.indexByte s.data.toList by0) = b := ⟨_, rfl⟩
  rw [hha] at HCL ⊢
  clear hha HIN
  cases ha
  · have HCL2 : Hid (cutLine c s = if c.only then none else some s) := hide (by rw [HCL.out]; rfl)
    clear HCL HFA HCW HWS HF3
    obtain ⟨ob, hob⟩ : ∃ b, c.only = b := ⟨_, rfl⟩
    rw [hob] at d4 HCL2
    clear hob
    go_wp2_with fail
    go_quiet (fail)
    go_wp2_with fail
    go_ret2
    exact ⟨⟨_, _, rfl, by rw [HCL2.out]; cases ob <;> rfl⟩, below_drewN HB1.out _⟩
  · have HCL2 : Hid (cutLine c s = some (jnB c.betw (cwTo c ws ws.length))) := hide (by rw [HCL.out]; rfl)
    clear HCL
    go_wp2_with fail
    refine (HFA.out _).mono ?_
    rintro e w1 ⟨v, rfl, hown, hb1⟩
    have HB2 := hide (HB1.out.trans (hb1.mono HB1.out.size))
    have HN2 := hide (HN1.out.below hb1 hlt0)
    obtain ⟨g, gcap, rfl, hg, hcells⟩ := own_pairs hown hf2
    have HCE := hide hcells
    clear hown hcells HFA d0 d1 d2 d3 d4 d5 hb1
    go_wp2_with fail
    go_loopw [7, 8, 30] (fun out so i wr => ∃ k : Nat, k ≤ L.length ∧ i = .int .i64 (k : Int) ∧ out = .string (jnB c.betw (cwTo c ws k)) ∧ (∃ sb, so = .bool sb ∧ Hid (sb = !decide (cwTo c ws k = []))) ∧ Hid (CtIn wr w.heap.size 43 c (.slice A c.ranges.length cap)) ∧ Hid (Below w.heap.size w wr) ∧ Hid (Below w1.heap.size w1 wr)) (fun _ _ i _ => L.length - (intOf i).toNat)
    case atStart => exact ⟨0, by omega, rfl, rfl, ⟨false, rfl, rfl⟩, HN2, HB2, Below.refl _ _⟩
    case round =>
      obtain ⟨k, hk, rfl, rfl, ⟨sb, rfl, HSB⟩, HN, HB, HB3⟩ := hrel
      by_cases hlt : k < L.length
      · have hd : (k : Int) < (L.length : Int) := by omega
        have hd0 : (0 : Int) ≤ (k : Int) := by omega
        have hd1 : (k : Int) + 1 ≤ (L.length : Int) := by omega
        have hp := List.getElem?_eq_getElem hlt
        have HWK := HWS.out k _ hp
        have hpo := HF3.out _ (List.getElem_mem hlt)
        have hcc := HCE.out k _ hp
        obtain ⟨p, hpp⟩ : ∃ p, L[k] = p := ⟨_, rfl⟩
        rw [hpp] at HWK hpo hcc
        have HWK := hide HWK
        obtain ⟨p1, p2⟩ := p
        obtain ⟨hpo1, hpo2⟩ := hpo
        dsimp only at HWK hpo1 hpo2 hcc
        have hg3 : g < wr.heap.size := Nat.lt_of_lt_of_le hg HB3.out.size
        have c0 := (HB3.out.cell (p := ⟨g, k * 2, none⟩) hg).trans hcc.1
        have c1 := (HB3.out.cell (p := ⟨g, k * 2 + 1, none⟩) hg).trans hcc.2
        have hi1 : (p1 : Int) ≤ (p2 : Int) := by omega
        have hi2 : (p2 : Int) ≤ (s.size : Int) := by omega
        have hi3 : (0 : Int) ≤ (p1 : Int) := by omega
        clear hp hpp hcc
        have hal := (Below.refl wr.heap.size wr).alloc (Nat.le_refl _) (.cells #[.int .i64 (p1 : Int), .int .i64 (p2 : Int)] 69)
        have e0 : (wr.alloc (.cells #[.int .i64 (p1 : Int), .int .i64 (p2 : Int)] 69)).cell? ⟨wr.heap.size, 0, none⟩ = some (.int .i64 (p1 : Int)) := by rw [World.cell?_alloc_new]; rfl
        have e1 : (wr.alloc (.cells #[.int .i64 (p1 : Int), .int .i64 (p2 : Int)] 69)).cell? ⟨wr.heap.size, 1, none⟩ = some (.int .i64 (p2 : Int)) := by rw [World.cell?_alloc_new]; rfl
        have hz4 : wr.heap.size < (wr.alloc (.cells #[.int .i64 (p1 : Int), .int .i64 (p2 : Int)] 69)).heap.size := by simp
        obtain ⟨W4, hW4⟩ : ∃ W, wr.alloc (.cells #[.int .i64 (p1 : Int), .int .i64 (p2 : Int)] 69) = W := ⟨_, rfl⟩
        rw [hW4] at hal e0 e1 hz4
        have HB4 := hide (HB.out.trans (hal.mono HB.out.size))
        have HBX4 := hide (HB3.out.trans (hal.mono HB3.out.size))
        have HN4 := hide (HN.out.below hal HN.out.lt)
        have HTK := hide (HT.out ((k : Int) + 1) W4 HB4.out HN4.out)
        have HW4 := hide hW4
        clear hal hW4 HN HB HB3
        obtain ⟨t, ht⟩ : ∃ t, tkn c ((k : Int) + 1) = t := ⟨_, rfl⟩
        rw [ht] at HTK
        have hcw : cwTo c ws (k + 1) = if t then cwTo c ws k ++ [s.extract p1 p2] else cwTo c ws k := by rw [cwTo, ht, HWK.out]
        have hcz := HCW.out k (by omega)
        obtain ⟨l, hl⟩ : ∃ l, cwTo c ws k = l := ⟨_, rfl⟩
        rw [hl] at hcw hcz HSB ⊢
        have HCWN := hide hcw
        clear ht hl hcw HWK
        go_wp2_with fail
        rw [HW4.out]
        refine HTK.out.mono ?_
        rintro e w5 ⟨rfl, hb5⟩
        have f0 := (hb5.cell (p := ⟨wr.heap.size, 0, none⟩) hz4).trans e0
        have f1 := (hb5.cell (p := ⟨wr.heap.size, 1, none⟩) hz4).trans e1
        have HB5 := hide (HB4.out.trans (hb5.mono HB4.out.size))
        have HBX5 := hide (HBX4.out.trans (hb5.mono HBX4.out.size))
        have HN5 := hide (HN4.out.below hb5 HN4.out.lt)
        obtain ⟨g0, g1, g2, g3, g4, g5⟩ := HN5.out.cells
        clear hb5 HTK e0 e1 c0 c1
        cases t
        · go_wp2_with fail
          go_roundw
          case rel => exact ⟨k + 1, by omega, by go_num, by rw [HCWN.out]; rfl, ⟨_, rfl, by rw [HCWN.out]; exact HSB⟩, HN5, HB5, HBX5⟩
          case measure => simp [intOf]; omega
        · have hxz : (s.extract p1 p2).size ≤ 65536 := by rw [ByteArray.size_extract]; omega
          have HHS : Hid (true = !decide (cwTo c ws (k + 1) = [])) := hide (by rw [HCWN.out]; simp)
          cases sb
          · have hl0 : l = [] := by have := HSB.out; simpa using this.symm
            have HJ : Hid (jnB c.betw (cwTo c ws (k + 1)) = jnB c.betw l ++ s.extract p1 p2) := hide (by rw [HCWN.out, if_pos rfl, jnB_snoc, if_pos hl0, hl0, jnB_nil]; apply ByteArray.ext; simp)
            obtain ⟨x, hx⟩ : ∃ x, jnB c.betw l = x := ⟨_, rfl⟩
            rw [hx] at HJ hcz ⊢
            clear hl0 hx
            go_wp2_with fail
            go_roundw
            case rel => exact ⟨k + 1, by omega, by go_num, by rw [HJ.out], ⟨_, rfl, HHS⟩, HN5, HB5, HBX5⟩
            case measure => simp [intOf]; omega
          · have hl0 : l ≠ [] := by have := HSB.out; simpa using this.symm
            have HJ : Hid (jnB c.betw (cwTo c ws (k + 1)) = (jnB c.betw l ++ c.betw) ++ s.extract p1 p2) := hide (by rw [HCWN.out, if_pos rfl, jnB_snoc, if_neg hl0, ByteArray.append_assoc])
            obtain ⟨x, hx⟩ : ∃ x, jnB c.betw l = x := ⟨_, rfl⟩
            rw [hx] at HJ hcz ⊢
            have hbz : (x ++ c.betw).size ≤ 65537 * 4097 + 4096 := by rw [ByteArray.size_append]; omega
            clear hl0 hx
            go_wp2_with fail
            go_roundw
            case rel => exact ⟨k + 1, by omega, by go_num, by rw [HJ.out], ⟨_, rfl, HHS⟩, HN5, HB5, HBX5⟩
            case measure => simp [intOf]; omega
      · obtain rfl : k = L.length := by omega
        have hd : ¬ ((L.length : Int) < (L.length : Int)) := by omega
        go_wp2_with fail
        go_ret2
        exact ⟨⟨_, true, rfl, by rw [HCL2.out, hwl]; rfl⟩, HB.out⟩
theorem cutLineR_any (c : Ct) (rv : Value) (s : ByteArray) (w : World) (h : RngIn w rv c.ranges) (hn : c.ranges.length ≤ 1000000) (hs : s.size ≤ 65536) (hb : c.betw.size ≤ 4096) (hsep : c.fields = true → c.sep.size = 1) :
    Calls Tryz.prog 20 #[ctV c rv, .string s] w fun e w' => LineSaid c s e ∧ Below w.heap.size w w' := by
  by_cases hf : c.fields = true
  · exact cutLineF_any c rv s w h hn hs hb hf (hsep hf)
  · have hf' : c.fields = false := by simpa using hf
    refine (cutLineB_any c rv s w h hn hs hb hf').mono ?_
    rintro e w' ⟨rfl, hb'⟩
    refine ⟨⟨_, true, rfl, ?_⟩, hb'⟩
    unfold cutLine
    rw [hf']
    rfl
end Go.Proofs.YtkikbejpgfhfoaaGreatDoor
