/- Groups of lines: what is compared of a line: the program's and the reference's walks. -/
import Derived.Test.YtbelbgfigmbobaaGreatDoorUniqP
import Derived.Test.YtbelbgfigmbobaaGreatDoorFolded
import Derived.Test.YtbelbgfigmbobaaGreatDoorRefO1
set_option linter.unusedVariables false
set_option linter.unusedSimpArgs false
namespace Go.Pw
open Go.RowKit
/-- what is told of groups, in memory -/
def UqIn (w : World) (b : Nat) (T : TypeId) (o : Uq) : Prop := w.heap[b]? = some (.cells #[.int .i64 o.fields, .int .i64 o.skip, .int .i64 o.bytes, .bool o.fold, .bool o.count, .bool o.rep, .bool o.alone] T (0, 0))
theorem UqIn.lt {w : World} {b : Nat} {T : TypeId} {o : Uq} (h : UqIn w b T o) : b < w.heap.size := by
  rcases Nat.lt_or_ge b w.heap.size with h' | h'
  · exact h'
  · simp [UqIn, Array.getElem?_eq_none h'] at h
theorem UqIn.below {w w' : World} {b M : Nat} {T : TypeId} {o : Uq} (h : UqIn w b T o) (hb : Below M w w') (hM : b < M) : UqIn w' b T o := (hb.block b hM).trans h
theorem UqIn.cells {w : World} {b : Nat} {T : TypeId} {o : Uq} (h : UqIn w b T o) : w.cell? ⟨b, 0, none⟩ = some (.int .i64 o.fields) ∧ w.cell? ⟨b, 1, none⟩ = some (.int .i64 o.skip) ∧ w.cell? ⟨b, 2, none⟩ = some (.int .i64 o.bytes) ∧ w.cell? ⟨b, 3, none⟩ = some (.bool o.fold) ∧ w.cell? ⟨b, 4, none⟩ = some (.bool o.count) ∧ w.cell? ⟨b, 5, none⟩ = some (.bool o.rep) ∧ w.cell? ⟨b, 6, none⟩ = some (.bool o.alone) := by
  refine ⟨?_, ?_, ?_, ?_, ?_, ?_, ?_⟩ <;> (rw [Lib.cell_of_heap h]; rfl)
def uqV (o : Uq) : Value := .agg #[.int .i64 o.fields, .int .i64 o.skip, .int .i64 o.bytes, .bool o.fold, .bool o.count, .bool o.rep, .bool o.alone]
end Go.Pw
namespace Go.Proofs.YtbelbgfigmbobaaGreatDoor
open Go.RowKit Go.Pw
theorem own_prs {w : World} {base : Nat} {t : TypeId} {v : Value} {L : List (Nat × Nat)} (hown : w.ownsRow base t 2 v L.length (pairCells L)) (h0 : 0 < L.length) : ∃ g cap, v = .slice (some ⟨g, 0, none⟩) L.length cap ∧ g < w.heap.size ∧ ∀ (i : Nat) (p : Nat × Nat), L[i]? = some p → w.cell? ⟨g, i * 2, none⟩ = some (.int .i64 (p.1 : Int)) ∧ w.cell? ⟨g, i * 2 + 1, none⟩ = some (.int .i64 (p.2 : Int)) := by
  obtain ⟨_, A, cap, hv, _, _, hx⟩ := Rd.of_own hown
  obtain ⟨b, o, rfl, hb, hj⟩ := hx h0
  rcases hown.2 with ⟨_, h0⟩ | ⟨g, cap', cur, hv', _⟩
  · omega
  · rw [hv] at hv'
    injection hv' with e1 e2 e3
    injection e1 with e1
    injection e1 with e1 e4 e5
    subst e1 e4
    refine ⟨b, cap, hv, hb, fun i p hp => ?_⟩
    have := pairCells_at L i p hp
    have h1 := hj _ _ this.1
    have h2 := hj _ _ this.2
    simp only [Nat.zero_add] at h1 h2
    exact ⟨h1, h2⟩
set_option maxHeartbeats 4000000 in
set_option maxRecDepth 100000 in
theorem alike_any (o : Uq) (line : ByteArray) (w : World) (ho : o.good) (hl : line.size ≤ 65536) :
    Calls Tryz.prog 41 #[uqV o, .string line] w fun e w' => e = .returned (.string (alk o line)) ∧ Below w.heap.size w w' := by
  obtain ⟨hf1, hf2, hs1, hs2, hy1, hy2⟩ := ho
  have hbn := (Below.refl w.heap.size w).alloc (Nat.le_refl _) (.cells #[.int .i64 o.fields, .int .i64 o.skip, .int .i64 o.bytes, .bool o.fold, .bool o.count, .bool o.rep, .bool o.alone] 23)
  have hnn : UqIn (w.alloc (.cells #[.int .i64 o.fields, .int .i64 o.skip, .int .i64 o.bytes, .bool o.fold, .bool o.count, .bool o.rep, .bool o.alone] 23)) w.heap.size 23 o := heap_alloc_new _ _
  obtain ⟨W1, hW1⟩ : ∃ W1, w.alloc (.cells #[.int .i64 o.fields, .int .i64 o.skip, .int .i64 o.bytes, .bool o.fold, .bool o.count, .bool o.rep, .bool o.alone] 23) = W1 := ⟨_, rfl⟩
  rw [hW1] at hbn hnn
  have HB := hide hbn
  have HN := hide hnn
  have HFA := hide (fields_any line ⟨#[]⟩ W1 (by omega))
  obtain ⟨g1, g2, g3⟩ := fldL_ok line ⟨#[]⟩
  have hal := alkAt_le o line
  have HAK : Hid (alk o line = if o.fold then upS (alkMid o (line.extract (min (alkAt o line + o.skip.toNat) line.size) line.size)) else alkMid o (line.extract (min (alkAt o line + o.skip.toNat) line.size) line.size)) := hide rfl
  have HFO : Hid (∀ (x : ByteArray) W, x.size ≤ 65536 → Calls Tryz.prog 98 #[.string x] W fun e w' => e = .returned (.string (upS x)) ∧ Below W.heap.size W w') := hide (fun x W hx => folded_any x W (by omega))
  have HZ := hide (fun h => alkAt_zero (o := o) (line := line) h)
  have HTO := hide (fun k p h0 hk hp => alkAt_to (o := o) (line := line) (k := k) (p := p) h0 hk hp)
  obtain ⟨F, hF⟩ : ∃ F, alkAt o line = F := ⟨_, rfl⟩
  rw [hF] at hal HAK
  simp only [hF] at HTO HZ
  obtain ⟨L, hL⟩ : ∃ L, fldL line ⟨#[]⟩ = L := ⟨_, rfl⟩
  simp only [hL] at HFA HTO g1 g2 g3
  have HL0 := hide g2
  have HL1 := hide g1
  clear g3 hF hL hnn hbn g1 g2
  have HW1 := hide hW1
  obtain ⟨d0, d1, d2, d3, d4, d5, d6⟩ := HN.out.cells
  unfold uqV
  clear hW1
  go_enter Tryz.func41, Tryz.ntmps41
  go_wp2_with fail
  rw [HW1.out]
  refine HFA.out.mono ?_
  rintro e w1 ⟨v, rfl, hown, hb1⟩
  obtain ⟨g, cap, rfl, hg, hc⟩ := own_prs hown HL0.out
  have HB1 := hide (HB.out.trans (hb1.mono HB.out.size))
  have HN1 := hide (HN.out.below hb1 HN.out.lt)
  have HC := hide hc
  have hl0 := HL0.out
  have hl1 := HL1.out
  clear hown hb1 d0 d1 d2 d3 d4 d5 d6 hc
  obtain ⟨d0, d1, d2, d3, d4, d5, d6⟩ := HN1.out.cells
  have HS1 : Hid (∀ S, alkMid o (line.extract (min (F + o.skip.toNat) line.size) line.size) = S → alk o line = if o.fold then upS S else S) := hide (fun S hS => by rw [HAK.out, hS])
  have hix : (min ((F : Int) + o.skip) (line.size : Int)).toNat = min (F + o.skip.toNat) line.size := by omega
  have HBY : Hid (0 < o.bytes → alkMid o (line.extract (min (F + o.skip.toNat) line.size) line.size) = (line.extract (min ((F : Int) + o.skip) (line.size : Int)).toNat line.size).extract 0 (min o.bytes ((line.size - (min ((F : Int) + o.skip) (line.size : Int)).toNat : Nat) : Int)).toNat) := hide (fun h => by
    unfold alkMid
    rw [if_pos h, hix, ByteArray.size_extract]
    congr 1
    omega)
  have HBN : Hid (¬ 0 < o.bytes → alkMid o (line.extract (min (F + o.skip.toNat) line.size) line.size) = line.extract (min ((F : Int) + o.skip) (line.size : Int)).toNat line.size) := hide (fun h => by unfold alkMid; rw [if_neg h, hix])
  have hZ1 : (line.extract (min ((F : Int) + o.skip) (line.size : Int)).toNat line.size).size ≤ 65536 := by rw [ByteArray.size_extract]; omega
  have hZ2 : ((line.extract (min ((F : Int) + o.skip) (line.size : Int)).toNat line.size).extract 0 (min o.bytes ((line.size - (min ((F : Int) + o.skip) (line.size : Int)).toNat : Nat) : Int)).toNat).size ≤ 65536 := by rw [ByteArray.size_extract, ByteArray.size_extract]; omega
  have HZ1 := hide hZ1
  have HZ2 := hide hZ2
  clear hix hZ1 hZ2
  by_cases h0 : 0 < o.fields
  · obtain ⟨k, hk⟩ : ∃ k : Nat, min o.fields (L.length : Int) = (k : Int) + 1 := ⟨(min o.fields (L.length : Int)).toNat - 1, by omega⟩
    have hkl : k < L.length := by omega
    obtain ⟨p, hp⟩ : ∃ p, L[k]? = some p := ⟨_, List.getElem?_eq_getElem hkl⟩
    have c1 := (HC.out _ p hp).2
    rw [HTO.out k p h0 hk.symm hp, show k = (min o.fields (L.length : Int)).toNat - 1 by omega] at c1
    clear hk hkl hp
    by_cases hyb : 0 < o.bytes
    · have HQ := hide (HS1.out _ (HBY.out hyb))
      by_cases hfo : o.fold = true
      · rw [if_pos hfo] at HQ
        go_wp2_with fail
        refine (HFO.out _ _ HZ2.out).mono ?_
        rintro e w2 ⟨rfl, hb2⟩
        have HB2 := hide (HB1.out.trans (hb2.mono HB1.out.size))
        clear hb2
        go_wp2_with fail
        go_ret
        exact ⟨by rw [HQ.out]; rfl, HB2.out⟩
      · rw [if_neg hfo] at HQ
        go_wp2_with fail
        go_ret
        exact ⟨by rw [HQ.out]; rfl, HB1.out⟩
    · have HQ := hide (HS1.out _ (HBN.out hyb))
      by_cases hfo : o.fold = true
      · rw [if_pos hfo] at HQ
        go_wp2_with fail
        refine (HFO.out _ _ HZ1.out).mono ?_
        rintro e w2 ⟨rfl, hb2⟩
        have HB2 := hide (HB1.out.trans (hb2.mono HB1.out.size))
        clear hb2
        go_wp2_with fail
        go_ret
        exact ⟨by rw [HQ.out]; rfl, HB2.out⟩
      · rw [if_neg hfo] at HQ
        go_wp2_with fail
        go_ret
        exact ⟨by rw [HQ.out]; rfl, HB1.out⟩
  · have hF0 : F = 0 := HZ.out (by omega)
    subst hF0
    have e1 : min o.skip (line.size : Int) = min (((0 : Nat) : Int) + o.skip) (line.size : Int) := by omega
    have HE := hide e1
    clear e1
    simp only [← HE.out] at HBY HBN HZ1 HZ2
    by_cases hyb : 0 < o.bytes
    · have HQ := hide (HS1.out _ (HBY.out hyb))
      by_cases hfo : o.fold = true
      · rw [if_pos hfo] at HQ
        go_wp2_with fail
        refine (HFO.out _ _ HZ2.out).mono ?_
        rintro e w2 ⟨rfl, hb2⟩
        have HB2 := hide (HB1.out.trans (hb2.mono HB1.out.size))
        clear hb2
        go_wp2_with fail
        go_ret
        exact ⟨by rw [HQ.out]; rfl, HB2.out⟩
      · rw [if_neg hfo] at HQ
        go_wp2_with fail
        go_ret
        exact ⟨by rw [HQ.out]; rfl, HB1.out⟩
    · have HQ := hide (HS1.out _ (HBN.out hyb))
      by_cases hfo : o.fold = true
      · rw [if_pos hfo] at HQ
        go_wp2_with fail
        refine (HFO.out _ _ HZ1.out).mono ?_
        rintro e w2 ⟨rfl, hb2⟩
        have HB2 := hide (HB1.out.trans (hb2.mono HB1.out.size))
        clear hb2
        go_wp2_with fail
        go_ret
        exact ⟨by rw [HQ.out]; rfl, HB2.out⟩
      · rw [if_neg hfo] at HQ
        go_wp2_with fail
        go_ret
        exact ⟨by rw [HQ.out]; rfl, HB1.out⟩
set_option maxHeartbeats 4000000 in
set_option maxRecDepth 100000 in
theorem alikePart_any (o : Uq) (line : ByteArray) (w : World) (ho : o.good) (hl : line.size ≤ 65536) :
    Calls Tryz.prog 47 #[uqV o, .string line] w fun e w' => e = .returned (.string (alk o line)) ∧ Below w.heap.size w w' := by
  obtain ⟨hf1, hf2, hs1, hs2, hy1, hy2⟩ := ho
  have hbn := (Below.refl w.heap.size w).alloc (Nat.le_refl _) (.cells #[.int .i64 o.fields, .int .i64 o.skip, .int .i64 o.bytes, .bool o.fold, .bool o.count, .bool o.rep, .bool o.alone] 23)
  have hnn : UqIn (w.alloc (.cells #[.int .i64 o.fields, .int .i64 o.skip, .int .i64 o.bytes, .bool o.fold, .bool o.count, .bool o.rep, .bool o.alone] 23)) w.heap.size 23 o := heap_alloc_new _ _
  obtain ⟨W1, hW1⟩ : ∃ W1, w.alloc (.cells #[.int .i64 o.fields, .int .i64 o.skip, .int .i64 o.bytes, .bool o.fold, .bool o.count, .bool o.rep, .bool o.alone] 23) = W1 := ⟨_, rfl⟩
  rw [hW1] at hbn hnn
  have HB := hide hbn
  have HN := hide hnn
  have HFA := hide (fieldsR_any line ⟨#[]⟩ W1 (by omega))
  obtain ⟨g1, g2, g3⟩ := fldL_ok line ⟨#[]⟩
  have hal := alkAt_le o line
  have HFO : Hid (∀ (x : ByteArray) W, x.size ≤ 65536 → Calls Tryz.prog 106 #[.string x] W fun e w' => e = .returned (.string (upS x)) ∧ Below W.heap.size W w') := hide (fun x W hx => capital_any x W (by omega))
  have HAT : Hid (alkAt o line = ((fldL line ⟨#[]⟩).getD o.fields.toNat (line.size, line.size)).1) := hide rfl
  have HAK : Hid (alk o line = if o.fold then upS (alkMid o (line.extract (min (alkAt o line + o.skip.toNat) line.size) line.size)) else alkMid o (line.extract (min (alkAt o line + o.skip.toNat) line.size) line.size)) := hide rfl
  obtain ⟨F, hF⟩ : ∃ F, alkAt o line = F := ⟨_, rfl⟩
  rw [hF] at hal HAK HAT
  obtain ⟨L, hL⟩ : ∃ L, fldL line ⟨#[]⟩ = L := ⟨_, rfl⟩
  simp only [hL] at HFA HAT g1 g2 g3
  have HL0 := hide g2
  have HL1 := hide g1
  clear g3 hF hL hnn hbn g1 g2
  have HW1 := hide hW1
  obtain ⟨d0, d1, d2, d3, d4, d5, d6⟩ := HN.out.cells
  unfold uqV
  clear hW1
  go_enter Tryz.func47, Tryz.ntmps47
  go_wp2_with fail
  rw [HW1.out]
  refine HFA.out.mono ?_
  rintro e w1 ⟨v, rfl, hown, hb1⟩
  obtain ⟨g, cap, rfl, hg, hc⟩ := own_prs hown HL0.out
  have HB1 := hide (HB.out.trans (hb1.mono HB.out.size))
  have HN1 := hide (HN.out.below hb1 HN.out.lt)
  have HC := hide hc
  have hl0 := HL0.out
  have hl1 := HL1.out
  clear hown hb1 d0 d1 d2 d3 d4 d5 d6 hc
  obtain ⟨d0, d1, d2, d3, d4, d5, d6⟩ := HN1.out.cells
  have hfi : (0 : Int) ≤ o.fields := hf1
  have HE : Hid ((line.size : Int) < (F : Int) + o.skip → alk o line = if o.fold then upS ByteArray.empty else ByteArray.empty) := hide (fun h => by
    rw [HAK.out, show min (F + o.skip.toNat) line.size = line.size by omega]
    have e0 : line.extract line.size line.size = ByteArray.empty := by simp
    have e1 : alkMid o ByteArray.empty = ByteArray.empty := by unfold alkMid; split <;> simp
    rw [e0, e1])
  have HC1 : Hid (¬ (line.size : Int) < (F : Int) + o.skip → 0 < o.bytes → o.bytes < ((line.size - ((F : Int) + o.skip).toNat : Nat) : Int) → alk o line = if o.fold then upS ((line.extract ((F : Int) + o.skip).toNat line.size).extract 0 o.bytes.toNat) else (line.extract ((F : Int) + o.skip).toNat line.size).extract 0 o.bytes.toNat) := hide (fun h g1 g2 => by
    rw [HAK.out, show min (F + o.skip.toNat) line.size = ((F : Int) + o.skip).toNat by omega]
    have e1 : alkMid o (line.extract ((F : Int) + o.skip).toNat line.size) = (line.extract ((F : Int) + o.skip).toNat line.size).extract 0 o.bytes.toNat := by
      unfold alkMid
      rw [if_pos g1, ByteArray.size_extract]
      congr 1
      omega
    rw [e1])
  have HC2 : Hid (¬ (line.size : Int) < (F : Int) + o.skip → ¬ (0 < o.bytes ∧ o.bytes < ((line.size - ((F : Int) + o.skip).toNat : Nat) : Int)) → alk o line = if o.fold then upS (line.extract ((F : Int) + o.skip).toNat line.size) else line.extract ((F : Int) + o.skip).toNat line.size) := hide (fun h g1 => by
    rw [HAK.out, show min (F + o.skip.toNat) line.size = ((F : Int) + o.skip).toNat by omega]
    have e1 : alkMid o (line.extract ((F : Int) + o.skip).toNat line.size) = line.extract ((F : Int) + o.skip).toNat line.size := by
      unfold alkMid
      split
      · rename_i hh
        have e2 : min o.bytes.toNat (line.extract ((F : Int) + o.skip).toNat line.size).size = (line.extract ((F : Int) + o.skip).toNat line.size).size := by rw [ByteArray.size_extract]; omega
        rw [e2, ByteArray.extract_zero_size]
      · rfl
    rw [e1])
  have HZ1 : Hid (∀ n : Nat, (line.extract n line.size).size ≤ 65536) := hide (fun n => by rw [ByteArray.size_extract]; omega)
  have HZ2 : Hid (∀ n : Nat, ((line.extract n line.size).extract 0 o.bytes.toNat).size ≤ 65536) := hide (fun n => by rw [ByteArray.size_extract, ByteArray.size_extract]; omega)
  by_cases h1 : o.fields < (L.length : Int)
  · obtain ⟨p, hp⟩ : ∃ p, L[o.fields.toNat]? = some p := ⟨_, List.getElem?_eq_getElem (by omega)⟩
    have c1 := (HC.out _ p hp).1
    rw [show p.1 = F by rw [HAT.out, List.getD_eq_getElem?_getD, hp]; rfl] at c1
    clear hp
    by_cases hgt : (line.size : Int) < (F : Int) + o.skip
    · have HQ : Hid (alk o line = if o.fold then upS ByteArray.empty else ByteArray.empty) := hide (HE.out hgt)
      have HZ : Hid (ByteArray.empty.size ≤ 65536) := hide (by decide)
      by_cases hfo : o.fold = true
      · rw [if_pos hfo] at HQ
        go_wp2_with fail
        all_goals
          refine (HFO.out _ _ HZ.out).mono ?_
          rintro e w2 ⟨rfl, hb2⟩
          have HB2 := hide (HB1.out.trans (hb2.mono HB1.out.size))
          clear hb2
          go_wp2_with fail
          go_ret
          exact ⟨by rw [HQ.out]; rfl, HB2.out⟩
      · rw [if_neg hfo] at HQ
        go_wp2_with fail
        all_goals
          go_ret
          exact ⟨by rw [HQ.out]; rfl, HB1.out⟩
    · by_cases hb1 : 0 < o.bytes
      · by_cases hb2 : o.bytes < ((line.size - ((F : Int) + o.skip).toNat : Nat) : Int)
        · have HQ := hide (HC1.out hgt hb1 hb2)
          have HZ := hide (HZ2.out ((F : Int) + o.skip).toNat)
          by_cases hfo : o.fold = true
          · rw [if_pos hfo] at HQ
            go_wp2_with fail
            refine (HFO.out _ _ HZ.out).mono ?_
            rintro e w2 ⟨rfl, hb2⟩
            have HB2 := hide (HB1.out.trans (hb2.mono HB1.out.size))
            clear hb2
            go_wp2_with fail
            go_ret
            exact ⟨by rw [HQ.out]; rfl, HB2.out⟩
          · rw [if_neg hfo] at HQ
            go_wp2_with fail
            go_ret
            exact ⟨by rw [HQ.out]; rfl, HB1.out⟩
        · have HQ := hide (HC2.out hgt (fun h => hb2 h.2))
          have HZ := hide (HZ1.out ((F : Int) + o.skip).toNat)
          by_cases hfo : o.fold = true
          · rw [if_pos hfo] at HQ
            go_wp2_with fail
            refine (HFO.out _ _ HZ.out).mono ?_
            rintro e w2 ⟨rfl, hb2⟩
            have HB2 := hide (HB1.out.trans (hb2.mono HB1.out.size))
            clear hb2
            go_wp2_with fail
            go_ret
            exact ⟨by rw [HQ.out]; rfl, HB2.out⟩
          · rw [if_neg hfo] at HQ
            go_wp2_with fail
            go_ret
            exact ⟨by rw [HQ.out]; rfl, HB1.out⟩
      · have HQ := hide (HC2.out hgt (fun h => hb1 h.1))
        have HZ := hide (HZ1.out ((F : Int) + o.skip).toNat)
        by_cases hfo : o.fold = true
        · rw [if_pos hfo] at HQ
          go_wp2_with fail
          refine (HFO.out _ _ HZ.out).mono ?_
          rintro e w2 ⟨rfl, hb2⟩
          have HB2 := hide (HB1.out.trans (hb2.mono HB1.out.size))
          clear hb2
          go_wp2_with fail
          go_ret
          exact ⟨by rw [HQ.out]; rfl, HB2.out⟩
        · rw [if_neg hfo] at HQ
          go_wp2_with fail
          go_ret
          exact ⟨by rw [HQ.out]; rfl, HB1.out⟩
  · have hF : F = line.size := by rw [HAT.out, List.getD_eq_getElem?_getD, List.getElem?_eq_none (by omega)]; rfl
    subst hF
    by_cases hgt : (line.size : Int) < (line.size : Int) + o.skip
    · have HQ : Hid (alk o line = if o.fold then upS ByteArray.empty else ByteArray.empty) := hide (HE.out hgt)
      have HZ : Hid (ByteArray.empty.size ≤ 65536) := hide (by decide)
      by_cases hfo : o.fold = true
      · rw [if_pos hfo] at HQ
        go_wp2_with fail
        all_goals
          refine (HFO.out _ _ HZ.out).mono ?_
          rintro e w2 ⟨rfl, hb2⟩
          have HB2 := hide (HB1.out.trans (hb2.mono HB1.out.size))
          clear hb2
          go_wp2_with fail
          go_ret
          exact ⟨by rw [HQ.out]; rfl, HB2.out⟩
      · rw [if_neg hfo] at HQ
        go_wp2_with fail
        all_goals
          go_ret
          exact ⟨by rw [HQ.out]; rfl, HB1.out⟩
    · by_cases hb1 : 0 < o.bytes
      · by_cases hb2 : o.bytes < ((line.size - ((line.size : Int) + o.skip).toNat : Nat) : Int)
        · exfalso; omega
        · have HQ := hide (HC2.out hgt (fun h => hb2 h.2))
          have HZ := hide (HZ1.out ((line.size : Int) + o.skip).toNat)
          by_cases hfo : o.fold = true
          · rw [if_pos hfo] at HQ
            go_wp2_with fail
            refine (HFO.out _ _ HZ.out).mono ?_
            rintro e w2 ⟨rfl, hb2⟩
            have HB2 := hide (HB1.out.trans (hb2.mono HB1.out.size))
            clear hb2
            go_wp2_with fail
            go_ret
            exact ⟨by rw [HQ.out]; rfl, HB2.out⟩
          · rw [if_neg hfo] at HQ
            go_wp2_with fail
            go_ret
            exact ⟨by rw [HQ.out]; rfl, HB1.out⟩
      · have HQ := hide (HC2.out hgt (fun h => hb1 h.1))
        have HZ := hide (HZ1.out ((line.size : Int) + o.skip).toNat)
        by_cases hfo : o.fold = true
        · rw [if_pos hfo] at HQ
          go_wp2_with fail
          refine (HFO.out _ _ HZ.out).mono ?_
          rintro e w2 ⟨rfl, hb2⟩
          have HB2 := hide (HB1.out.trans (hb2.mono HB1.out.size))
          clear hb2
          go_wp2_with fail
          go_ret
          exact ⟨by rw [HQ.out]; rfl, HB2.out⟩
        · rw [if_neg hfo] at HQ
          go_wp2_with fail
          go_ret
          exact ⟨by rw [HQ.out]; rfl, HB1.out⟩
end Go.Proofs.YtbelbgfigmbobaaGreatDoor
