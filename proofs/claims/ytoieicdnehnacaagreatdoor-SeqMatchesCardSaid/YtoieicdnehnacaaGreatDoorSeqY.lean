/- The reference's Sequence: the walk for numerals that are not too long. -/
import Derived.Test.YtoieicdnehnacaaGreatDoorSeqS
set_option linter.unusedVariables false
set_option linter.unusedSimpArgs false
namespace Go.Pw
open Go.RowKit
/-- the three decimals of Sequence and its three arguments in memory -/
structure Q9 (TA TS : TypeId) (b0 : Bool) (d0 : ByteArray) (c0 : Nat) (b1 : Bool) (d1 : ByteArray) (c1 : Nat) (b2 : Bool) (d2 : ByteArray) (c2 : Nat) (a b c : ByteArray) (w W : World) : Prop where
  d : W.heap[w.heap.size]? = some (.cells #[.bool b0, .string d0, .int .i64 (c0 : Int), .bool b1, .string d1, .int .i64 (c1 : Int), .bool b2, .string d2, .int .i64 (c2 : Int)] TA (0, 0))
  s : W.heap[w.heap.size + 1 + 1]? = some (.cells #[.string a, .string b, .string c] TS (0, 0))
  bel : Below w.heap.size w W
section
variable {b0 b1 b2 : Bool} {d0 d1 d2 : ByteArray} {c0 c1 c2 : Nat} {TA TS : TypeId} {a b c : ByteArray} {w W : World}
theorem Q9.lt (h : Q9 TA TS b0 d0 c0 b1 d1 c1 b2 d2 c2 a b c w W) : w.heap.size + 1 + 1 < W.heap.size := by
  rcases Nat.lt_or_ge (w.heap.size + 1 + 1) W.heap.size with h' | h'
  · exact h'
  · have := h.s; rw [Array.getElem?_eq_none h'] at this; cases this
theorem Q9.frozen (h : Q9 TA TS b0 d0 c0 b1 d1 c1 b2 d2 c2 a b c w W) (j : Nat) : W.frozen? ⟨w.heap.size, j, none⟩ = false := Lib.frozen_of_heap h.d j
theorem Q9.strs (h : Q9 TA TS b0 d0 c0 b1 d1 c1 b2 d2 c2 a b c w W) : W.cell? ⟨w.heap.size + 1 + 1, 0, none⟩ = some (.string a) ∧ W.cell? ⟨w.heap.size + 1 + 1, 1, none⟩ = some (.string b) ∧ W.cell? ⟨w.heap.size + 1 + 1, 2, none⟩ = some (.string c) := by
  refine ⟨?_, ?_, ?_⟩ <;> (rw [Lib.cell_of_heap h.s]; rfl)
theorem Q9.next {V w' : World} {M : Nat} (h : Q9 TA TS b0 d0 c0 b1 d1 c1 b2 d2 c2 a b c w W) (hb : Below M V w') (e1 : V.heap = W.heap) (e2 : V.os = W.os) (e3 : V.tape = W.tape) (e4 : V.output = W.output) (hM : W.heap.size ≤ M) : Q9 TA TS b0 d0 c0 b1 d1 c1 b2 d2 c2 a b c w w' := by
  have hl := h.lt
  exact ⟨(hb.block _ (by omega)).trans (by rw [e1]; exact h.d), (hb.block _ (by omega)).trans (by rw [e1]; exact h.s), below_next h.bel hb e1 e2 e3 e4 (Nat.le_trans h.bel.size hM)⟩
theorem Q9.alloc (h : Q9 TA TS b0 d0 c0 b1 d1 c1 b2 d2 c2 a b c w W) (o : Obj) : Q9 TA TS b0 d0 c0 b1 d1 c1 b2 d2 c2 a b c w (W.alloc o) :=
  h.next ((Below.refl W.heap.size W).alloc (Nat.le_refl _) o) rfl rfl rfl rfl (Nat.le_refl _)
theorem Q9.cells (h : Q9 TA TS b0 d0 c0 b1 d1 c1 b2 d2 c2 a b c w W) : W.cell? ⟨w.heap.size, 0, none⟩ = some (.bool b0) ∧ W.cell? ⟨w.heap.size, 1, none⟩ = some (.string d0) ∧ W.cell? ⟨w.heap.size, 2, none⟩ = some (.int .i64 (c0 : Int)) ∧ W.cell? ⟨w.heap.size, 3, none⟩ = some (.bool b1) ∧ W.cell? ⟨w.heap.size, 4, none⟩ = some (.string d1) ∧ W.cell? ⟨w.heap.size, 5, none⟩ = some (.int .i64 (c1 : Int)) ∧ W.cell? ⟨w.heap.size, 6, none⟩ = some (.bool b2) ∧ W.cell? ⟨w.heap.size, 7, none⟩ = some (.string d2) ∧ W.cell? ⟨w.heap.size, 8, none⟩ = some (.int .i64 (c2 : Int)) := by
  refine ⟨?_, ?_, ?_, ?_, ?_, ?_, ?_, ?_, ?_⟩ <;> (rw [Lib.cell_of_heap h.d]; rfl)
theorem Q9.set0 (h : Q9 TA TS b0 d0 c0 b1 d1 c1 b2 d2 c2 a b c w W) (b' : Bool) (d' : ByteArray) (c' : Nat) : Q9 TA TS b' d' c' b1 d1 c1 b2 d2 c2 a b c w (((W.setCell ⟨w.heap.size, 0, none⟩ (.bool b')).setCell ⟨w.heap.size, 1, none⟩ (.string d')).setCell ⟨w.heap.size, 2, none⟩ (.int .i64 (c' : Int))) := by
  refine ⟨?_, ?_, ((h.bel.setCell (by simp) _).setCell (by simp) _).setCell (by simp) _⟩
  · have := h.d; simp [World.setCell, Array.getElem?_modify, this]
  · rw [heap_other (by omega), heap_other (by omega), heap_other (by omega)]; exact h.s
theorem Q9.set1 (h : Q9 TA TS b0 d0 c0 b1 d1 c1 b2 d2 c2 a b c w W) (b' : Bool) (d' : ByteArray) (c' : Nat) : Q9 TA TS b0 d0 c0 b' d' c' b2 d2 c2 a b c w (((W.setCell ⟨w.heap.size, 3, none⟩ (.bool b')).setCell ⟨w.heap.size, 4, none⟩ (.string d')).setCell ⟨w.heap.size, 5, none⟩ (.int .i64 (c' : Int))) := by
  refine ⟨?_, ?_, ((h.bel.setCell (by simp) _).setCell (by simp) _).setCell (by simp) _⟩
  · have := h.d; simp [World.setCell, Array.getElem?_modify, this]
  · rw [heap_other (by omega), heap_other (by omega), heap_other (by omega)]; exact h.s
theorem Q9.set2 (h : Q9 TA TS b0 d0 c0 b1 d1 c1 b2 d2 c2 a b c w W) (b' : Bool) (d' : ByteArray) (c' : Nat) : Q9 TA TS b0 d0 c0 b1 d1 c1 b' d' c' a b c w (((W.setCell ⟨w.heap.size, 6, none⟩ (.bool b')).setCell ⟨w.heap.size, 7, none⟩ (.string d')).setCell ⟨w.heap.size, 8, none⟩ (.int .i64 (c' : Int))) := by
  refine ⟨?_, ?_, ((h.bel.setCell (by simp) _).setCell (by simp) _).setCell (by simp) _⟩
  · have := h.d; simp [World.setCell, Array.getElem?_modify, this]
  · rw [heap_other (by omega), heap_other (by omega), heap_other (by omega)]; exact h.s
theorem Q9.base {w' : World} {M : Nat} (h : Q9 TA TS b0 d0 c0 b1 d1 c1 b2 d2 c2 a b c w W) (hb : Below M W w') (hM : w.heap.size + 1 + 1 < M) : Q9 TA TS b0 d0 c0 b1 d1 c1 b2 d2 c2 a b c w w' :=
  ⟨(hb.block _ (by omega)).trans h.d, (hb.block _ hM).trans h.s, h.bel.trans (hb.mono (by omega))⟩
theorem Q9.far (h : Q9 TA TS b0 d0 c0 b1 d1 c1 b2 d2 c2 a b c w W) {g : Nat} (hg : w.heap.size + 1 + 1 < g) (u0 u1 u2 : Value) : Q9 TA TS b0 d0 c0 b1 d1 c1 b2 d2 c2 a b c w (((W.setCell ⟨g, 0, none⟩ u0).setCell ⟨g, 1, none⟩ u1).setCell ⟨g, 2, none⟩ u2) := by
  refine ⟨?_, ?_, ((h.bel.setCell (by simp; omega) _).setCell (by simp; omega) _).setCell (by simp; omega) _⟩
  · rw [heap_other (by omega), heap_other (by omega), heap_other (by omega)]; exact h.d
  · rw [heap_other (by omega), heap_other (by omega), heap_other (by omega)]; exact h.s
theorem lt_powU {n a b : Nat} (h : n < 10 ^ a) (hab : a ≤ b) : n < 10 ^ b := Nat.lt_of_lt_of_le h (Nat.pow_le_pow_right (by decide) hab)
theorem lt1000 {n : Nat} (h : n < 10 ^ 100) : n < 10 ^ 1000 := lt_powU (a := 100) (b := 1000) h (by decide)
theorem lt60 {n : Nat} (h : n < 10 ^ 60) : n < 10 ^ 100 := Nat.lt_of_lt_of_le h (Nat.pow_le_pow_right (by decide) (by decide))
theorem own_set2 {w : World} {base : Nat} {t : TypeId} {v : Value} {l : List ByteArray} (h : OwnS t w base v l) {g j : Nat} (hg : ∀ k, v.ownBlock = some k → k ≠ g) (u : Value) : OwnS t (w.setCell ⟨g, j, none⟩ u) base v l := by
  unfold OwnS at h ⊢
  refine h.kept (row := some g) ⟨rfl, rfl, rfl, by simp, fun k _ hk => ?_⟩ ?_
  · exact heap_other (by intro e; exact hk (by rw [e]))
  · cases ho : v.ownBlock with
    | none => exact .inl rfl
    | some k => exact .inr (fun e => by cases e; exact hg _ ho rfl)
theorem Q9.start (TA TS : TypeId) (a b c : ByteArray) (w : World) : Q9 TA TS false ⟨#[]⟩ 0 false ⟨#[]⟩ 0 false ⟨#[]⟩ 0 a b c w (((w.alloc (.cells #[.bool false, .string ⟨#[]⟩, .int .i64 0, .bool false, .string ⟨#[]⟩, .int .i64 0, .bool false, .string ⟨#[]⟩, .int .i64 0] TA)).alloc (.cells #[.string a, .string b, .string c] TS)).alloc (.cells #[.string a, .string b, .string c] TS)) := by
  have h1 : (w.alloc (.cells #[.bool false, .string ⟨#[]⟩, .int .i64 0, .bool false, .string ⟨#[]⟩, .int .i64 0, .bool false, .string ⟨#[]⟩, .int .i64 0] TA)).heap[w.heap.size]? = some (.cells #[.bool false, .string ⟨#[]⟩, .int .i64 0, .bool false, .string ⟨#[]⟩, .int .i64 0, .bool false, .string ⟨#[]⟩, .int .i64 0] TA (0, 0)) := heap_alloc_new _ _
  have hb0 := (Below.refl w.heap.size w).alloc (Nat.le_refl _) (.cells #[.bool false, .string ⟨#[]⟩, .int .i64 0, .bool false, .string ⟨#[]⟩, .int .i64 0, .bool false, .string ⟨#[]⟩, .int .i64 0] TA)
  obtain ⟨W1, hW1⟩ : ∃ W1, w.alloc (.cells #[.bool false, .string ⟨#[]⟩, .int .i64 0, .bool false, .string ⟨#[]⟩, .int .i64 0, .bool false, .string ⟨#[]⟩, .int .i64 0] TA) = W1 := ⟨_, rfl⟩
  have hz : W1.heap.size = w.heap.size + 1 := by rw [← hW1]; simp
  rw [hW1] at h1 hb0 ⊢
  have hb1 := ((Below.refl W1.heap.size W1).alloc (Nat.le_refl _) (.cells #[.string a, .string b, .string c] TS)).alloc (by simp) (.cells #[.string a, .string b, .string c] TS)
  have h2 : ((W1.alloc (.cells #[.string a, .string b, .string c] TS)).alloc (.cells #[.string a, .string b, .string c] TS)).heap[(W1.alloc (.cells #[.string a, .string b, .string c] TS)).heap.size]? = some (.cells #[.string a, .string b, .string c] TS (0, 0)) := heap_alloc_new _ _
  rw [World.size_alloc, hz] at h2
  exact ⟨(hb1.block _ (by omega)).trans h1, h2, hb0.trans (hb1.mono (by omega))⟩
end
end Go.Pw
namespace Go.Proofs.YtoieicdnehnacaaGreatDoor
open Go.RowKit Go.Pw
set_option maxHeartbeats 8000000 in
set_option maxRecDepth 100000 in
theorem sequenceSmall_any (a b c : ByteArray) (w : World) (ha : a.size ≤ 30) (hb : b.size ≤ 30) (hc : c.size ≤ 30) :
    Calls Tryz.prog 9 #[.string a, .string b, .string c] w fun e w' => Below w.heap.size w w' ∧
      (((dOk a.data.toList && dOk b.data.toList && dOk c.data.toList) = false ∧ e = .returned (.tuple #[.slice none 0 0, .int .i64 1])) ∨
       ((dOk a.data.toList && dOk b.data.toList && dOk c.data.toList) = true ∧ ((dVal b.data.toList = 0 ∧ e = .returned (.tuple #[.slice none 0 0, .int .i64 10])) ∨ (dVal b.data.toList ≠ 0 ∧ SeqQ 9 (dVal a.data.toList * (10 : Int) ^ (max (dPart a.data.toList).length (dPart b.data.toList).length - (dPart a.data.toList).length)) (dVal b.data.toList * (10 : Int) ^ (max (dPart a.data.toList).length (dPart b.data.toList).length - (dPart b.data.toList).length)) (dVal a.data.toList * (10 : Int) ^ (max (max (dPart a.data.toList).length (dPart b.data.toList).length) (dPart c.data.toList).length - (dPart a.data.toList).length)) (dVal b.data.toList * (10 : Int) ^ (max (max (dPart a.data.toList).length (dPart b.data.toList).length) (dPart c.data.toList).length - (dPart b.data.toList).length)) (dVal c.data.toList * (10 : Int) ^ (max (max (dPart a.data.toList).length (dPart b.data.toList).length) (dPart c.data.toList).length - (dPart c.data.toList).length)) (max (dPart a.data.toList).length (dPart b.data.toList).length) w' e)))) := by
  have hai : ¬ (30 : Int) < (a.size : Int) := by omega
  have hbi : ¬ (30 : Int) < (b.size : Int) := by omega
  have hci : ¬ (30 : Int) < (c.size : Int) := by omega
  have HX0 := hide (fun V => decOf_any a V (by omega))
  have HX1 := hide (fun V => decOf_any b V (by omega))
  have HX2 := hide (fun V => decOf_any c V (by omega))
  obtain ⟨pa, hea⟩ : ∃ k, (dPart a.data.toList).length = k := ⟨_, rfl⟩
  obtain ⟨pb, heb⟩ : ∃ k, (dPart b.data.toList).length = k := ⟨_, rfl⟩
  obtain ⟨pc, hec⟩ : ∃ k, (dPart c.data.toList).length = k := ⟨_, rfl⟩
  simp only [hea, heb, hec] at HX0 HX1 HX2
  have hpa := dParts_len a.data.toList
  have hpb := dParts_len b.data.toList
  have hpc := dParts_len c.data.toList
  have hla := len_size a
  have hlb := len_size b
  have hlc := len_size c
  obtain ⟨sc, hsc⟩ : ∃ k, max pa pb = k := ⟨_, rfl⟩
  obtain ⟨pl, hpl⟩ : ∃ k, max sc pc = k := ⟨_, rfl⟩
  simp only [hea, heb, hec, hsc, hpl]
  have hm1 : max (pa : Int) (pb : Int) = (sc : Int) := by omega
  have hpa30 : pa ≤ 30 := by omega
  have hpb30 : pb ≤ 30 := by omega
  have hpc30 : pc ≤ 30 := by omega
  have hsca : pa ≤ sc := by omega
  have hscb : pb ≤ sc := by omega
  have hsc30 : sc ≤ 30 := by omega
  have hpl30 : pl ≤ 30 := by omega
  have hscpl : sc ≤ pl := by omega
  have HF := hide (fun h => dVal_bound (l := a.data.toList) h (by rw [hla]; exact ha) (n := sc - pa) (by omega))
  have HVF := hide (fun h => dVal_bound (l := a.data.toList) h (by rw [hla]; exact ha) (n := pl - pa) (by omega))
  have HB := hide (fun h => dVal_bound (l := b.data.toList) h (by rw [hlb]; exact hb) (n := sc - pb) (by omega))
  have HVB := hide (fun h => dVal_bound (l := b.data.toList) h (by rw [hlb]; exact hb) (n := pl - pb) (by omega))
  have HT0 := hide (fun h => dVal_bound (l := c.data.toList) h (by rw [hlc]; exact hc) (n := 0) (by omega))
  have HB0 := hide (fun h => dVal_bound (l := b.data.toList) h (by rw [hlb]; exact hb) (n := 0) (by omega))
  have HVT := hide (fun h => dVal_bound (l := c.data.toList) h (by rw [hlc]; exact hc) (n := pl - pc) (by omega))
  have HFS := hide (pow_split (dVal a.data.toList) hsca hscpl)
  have HBS := hide (pow_split (dVal b.data.toList) hscb hscpl)
  have HNE := hide (neg_scale (dVal b.data.toList) (pl - pb))
  obtain ⟨F, hF⟩ : ∃ V, dVal a.data.toList * (10 : Int) ^ (sc - pa) = V := ⟨_, rfl⟩
  obtain ⟨B, hB⟩ : ∃ V, dVal b.data.toList * (10 : Int) ^ (sc - pb) = V := ⟨_, rfl⟩
  obtain ⟨VF, hVF⟩ : ∃ V, dVal a.data.toList * (10 : Int) ^ (pl - pa) = V := ⟨_, rfl⟩
  obtain ⟨VB, hVB⟩ : ∃ V, dVal b.data.toList * (10 : Int) ^ (pl - pb) = V := ⟨_, rfl⟩
  obtain ⟨VT, hVT⟩ : ∃ V, dVal c.data.toList * (10 : Int) ^ (pl - pc) = V := ⟨_, rfl⟩
  rw [hF] at HF; rw [hB] at HB; rw [hVF] at HVF; rw [hVB] at HVB HNE; rw [hVT] at HVT
  rw [hF, hVF] at HFS; rw [hB, hVB] at HBS
  rw [hF, hB, hVF, hVB, hVT]
  have HeF := hide hF
  have HeB := hide hB
  have HeT := hide hVT
  clear hF hB hVF hVB hVT
  have Hsc := hide hsc
  have Hpl := hide hpl
  clear hea heb hec hpa hpb hpc hla hlb hlc hsc hpl
  have HQ0 := hide (Q9.start 72 9 a b c w)
  go_enter Tryz.func9, Tryz.ntmps9
  go_wp2_with fail
  go_loop [26] (fun i => i = .int .i64 0 ∨ i = .int .i64 1 ∨ i = .int .i64 2 ∨ i = .int .i64 3) (fun i => 3 - (intOf i).toNat)
  case atStart => exact .inl rfl
  case round =>
    rcases hrel with rfl | rfl | rfl | rfl
    · go_wp2_with fail
      go_round
      case rel => exact .inr (.inl rfl)
      case measure => simp [intOf]
    · go_wp2_with fail
      go_round
      case rel => exact .inr (.inr (.inl rfl))
      case measure => simp [intOf]
    · go_wp2_with fail
      go_round
      case rel => exact .inr (.inr (.inr rfl))
      case measure => simp [intOf]
    · go_wp2_with fail
      go_loopw [39] (fun i wq => ∃ (b0 : Bool) (d0 : ByteArray) (b1 : Bool) (d1 : ByteArray) (b2 : Bool) (d2 : ByteArray), (i = .int .i64 0 ∧ Hid (Q9 72 9 false ⟨#[]⟩ 0 false ⟨#[]⟩ 0 false ⟨#[]⟩ 0 a b c w wq)) ∨ (i = .int .i64 1 ∧ Hid (dOk a.data.toList = true) ∧ Hid (ExI (dVal a.data.toList) b0 d0) ∧ Hid (Q9 72 9 b0 d0 pa false ⟨#[]⟩ 0 false ⟨#[]⟩ 0 a b c w wq)) ∨ (i = .int .i64 2 ∧ Hid (dOk a.data.toList = true ∧ dOk b.data.toList = true) ∧ Hid (ExI (dVal a.data.toList) b0 d0 ∧ ExI (dVal b.data.toList) b1 d1) ∧ Hid (Q9 72 9 b0 d0 pa b1 d1 pb false ⟨#[]⟩ 0 a b c w wq)) ∨ (i = .int .i64 3 ∧ Hid (dOk a.data.toList = true ∧ dOk b.data.toList = true ∧ dOk c.data.toList = true) ∧ Hid (ExI (dVal a.data.toList) b0 d0 ∧ ExI (dVal b.data.toList) b1 d1 ∧ ExI (dVal c.data.toList) b2 d2) ∧ Hid (Q9 72 9 b0 d0 pa b1 d1 pb b2 d2 pc a b c w wq))) (fun i _ => 3 - (intOf i).toNat)
      case atStart => exact ⟨false, ⟨#[]⟩, false, ⟨#[]⟩, false, ⟨#[]⟩, .inl ⟨rfl, HQ0⟩⟩
      case round =>
        obtain ⟨b0, d0, b1, d1, b2, d2, hrel⟩ := hrel
        rcases hrel with ⟨rfl, HQ⟩ | ⟨rfl, HK, HE, HQ⟩ | ⟨rfl, HK, HE, HQ⟩ | ⟨rfl, HK, HE, HQ⟩
        · skip
          obtain ⟨s0, s1, s2⟩ := HQ.out.strs
          go_wp2_with fail
          refine (HX0.out _).mono ?_
          rintro e w4 ⟨hb4, ⟨hok, eb, ed, rfl, he⟩ | ⟨hok, rfl⟩⟩
          · have HQ4 := hide (HQ.out.next hb4 rfl rfl rfl rfl (Nat.le_refl _))
            have HK4 := hide hok
            have HE4 := hide he
            clear hb4 hok he s0 s1 s2
            have HQ5 := hide (HQ4.out.alloc (.cells #[.bool eb, .string ed, .int .i64 (pa : Int)] 71))
            obtain ⟨w5, hw5⟩ : ∃ w5, w4.alloc (.cells #[.bool eb, .string ed, .int .i64 (pa : Int)] 71) = w5 := ⟨_, rfl⟩
            rw [hw5] at HQ5
            obtain ⟨k0, k1, k2, k3, k4, k5, k6, k7, k8⟩ := HQ5.out.cells
            have f0 := HQ5.out.frozen 0
            have f1 := HQ5.out.frozen 1
            have f2 := HQ5.out.frozen 2
            have HQ6 := hide (HQ5.out.set0 eb ed pa)
            rw [← hw5] at HQ6 k0 k1 k2 k3 k4 k5 k6 k7 k8 f0 f1 f2
            clear hw5
            go_wp2_with fail
            go_roundw
            case rel => first | exact ⟨eb, ed, b1, d1, b2, d2, .inr (.inl ⟨rfl, HK4, HE4, HQ6⟩)⟩ | ((repeat apply Exists.intro); exact ⟨⟨eb, ed, b1, d1, b2, d2, .inr (.inl ⟨rfl, HK4, HE4, HQ6⟩)⟩, rfl⟩)
            case measure => simp [intOf]
          · have HBZ := hide ((HQ.out.next hb4 rfl rfl rfl rfl (Nat.le_refl _)).alloc (.cells #[.bool false, .string ⟨#[]⟩, .int .i64 0] 71)).bel
            have HNO : Hid ((dOk a.data.toList && dOk b.data.toList && dOk c.data.toList) = false) := hide (by simp [hok])
            clear hb4 hok
            go_wp2_with fail
            go_ret2
            exact ⟨HBZ.out, .inl ⟨HNO.out, rfl⟩⟩
        · skip
          obtain ⟨s0, s1, s2⟩ := HQ.out.strs
          go_wp2_with fail
          refine (HX1.out _).mono ?_
          rintro e w4 ⟨hb4, ⟨hok, eb, ed, rfl, he⟩ | ⟨hok, rfl⟩⟩
          · have HQ4 := hide (HQ.out.next hb4 rfl rfl rfl rfl (Nat.le_refl _))
            have HK4 := hide (And.intro HK.out hok)
            have HE4 := hide (And.intro HE.out he)
            clear hb4 hok he s0 s1 s2
            have HQ5 := hide (HQ4.out.alloc (.cells #[.bool eb, .string ed, .int .i64 (pb : Int)] 71))
            obtain ⟨w5, hw5⟩ : ∃ w5, w4.alloc (.cells #[.bool eb, .string ed, .int .i64 (pb : Int)] 71) = w5 := ⟨_, rfl⟩
            rw [hw5] at HQ5
            obtain ⟨k0, k1, k2, k3, k4, k5, k6, k7, k8⟩ := HQ5.out.cells
            have f3 := HQ5.out.frozen 3
            have f4 := HQ5.out.frozen 4
            have f5 := HQ5.out.frozen 5
            have HQ6 := hide (HQ5.out.set1 eb ed pb)
            rw [← hw5] at HQ6 k0 k1 k2 k3 k4 k5 k6 k7 k8 f3 f4 f5
            clear hw5
            go_wp2_with fail
            go_roundw
            case rel => first | exact ⟨b0, d0, eb, ed, b2, d2, .inr (.inr (.inl ⟨rfl, HK4, HE4, HQ6⟩))⟩ | ((repeat apply Exists.intro); exact ⟨⟨b0, d0, eb, ed, b2, d2, .inr (.inr (.inl ⟨rfl, HK4, HE4, HQ6⟩))⟩, rfl⟩)
            case measure => simp [intOf]
          · have HBZ := hide ((HQ.out.next hb4 rfl rfl rfl rfl (Nat.le_refl _)).alloc (.cells #[.bool false, .string ⟨#[]⟩, .int .i64 0] 71)).bel
            have HNO : Hid ((dOk a.data.toList && dOk b.data.toList && dOk c.data.toList) = false) := hide (by simp [HK.out, hok])
            clear hb4 hok
            go_wp2_with fail
            go_ret2
            exact ⟨HBZ.out, .inl ⟨HNO.out, rfl⟩⟩
        · skip
          obtain ⟨s0, s1, s2⟩ := HQ.out.strs
          go_wp2_with fail
          refine (HX2.out _).mono ?_
          rintro e w4 ⟨hb4, ⟨hok, eb, ed, rfl, he⟩ | ⟨hok, rfl⟩⟩
          · have HQ4 := hide (HQ.out.next hb4 rfl rfl rfl rfl (Nat.le_refl _))
            have HK4 := hide (And.intro HK.out.1 (And.intro HK.out.2 hok))
            have HE4 := hide (And.intro HE.out.1 (And.intro HE.out.2 he))
            clear hb4 hok he s0 s1 s2
            have HQ5 := hide (HQ4.out.alloc (.cells #[.bool eb, .string ed, .int .i64 (pc : Int)] 71))
            obtain ⟨w5, hw5⟩ : ∃ w5, w4.alloc (.cells #[.bool eb, .string ed, .int .i64 (pc : Int)] 71) = w5 := ⟨_, rfl⟩
            rw [hw5] at HQ5
            obtain ⟨k0, k1, k2, k3, k4, k5, k6, k7, k8⟩ := HQ5.out.cells
            have f6 := HQ5.out.frozen 6
            have f7 := HQ5.out.frozen 7
            have f8 := HQ5.out.frozen 8
            have HQ6 := hide (HQ5.out.set2 eb ed pc)
            rw [← hw5] at HQ6 k0 k1 k2 k3 k4 k5 k6 k7 k8 f6 f7 f8
            clear hw5
            go_wp2_with fail
            go_roundw
            case rel => first | exact ⟨b0, d0, b1, d1, eb, ed, .inr (.inr (.inr ⟨rfl, HK4, HE4, HQ6⟩))⟩ | ((repeat apply Exists.intro); exact ⟨⟨b0, d0, b1, d1, eb, ed, .inr (.inr (.inr ⟨rfl, HK4, HE4, HQ6⟩))⟩, rfl⟩)
            case measure => simp [intOf]
          · have HBZ := hide ((HQ.out.next hb4 rfl rfl rfl rfl (Nat.le_refl _)).alloc (.cells #[.bool false, .string ⟨#[]⟩, .int .i64 0] 71)).bel
            have HNO : Hid ((dOk a.data.toList && dOk b.data.toList && dOk c.data.toList) = false) := hide (by simp [HK.out.1, HK.out.2, hok])
            clear hb4 hok
            go_wp2_with fail
            go_ret2
            exact ⟨HBZ.out, .inl ⟨HNO.out, rfl⟩⟩
        · have HAll : Hid ((dOk a.data.toList && dOk b.data.toList && dOk c.data.toList) = true) := hide (by simp [HK.out.1, HK.out.2.1, HK.out.2.2])
          obtain ⟨k0, k1, k2, k3, k4, k5, k6, k7, k8⟩ := HQ.out.cells
          go_wp2_with fail
          refine (decZero_any b1 d1 pb _).mono ?_
          rintro e w4 ⟨rfl, hb4⟩
          have HQ4 := hide (HQ.out.next hb4 rfl rfl rfl rfl (Nat.le_refl _))
          clear hb4 k0 k1 k2 k3 k4 k5 k6 k7 k8
          by_cases h0 : d1.size = 0
          · have HZ : Hid (dVal b.data.toList = 0) := hide (HE.out.2.1.zero.1 h0)
            rw [decide_eq_true h0]
            clear h0
            go_wp2_with fail
            go_ret2
            exact ⟨HQ4.out.bel, .inr ⟨HAll.out, .inl ⟨HZ.out, rfl⟩⟩⟩
          · have HNZ : Hid (dVal b.data.toList ≠ 0) := hide (fun h => h0 (HE.out.2.1.zero.2 h))
            rw [decide_eq_false h0]
            clear h0
            obtain ⟨k0, k1, k2, k3, k4, k5, k6, k7, k8⟩ := HQ4.out.cells
            have hz0 : d0.size ≤ 100 := HE.out.1.size (by have := dVal_bound HK.out.1 (by rw [len_size]; exact ha) (n := 0) (by omega); rw [Int.pow_zero, Int.mul_one] at this; exact Nat.lt_trans this (by decide))
            have HCut := hide (fun V => decCut_any (dVal a.data.toList) b0 d0 pa sc V HE.out.1 (by omega) (by omega) (by omega))
            go_wp2_with fail
            refine (HCut.out _).mono ?_
            rintro e w5 ⟨⟨bx, dx, rfl, hx⟩, hb5⟩
            have HQ5 := hide (HQ4.out.next hb5 rfl rfl rfl rfl (Nat.le_refl _))
            have HQ6 := hide (HQ5.out.alloc (.cells #[.bool bx, .string dx, .int .i64 (sc : Int)] 71))
            have HDX := hide (dat_new w5 71 bx dx sc)
            have HlN : Hid (w.heap.size + 1 + 1 < w5.heap.size) := hide HQ5.out.lt
            obtain ⟨w6, hw6⟩ : ∃ w6, w5.alloc (.cells #[.bool bx, .string dx, .int .i64 (sc : Int)] 71) = w6 := ⟨_, rfl⟩
            rw [hw6] at HQ6 HDX
            have HW6 := hide hw6
            have HX0 := hide hx
            clear hw6 hb5 hx k0 k1 k2 k3 k4 k5 k6 k7 k8
            go_wp2_with fail
            rw [HW6.out]
            have HF1 := hide (HF.out HK.out.1)
            have HB1 := hide (HB.out HK.out.2.1)
            have HVF1 := hide (HVF.out HK.out.1)
            have HVB1 := hide (HVB.out HK.out.2.1)
            have HVT1 := hide (HVT.out HK.out.2.2)
            have HT1 : Hid ((dVal c.data.toList).natAbs < 10 ^ 60) := hide (by have := HT0.out HK.out.2.2; rwa [Int.pow_zero, Int.mul_one] at this)
            have HB2 : Hid ((dVal b.data.toList).natAbs < 10 ^ 60) := hide (by have := HB0.out HK.out.2.1; rwa [Int.pow_zero, Int.mul_one] at this)
            have HZT : Hid (d2.size ≤ 1000) := hide (by have := HE.out.2.2.size (lt60 HT1.out); omega)
            have HZB : Hid (d1.size ≤ 1000) := hide (by have := HE.out.2.1.size (lt60 HB2.out); omega)
            have HEB := hide HE.out.2.1
            have HET := hide HE.out.2.2
            have HNB : Hid (decide (VB < 0) = b1) := hide (by rw [HNE.out]; exact HE.out.2.1.neg.symm)
            rw [HeF.out] at HX0
            clear HF HB HVF HVB HVT HT0 HB0 HK HE HQ HQ4 HQ5 HX1 HX2 HCut hz0
            have HZ6 : Hid (w6.heap.size = w5.heap.size + 1) := hide (by rw [← HW6.out]; simp)
            go_loopw [16, 17] (fun o px wq => ∃ (out : List ByteArray) (e : Bool) (d : ByteArray) (g : Nat), px = .pointer (some ⟨g, 0, none⟩) ∧ w.heap.size + 1 + 1 < g ∧ out.length ≤ 4096 ∧ Hid (OwnS 9 wq (w5.heap.size + 1) o out) ∧ Hid (o.ownBlock ≠ some g) ∧ Hid (w5.heap.size + 1 ≤ wq.heap.size) ∧ Hid (Q9 72 9 b0 d0 pa b1 d1 pb b2 d2 pc a b c w wq) ∧ Hid (DAt wq g 71 e d sc) ∧ Hid (ExI (F + (out.length : Int) * B) e d) ∧ Hid (OutIs (fun i t => XT (F + (i : Int) * B) sc sc t) out) ∧ Hid (∀ i, i < out.length → bey2 VF VB VT i = false)) (fun o _ _ => 4097 - slN o)
            case atStart => exact ⟨[], bx, dx, w5.heap.size, rfl, HlN.out, by simp, hide (World.ownsRow_nil _ _ _ _), hide (fun h => by cases h), hide (by rw [HZ6.out]; exact Nat.le_refl _), HQ6, HDX, hide (by simpa using HX0.out), hide (OutIs.nil _), hide (fun i h => by simp at h)⟩
            case round =>
              clear HQ6 HDX HX0
              obtain ⟨out, e, d, g, rfl, hgl, hk, HO, HNG, HSZ, HQ, HD, HX, HG, HN⟩ := hrel
              obtain ⟨OA, oc, rfl⟩ := own_slice HO.out
              have HVk : Hid ((F + (out.length : Int) * B) * (10 : Int) ^ (pl - sc) = VF + (out.length : Int) * VB) := hide (by rw [steps_scale, ← HFS.out, ← HBS.out])
              have HBk := hide (steps_bound HVF1.out HVB1.out (k := out.length) (by omega))
              have HFk := hide (steps_bound HF1.out HB1.out (k := out.length) (by omega))
              have hzd : d.size ≤ 100 := HX.out.size HFk.out
              have hcmp := fun V => decCompare_any (F + (out.length : Int) * B) (dVal c.data.toList) e b2 d d2 sc pc pl V HX.out HET.out (by omega) HZT.out Hpl.out (by omega) (by rw [HVk.out]; exact lt1000 HBk.out) (by rw [HeT.out]; exact lt1000 (lt60 HVT1.out)) (lt1000 (lt60 HT1.out))
              rw [HVk.out, HeT.out] at hcmp
              obtain ⟨C, hC⟩ : ∃ C, Lib.compareInt (VF + (out.length : Int) * VB) VT = C := ⟨_, rfl⟩
              rw [hC] at hcmp
              have HCMP := hide hcmp
              have HBY : Hid (bey2 VF VB VT out.length = beyB b1 C) := hide (by unfold bey2; rw [hC, HNB.out])
              clear hcmp hC
              obtain ⟨p0, p1, p2⟩ := HD.out.cells
              obtain ⟨k0, k1, k2, k3, k4, k5, k6, k7, k8⟩ := HQ.out.cells
              clear k0 k1 k2 k3 k4 k5
              go_wp2_with fail
              refine (HCMP.out _).mono ?_
              rintro e1 w10 ⟨rfl, hb10⟩
              have HQ10 := hide (HQ.out.next hb10 rfl rfl rfl rfl (Nat.le_refl _))
              have HD10 := hide (HD.out.below hb10 HD.out.lt)
              have HO10 : Hid (OwnS 9 w10 (w5.heap.size + 1) (.slice OA out.length oc) out) := hide (own_below HO.out hb10)
              have HSZ10 : Hid (w5.heap.size + 1 ≤ w10.heap.size) := hide (Nat.le_trans HSZ.out hb10.size)
              clear hb10 p0 p1 p2 k6 k7 k8 HCMP
              obtain ⟨k0, k1, k2, k3, k4, k5, k6, k7, k8⟩ := HQ10.out.cells
              clear k0 k1 k2 k4 k5 k6 k7 k8
              rcases Bool.eq_false_or_eq_true b1 with hn | hn
              · rw [hn] at k3
                have HBY1 : Hid (bey2 VF VB VT out.length = decide (C < 0)) := hide (by rw [HBY.out, hn]; rfl)
                clear hn
                by_cases hC : C < 0
                · have HST : Hid (StopAt (bey2 VF VB VT) out.length) := hide ⟨by rw [HBY1.out]; exact decide_eq_true hC, HN.out⟩
                  go_wp2_with fail
                  go_ret2
                  exact ⟨HQ10.out.bel, .inr ⟨HAll.out, .inr ⟨HNZ.out, .inl ⟨_, out, _, hk, HST.out, HG.out, rfl, HO10.out⟩⟩⟩⟩
                · have HNO : Hid (bey2 VF VB VT out.length = false) := hide (by rw [HBY1.out]; exact decide_eq_false hC)
                  by_cases hmax : out.length = 4096
                  · have hm4 : ((out.length : Int) == 4096) = true := by rw [hmax]; rfl
                    have HR : Hid (∀ i, i ≤ 4096 → bey2 VF VB VT i = false) := hide (fun i hi => by
                      rcases Nat.lt_or_ge i out.length with h | h
                      · exact HN.out i h
                      · rw [show i = out.length by omega]; exact HNO.out)
                    clear hmax
                    go_wp2_with fail
                    go_ret2
                    exact ⟨HQ10.out.bel, .inr ⟨HAll.out, .inr ⟨HNZ.out, .inr ⟨HR.out, rfl⟩⟩⟩⟩
                  · have hm4 : ((out.length : Int) == 4096) = false := by simp; omega
                    have hcut := fun V => decCut_any (F + (out.length : Int) * B) e d sc sc V HX.out (by omega) (Nat.le_refl _) (by omega)
                    rw [Nat.sub_self, Int.pow_zero, Int.mul_one] at hcut
                    have HCUT := hide hcut
                    clear hcut
                    obtain ⟨p0, p1, p2⟩ := HD10.out.cells
                    go_wp2_with fail
                    refine (HCUT.out _).mono ?_
                    rintro e2 w11 ⟨⟨bt, dt, rfl, hxt⟩, hb11⟩
                    have HXT := hide hxt
                    have HQ11 := hide (HQ10.out.next hb11 rfl rfl rfl rfl (Nat.le_refl _))
                    have HD11 := hide (HD10.out.below hb11 HD10.out.lt)
                    have HO11 : Hid (OwnS 9 w11 (w5.heap.size + 1) (.slice OA out.length oc) out) := hide (own_below HO10.out hb11)
                    have HSZ11 : Hid (w5.heap.size + 1 ≤ w11.heap.size) := hide (Nat.le_trans HSZ10.out hb11.size)
                    have HTX := hide (fun V => decText_any bt dt sc V (HXT.out.size HFk.out) (by omega))
                    clear hb11 hxt p0 p1 p2
                    go_wp2_with fail
                    refine (HTX.out _).mono ?_
                    rintro e3 w12 ⟨rfl, hb12⟩
                    obtain ⟨y, hy⟩ : ∃ y, exTx bt dt.data.toList sc sc = y := ⟨_, rfl⟩
                    have HG2 := hide (HG.out.push (t := y) ⟨bt, dt, HXT.out, hy.symm⟩)
                    have HN2 : Hid (∀ i, i < (out ++ [y]).length → bey2 VF VB VT i = false) := hide (fun i hi => by
                      rw [List.length_append] at hi
                      rcases Nat.lt_or_ge i out.length with h | h
                      · exact HN.out i h
                      · have : i = out.length := by simp at hi; omega
                        rw [this]; exact HNO.out)
                    have HL2 : Hid ((out ++ [y]).length ≤ 4096) := hide (by rw [List.length_append]; simp; omega)
                    rw [hy]
                    have HQ12 := hide (HQ11.out.next hb12 rfl rfl rfl rfl (Nat.le_refl _))
                    have HD12 := hide (HD11.out.below hb12 HD11.out.lt)
                    have HO12 : Hid (OwnS 9 w12 (w5.heap.size + 1) (.slice OA out.length oc) out) := hide (own_below HO11.out hb12)
                    have hzz : w5.heap.size + 1 ≤ w12.heap.size := Nat.le_trans HSZ11.out hb12.size
                    have HDL : Hid (out.length ≤ 1000000000) := hide (by omega)
                    clear hb12 hy HTX HXT HCUT
                    go_wp2_with (at_builtin; refine wpList_app_far rfl _ _ rfl (w5.heap.size + 1) _ _ rfl HO12.out rfl HDL.out hzz ?_)
                    intro ga c2 w13 ho13 hb13 hbl hown hga hsz
                    have HO13 := hide ho13
                    have HQ13 := hide (HQ12.out.base hb13 (by have := HlN.out; omega))
                    have HD13 : Hid (DAt w13 g 71 e d sc) := hide (by have h := HD12.out; unfold DAt at h ⊢; rw [hbl g HD12.out.lt HNG.out]; exact h)
                    have HSZ13 : Hid (w5.heap.size + 1 ≤ w13.heap.size) := hide (by omega)
                    have HQ14 := hide (HQ13.out.alloc (.cells #[.bool e, .string d, .int .i64 (sc : Int)] 71))
                    have HD14 := hide (dat_new w13 71 e d sc)
                    have HO14 : Hid (OwnS 9 (w13.alloc (.cells #[.bool e, .string d, .int .i64 (sc : Int)] 71)) (w5.heap.size + 1) (.slice (some ⟨ga, 0, none⟩) (out.length + 1) c2) (out ++ [y])) := hide (own_below HO13.out (alloc_under _ _))
                    have HSZ14 : Hid ((w13.alloc (.cells #[.bool e, .string d, .int .i64 (sc : Int)] 71)).heap.size = w13.heap.size + 1) := hide (by simp)
                    have HGA : Hid (ga < w13.heap.size) := hide hga
                    clear ho13 hb13 hbl hown hga hsz hzz
                    obtain ⟨p0, p1, p2⟩ := HD13.out.cells
                    obtain ⟨n0, n1, n2⟩ := HD14.out.cells
                    obtain ⟨k0, k1, k2, k3, k4, k5, k6, k7, k8⟩ := HQ14.out.cells
                    clear k0 k1 k2 k6 k7 k8
                    have hplus := fun V => decPlus_any (F + (out.length : Int) * B) (dVal b.data.toList) e b1 d d1 sc pb sc V HX.out HEB.out (by omega) HZB.out (by omega) (by omega) (by rw [Nat.sub_self, Int.pow_zero, Int.mul_one]; exact lt1000 HFk.out) (by rw [HeB.out]; exact lt1000 (lt60 HB1.out))
                    rw [Nat.sub_self, Int.pow_zero, Int.mul_one, HeB.out] at hplus
                    have HPLUS := hide hplus
                    clear hplus
                    go_wp2_with fail
                    refine (HPLUS.out _).mono ?_
                    rintro e4 w15 ⟨⟨e', d', rfl, hx'⟩, hb15⟩
                    have HX15 : Hid (ExI (F + ((out ++ [y]).length : Int) * B) e' d') := hide (by
                      have e5 : F + ((out ++ [y]).length : Int) * B = F + (out.length : Int) * B + B := by
                        rw [List.length_append, show ((out.length + [y].length : Nat) : Int) = (out.length : Int) + 1 by simp, Int.add_mul, Int.one_mul]; omega
                      rw [e5]; exact hx')
                    have HQ15 := hide (HQ14.out.next hb15 rfl rfl rfl rfl (Nat.le_refl _))
                    have HD15 := hide (HD14.out.below hb15 HD14.out.lt)
                    have HO15 : Hid (OwnS 9 w15 (w5.heap.size + 1) (.slice (some ⟨ga, 0, none⟩) (out.length + 1) c2) (out ++ [y])) := hide (own_below HO14.out hb15)
                    have HSZ15 : Hid (w5.heap.size + 1 ≤ w15.heap.size) := hide (by have h1 := hb15.size; have h2 := HSZ14.out; have h3 := HSZ13.out; omega)
                    clear hx' hb15 p0 p1 p2 n0 n1 n2 k3 k4 k5 HPLUS
                    have g0 := HD15.out.frozen 0
                    have g1 := HD15.out.frozen 1
                    have g2 := HD15.out.frozen 2
                    obtain ⟨n0, n1, n2⟩ := HD15.out.cells
                    have HgN : Hid (w.heap.size + 1 + 1 < w13.heap.size) := hide HQ13.out.lt
                    have HD16 := hide (HD15.out.set e' d' sc)
                    have HQ16 := hide (HQ15.out.far HgN.out (.bool e') (.string d') (.int .i64 (sc : Int)))
                    have HNE2 : Hid (∀ k, (Value.slice (some ⟨ga, 0, none⟩) (out.length + 1) c2).ownBlock = some k → k ≠ w13.heap.size) := hide (fun k hk => by have h1 : ga = k := Option.some.inj hk; have h2 := HGA.out; omega)
                    have HO16 := hide (own_set2 (j := 2) (own_set2 (j := 1) (own_set2 (j := 0) HO15.out HNE2.out (.bool e')) HNE2.out (.string d')) HNE2.out (.int .i64 (sc : Int)))
                    have HNG2 : Hid ((Value.slice (some ⟨ga, 0, none⟩) (out.length + 1) c2).ownBlock ≠ some w13.heap.size) := hide (fun h => HNE2.out _ h rfl)
                    have HSZ16 : Hid (w5.heap.size + 1 ≤ (((w15.setCell ⟨w13.heap.size, 0, none⟩ (.bool e')).setCell ⟨w13.heap.size, 1, none⟩ (.string d')).setCell ⟨w13.heap.size, 2, none⟩ (.int .i64 (sc : Int))).heap.size) := hide (by have := HSZ15.out; simpa using this)
                    go_wp2_with fail
                    go_roundw
                    case rel => first | exact ⟨out ++ [y], e', d', w13.heap.size, rfl, HgN.out, HL2.out, HO16, HNG2, HSZ16, HQ16, HD16, HX15, HG2, HN2⟩ | ((repeat apply Exists.intro); exact ⟨⟨out ++ [y], e', d', w13.heap.size, rfl, HgN.out, HL2.out, HO16, HNG2, HSZ16, HQ16, HD16, HX15, HG2, HN2⟩, rfl⟩)
                    case measure => simp [slN]; omega
              · rw [hn] at k3
                have HBY1 : Hid (bey2 VF VB VT out.length = decide (0 < C)) := hide (by rw [HBY.out, hn]; rfl)
                clear hn
                by_cases hC : 0 < C
                · have HST : Hid (StopAt (bey2 VF VB VT) out.length) := hide ⟨by rw [HBY1.out]; exact decide_eq_true hC, HN.out⟩
                  go_wp2_with fail
                  go_ret2
                  exact ⟨HQ10.out.bel, .inr ⟨HAll.out, .inr ⟨HNZ.out, .inl ⟨_, out, _, hk, HST.out, HG.out, rfl, HO10.out⟩⟩⟩⟩
                · have HNO : Hid (bey2 VF VB VT out.length = false) := hide (by rw [HBY1.out]; exact decide_eq_false hC)
                  by_cases hmax : out.length = 4096
                  · have hm4 : ((out.length : Int) == 4096) = true := by rw [hmax]; rfl
                    have HR : Hid (∀ i, i ≤ 4096 → bey2 VF VB VT i = false) := hide (fun i hi => by
                      rcases Nat.lt_or_ge i out.length with h | h
                      · exact HN.out i h
                      · rw [show i = out.length by omega]; exact HNO.out)
                    clear hmax
                    go_wp2_with fail
                    go_ret2
                    exact ⟨HQ10.out.bel, .inr ⟨HAll.out, .inr ⟨HNZ.out, .inr ⟨HR.out, rfl⟩⟩⟩⟩
                  · have hm4 : ((out.length : Int) == 4096) = false := by simp; omega
                    have hcut := fun V => decCut_any (F + (out.length : Int) * B) e d sc sc V HX.out (by omega) (Nat.le_refl _) (by omega)
                    rw [Nat.sub_self, Int.pow_zero, Int.mul_one] at hcut
                    have HCUT := hide hcut
                    clear hcut
                    obtain ⟨p0, p1, p2⟩ := HD10.out.cells
                    go_wp2_with fail
                    refine (HCUT.out _).mono ?_
                    rintro e2 w11 ⟨⟨bt, dt, rfl, hxt⟩, hb11⟩
                    have HXT := hide hxt
                    have HQ11 := hide (HQ10.out.next hb11 rfl rfl rfl rfl (Nat.le_refl _))
                    have HD11 := hide (HD10.out.below hb11 HD10.out.lt)
                    have HO11 : Hid (OwnS 9 w11 (w5.heap.size + 1) (.slice OA out.length oc) out) := hide (own_below HO10.out hb11)
                    have HSZ11 : Hid (w5.heap.size + 1 ≤ w11.heap.size) := hide (Nat.le_trans HSZ10.out hb11.size)
                    have HTX := hide (fun V => decText_any bt dt sc V (HXT.out.size HFk.out) (by omega))
                    clear hb11 hxt p0 p1 p2
                    go_wp2_with fail
                    refine (HTX.out _).mono ?_
                    rintro e3 w12 ⟨rfl, hb12⟩
                    obtain ⟨y, hy⟩ : ∃ y, exTx bt dt.data.toList sc sc = y := ⟨_, rfl⟩
                    have HG2 := hide (HG.out.push (t := y) ⟨bt, dt, HXT.out, hy.symm⟩)
                    have HN2 : Hid (∀ i, i < (out ++ [y]).length → bey2 VF VB VT i = false) := hide (fun i hi => by
                      rw [List.length_append] at hi
                      rcases Nat.lt_or_ge i out.length with h | h
                      · exact HN.out i h
                      · have : i = out.length := by simp at hi; omega
                        rw [this]; exact HNO.out)
                    have HL2 : Hid ((out ++ [y]).length ≤ 4096) := hide (by rw [List.length_append]; simp; omega)
                    rw [hy]
                    have HQ12 := hide (HQ11.out.next hb12 rfl rfl rfl rfl (Nat.le_refl _))
                    have HD12 := hide (HD11.out.below hb12 HD11.out.lt)
                    have HO12 : Hid (OwnS 9 w12 (w5.heap.size + 1) (.slice OA out.length oc) out) := hide (own_below HO11.out hb12)
                    have hzz : w5.heap.size + 1 ≤ w12.heap.size := Nat.le_trans HSZ11.out hb12.size
                    have HDL : Hid (out.length ≤ 1000000000) := hide (by omega)
                    clear hb12 hy HTX HXT HCUT
                    go_wp2_with (at_builtin; refine wpList_app_far rfl _ _ rfl (w5.heap.size + 1) _ _ rfl HO12.out rfl HDL.out hzz ?_)
                    intro ga c2 w13 ho13 hb13 hbl hown hga hsz
                    have HO13 := hide ho13
                    have HQ13 := hide (HQ12.out.base hb13 (by have := HlN.out; omega))
                    have HD13 : Hid (DAt w13 g 71 e d sc) := hide (by have h := HD12.out; unfold DAt at h ⊢; rw [hbl g HD12.out.lt HNG.out]; exact h)
                    have HSZ13 : Hid (w5.heap.size + 1 ≤ w13.heap.size) := hide (by omega)
                    have HQ14 := hide (HQ13.out.alloc (.cells #[.bool e, .string d, .int .i64 (sc : Int)] 71))
                    have HD14 := hide (dat_new w13 71 e d sc)
                    have HO14 : Hid (OwnS 9 (w13.alloc (.cells #[.bool e, .string d, .int .i64 (sc : Int)] 71)) (w5.heap.size + 1) (.slice (some ⟨ga, 0, none⟩) (out.length + 1) c2) (out ++ [y])) := hide (own_below HO13.out (alloc_under _ _))
                    have HSZ14 : Hid ((w13.alloc (.cells #[.bool e, .string d, .int .i64 (sc : Int)] 71)).heap.size = w13.heap.size + 1) := hide (by simp)
                    have HGA : Hid (ga < w13.heap.size) := hide hga
                    clear ho13 hb13 hbl hown hga hsz hzz
                    obtain ⟨p0, p1, p2⟩ := HD13.out.cells
                    obtain ⟨n0, n1, n2⟩ := HD14.out.cells
                    obtain ⟨k0, k1, k2, k3, k4, k5, k6, k7, k8⟩ := HQ14.out.cells
                    clear k0 k1 k2 k6 k7 k8
                    have hplus := fun V => decPlus_any (F + (out.length : Int) * B) (dVal b.data.toList) e b1 d d1 sc pb sc V HX.out HEB.out (by omega) HZB.out (by omega) (by omega) (by rw [Nat.sub_self, Int.pow_zero, Int.mul_one]; exact lt1000 HFk.out) (by rw [HeB.out]; exact lt1000 (lt60 HB1.out))
                    rw [Nat.sub_self, Int.pow_zero, Int.mul_one, HeB.out] at hplus
                    have HPLUS := hide hplus
                    clear hplus
                    go_wp2_with fail
                    refine (HPLUS.out _).mono ?_
                    rintro e4 w15 ⟨⟨e', d', rfl, hx'⟩, hb15⟩
                    have HX15 : Hid (ExI (F + ((out ++ [y]).length : Int) * B) e' d') := hide (by
                      have e5 : F + ((out ++ [y]).length : Int) * B = F + (out.length : Int) * B + B := by
                        rw [List.length_append, show ((out.length + [y].length : Nat) : Int) = (out.length : Int) + 1 by simp, Int.add_mul, Int.one_mul]; omega
                      rw [e5]; exact hx')
                    have HQ15 := hide (HQ14.out.next hb15 rfl rfl rfl rfl (Nat.le_refl _))
                    have HD15 := hide (HD14.out.below hb15 HD14.out.lt)
                    have HO15 : Hid (OwnS 9 w15 (w5.heap.size + 1) (.slice (some ⟨ga, 0, none⟩) (out.length + 1) c2) (out ++ [y])) := hide (own_below HO14.out hb15)
                    have HSZ15 : Hid (w5.heap.size + 1 ≤ w15.heap.size) := hide (by have h1 := hb15.size; have h2 := HSZ14.out; have h3 := HSZ13.out; omega)
                    clear hx' hb15 p0 p1 p2 n0 n1 n2 k3 k4 k5 HPLUS
                    have g0 := HD15.out.frozen 0
                    have g1 := HD15.out.frozen 1
                    have g2 := HD15.out.frozen 2
                    obtain ⟨n0, n1, n2⟩ := HD15.out.cells
                    have HgN : Hid (w.heap.size + 1 + 1 < w13.heap.size) := hide HQ13.out.lt
                    have HD16 := hide (HD15.out.set e' d' sc)
                    have HQ16 := hide (HQ15.out.far HgN.out (.bool e') (.string d') (.int .i64 (sc : Int)))
                    have HNE2 : Hid (∀ k, (Value.slice (some ⟨ga, 0, none⟩) (out.length + 1) c2).ownBlock = some k → k ≠ w13.heap.size) := hide (fun k hk => by have h1 : ga = k := Option.some.inj hk; have h2 := HGA.out; omega)
                    have HO16 := hide (own_set2 (j := 2) (own_set2 (j := 1) (own_set2 (j := 0) HO15.out HNE2.out (.bool e')) HNE2.out (.string d')) HNE2.out (.int .i64 (sc : Int)))
                    have HNG2 : Hid ((Value.slice (some ⟨ga, 0, none⟩) (out.length + 1) c2).ownBlock ≠ some w13.heap.size) := hide (fun h => HNE2.out _ h rfl)
                    have HSZ16 : Hid (w5.heap.size + 1 ≤ (((w15.setCell ⟨w13.heap.size, 0, none⟩ (.bool e')).setCell ⟨w13.heap.size, 1, none⟩ (.string d')).setCell ⟨w13.heap.size, 2, none⟩ (.int .i64 (sc : Int))).heap.size) := hide (by have := HSZ15.out; simpa using this)
                    go_wp2_with fail
                    go_roundw
                    case rel => first | exact ⟨out ++ [y], e', d', w13.heap.size, rfl, HgN.out, HL2.out, HO16, HNG2, HSZ16, HQ16, HD16, HX15, HG2, HN2⟩ | ((repeat apply Exists.intro); exact ⟨⟨out ++ [y], e', d', w13.heap.size, rfl, HgN.out, HL2.out, HO16, HNG2, HSZ16, HQ16, HD16, HX15, HG2, HN2⟩, rfl⟩)
                    case measure => simp [slN]; omega
end Go.Proofs.YtoieicdnehnacaaGreatDoor
