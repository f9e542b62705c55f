/- text.Sort of few lines, and that sorts() is true. -/
import Derived.Test.YtifpmigghplmoaaGreatDoorTextW
import Derived.Test.YtifpmigghplmoaaGreatDoorValid
set_option linter.unusedVariables false
set_option linter.unusedSimpArgs false
namespace Go.Pw
open Go.RowKit
theorem keysIn_but {w w' : World} {N B : Nat} {v : Value} {ks : List Ky} (h : KeysIn w v ks) (hb : But N B w w') (hN : w.heap.size ≤ N) (hB : w.heap.size ≤ B) : KeysIn w' v ks :=
  Rd.keep h hb.size fun p hp => hb.cell (by omega) (by omega)
theorem strs_of_row {w : World} {B n cap : Nat} {l : List ByteArray} (h : RowS w B 0 l) (hl : l.length ≤ cap) (hc : cap ≤ maxLen) (hs : ∀ s ∈ l, s.size ≤ maxLen) : Strs w (.slice (some ⟨B, 0, none⟩) l.length cap) l := by
  refine ⟨⟨by simp, _, _, rfl, hl, hc, fun _ => ⟨B, 0, rfl, h.1, fun j u hu => ?_⟩⟩, hs⟩
  rw [List.getElem?_map] at hu
  cases e : l[j]? with
  | none => rw [e] at hu; cases hu
  | some s => rw [e] at hu; simp at hu; subst hu; exact (h.2 j s e).1
theorem resL_le {m : Nat} : ∀ {l : List ByteArray}, (∀ s ∈ l, s.size ≤ m) → (resL l).length ≤ l.length * (m + 1)
  | [], _ => by simp [resL]
  | s :: l, h => by
    have h1 := h s (by simp)
    have h2 := resL_le (l := l) fun x hx => h x (by simp [hx])
    rw [resL, List.length_append, List.length_cons, len_size, List.length_cons, Nat.succ_mul]
    omega
/-- an order in memory -/
def SpIn (w : World) (b : Nat) (T : TypeId) (o : Sp) (kv : Value) : Prop := w.heap[b]? = some (.cells #[.string o.sep, kv, .bool o.reverse, .bool o.stable, .bool o.unique] T (0, 0))
theorem SpIn.lt {w : World} {b : Nat} {T : TypeId} {o : Sp} {kv : Value} (h : SpIn w b T o kv) : b < w.heap.size := by
  rcases Nat.lt_or_ge b w.heap.size with h' | h'
  · exact h'
  · simp [SpIn, Array.getElem?_eq_none h'] at h
theorem SpIn.below {w w' : World} {b M : Nat} {T : TypeId} {o : Sp} {kv : Value} (h : SpIn w b T o kv) (hb : Below M w w') (hM : b < M) : SpIn w' b T o kv := (hb.block b hM).trans h
theorem SpIn.but {w w' : World} {b N B : Nat} {T : TypeId} {o : Sp} {kv : Value} (h : SpIn w b T o kv) (hb : But N B w w') (hN : b < N) (hB : b ≠ B) : SpIn w' b T o kv := (hb.block b hN hB).trans h
theorem SpIn.cells {w : World} {b : Nat} {T : TypeId} {o : Sp} {kv : Value} (h : SpIn w b T o kv) : w.cell? ⟨b, 0, none⟩ = some (.string o.sep) ∧ w.cell? ⟨b, 1, none⟩ = some kv ∧ w.cell? ⟨b, 2, none⟩ = some (.bool o.reverse) ∧ w.cell? ⟨b, 3, none⟩ = some (.bool o.stable) ∧ w.cell? ⟨b, 4, none⟩ = some (.bool o.unique) := by
  refine ⟨?_, ?_, ?_, ?_, ?_⟩ <;> (rw [Lib.cell_of_heap h]; rfl)
theorem strs_one (w : World) (s : ByteArray) (t : TypeId) (hs : s.size ≤ maxLen) : Strs (w.alloc (.cells #[.string s] t)) (.slice (some ⟨w.heap.size, 0, none⟩) 1 1) [s] := by
  refine ⟨⟨rfl, _, _, rfl, Nat.le_refl _, by unfold maxLen; omega, fun _ => ⟨w.heap.size, 0, rfl, by simp, fun j u hu => ?_⟩⟩, fun x hx => by simp at hx; subst hx; exact hs⟩
  rw [World.cell?_alloc_new]
  simpa using hu
end Go.Pw
namespace Go.Proofs.YtifpmigghplmoaaGreatDoor
open Go.RowKit Go.Pw
set_option maxHeartbeats 1000000 in
theorem told_plain (o : Sp) (kv v : Value) (l : List ByteArray) (w : World) (hu : o.unique = false) (h : Strs w v l) (hlen : (resL l).length ≤ 1000000000) :
    Calls Tryz.prog 69 #[spV o kv, v] w fun e w' => e = .returned (.string (mkB (resL l))) ∧ Below w.heap.size w w' := by
  obtain ⟨sep, keys, rv, st, un⟩ := o
  dsimp only at hu
  subst hu
  have hB0 := ((Below.refl w.heap.size w).alloc (Nat.le_refl _) (.cells #[.string sep, kv, .bool rv, .bool st, .bool false] 124))
  have HR := hide (result_any v l _ (h.below hB0) hlen)
  have HB0 := hide hB0
  clear h hB0
  unfold spV
  dsimp only
  go_enter Tryz.func69, Tryz.ntmps69
  go_wp2_with fail
  refine HR.out.mono ?_
  rintro e w1 ⟨rfl, hb⟩
  have hb2 := HB0.out.trans (hb.mono (by simp))
  clear hb
  go_wp2_with fail
  go_ret
  exact ⟨rfl, hb2⟩

set_option maxHeartbeats 2000000 in
set_option maxRecDepth 100000 in
theorem sort_few (o : Sp) (kv : Value) (s : ByteArray) (w : World) (hk : KeysIn w kv o.keys) (he : ordErr o = 0) (hu : o.unique = false) (hb : bigB s = false) (h0 : 0 < (linesOf s).length) (h20 : (linesOf s).length < 20) :
    Calls Tryz.prog 28 #[spV o kv, .string s] w fun e w' => e = .returned (.tuple #[.string (mkB (resL (insL (fun x y => decide (ordCmp o x y < 0)) 0 (linesOf s).length (linesOf s)))), .int .i64 0]) ∧ Below w.heap.size w w' := by
  obtain ⟨A, cap, rfl⟩ : ∃ A cap, kv = .slice A o.keys.length cap := by
    obtain ⟨_, A, cap, h, _⟩ := hk
    exact ⟨A, cap, h⟩
  have hsz : s.size ≤ 65536 := by
    unfold bigB at hb; simp at hb; omega
  obtain ⟨hlb1, hlb2⟩ := linesOf_bound s
  have hB0 := ((Below.refl w.heap.size w).alloc (Nat.le_refl _) (.cells #[.string o.sep, (.slice A o.keys.length cap), .bool o.reverse, .bool o.stable, .bool o.unique] 73))
  have HN0 : Hid (SpIn (w.alloc (.cells #[.string o.sep, (.slice A o.keys.length cap), .bool o.reverse, .bool o.stable, .bool o.unique] 73)) w.heap.size 73 o (.slice A o.keys.length cap)) := hide (heap_alloc_new _ _)
  have HV := hide (valid_any o (.slice A o.keys.length cap) _ (hk.below hB0) (by
    unfold ordErr at he
    split at he
    · cases he
    · rename_i h; omega))
  have HGD := hide (good_of_valid he)
  have HK := hide hk
  have HB0 := hide hB0
  rw [he] at HV
  have HLB := hide hlb2
  have HBIG := hide hb
  have HU := hide hu
  obtain ⟨L, hL⟩ : ∃ L, linesOf s = L := ⟨_, rfl⟩
  have HLN := hide (lines_any s · (by omega))
  rw [hL] at h0 h20 hlb1 HLB
  simp only [hL] at HLN ⊢
  clear hk hB0 he hb hu hlb2 hL
  obtain ⟨M, hM⟩ : ∃ M, insL (fun x y => decide (ordCmp o x y < 0)) 0 L.length L = M := ⟨_, rfl⟩
  rw [hM]
  have HM := hide hM
  clear hM
  unfold spV at HV ⊢
  go_enter Tryz.func28, Tryz.ntmps28
  go_wp2_with fail
  obtain ⟨W1, hW1⟩ : ∃ W1, w.alloc (.cells #[.string o.sep, (.slice A o.keys.length cap), .bool o.reverse, .bool o.stable, .bool o.unique] 73) = W1 := ⟨_, rfl⟩
  have hz1 : W1.heap.size = w.heap.size + 1 := by rw [← hW1]; simp
  rw [hW1] at HV HB0 HN0 ⊢
  have HZ1 := hide hz1
  clear hW1 hz1
  refine HV.out.mono ?_
  rintro e w1 ⟨rfl, hb1⟩
  have n1 := HN0.out.below hb1 (by rw [HZ1.out]; omega)
  have HB1 := hide (HB0.out.trans (hb1.mono (by rw [HZ1.out]; omega)))
  have HN1 := hide n1
  clear hb1 n1 HV
  have HST := hide (sized_any _ [s] _ (strs_one w1 s 9 (by unfold maxLen; omega)))
  have e0 : ([s].any bigB) = false := by simp [HBIG.out]
  rw [e0] at HST
  clear e0
  go_wp2_with fail
  refine HST.out.mono ?_
  rintro e w2 ⟨rfl, hb2⟩
  have hb2' : Below w1.heap.size w1 w2 := ((Below.refl w1.heap.size w1).alloc (Nat.le_refl _) _).trans (hb2.mono (by simp))
  have n2 := HN1.out.below hb2' HN1.out.lt
  obtain ⟨c0, c1, c2, c3, c4⟩ := n2.cells
  have HB2 := hide (HB1.out.trans (hb2'.mono HB1.out.size))
  clear hb2 hb2' n2 HST
  have HN3 : Hid (SpIn (w2.alloc (.cells #[.string o.sep, (.slice A o.keys.length cap), .bool o.reverse, .bool o.stable, .bool o.unique] 124)) w2.heap.size 124 o (.slice A o.keys.length cap)) := hide (heap_alloc_new _ _)
  have HB3 := hide (HB2.out.alloc HB2.out.size (.cells #[.string o.sep, (.slice A o.keys.length cap), .bool o.reverse, .bool o.stable, .bool o.unique] 124))
  go_wp2_with fail
  obtain ⟨W3, hW3⟩ : ∃ W3, w2.alloc (.cells #[.string o.sep, (.slice A o.keys.length cap), .bool o.reverse, .bool o.stable, .bool o.unique] 124) = W3 := ⟨_, rfl⟩
  have hz3 : W3.heap.size = w2.heap.size + 1 := by rw [← hW3]; simp
  rw [hW3] at HN3 HB3 ⊢
  have HZ3 := hide hz3
  clear hW3 hz3 c0 c1 c2 c3 c4
  refine (HLN.out _).mono ?_
  rintro e w4 ⟨v, rfl, hr⟩
  have hb4 := linesRes_below hr
  obtain ⟨rfl, hrow⟩ := linesRes_row hr h0
  have hwz : w.heap.size ≤ W3.heap.size := HB3.out.size
  have HB4 := hide (HB3.out.trans (hb4.mono hwz))
  have HN4 := hide (HN3.out.below hb4 (by rw [HZ3.out]; omega))
  have hz4 : W3.heap.size < w4.heap.size := hrow.1
  have n4 := HN4.out.cells
  obtain ⟨c0, c1, c2, c3, c4⟩ := n4
  have hkw4 : KeysIn w4 (.slice A o.keys.length cap) o.keys := HK.out.below (HB4.out.mono (Nat.le_refl _))
  have HKW := hide hkw4
  have HSS := hide (sortStable_few (ordCmp o) (spV o (.slice A o.keys.length cap)) w4.heap.size W3.heap.size 0 L.length L w4 hz4 (Nat.le_refl _) hrow (Nat.le_refl _) (by omega) (fun x hx => Nat.le_trans (HLB.out x hx) hsz)
    (fun x y w1' hx hy hbut => compare_any o (.slice A o.keys.length cap) x y w1' (Rd.keep HK.out (Nat.le_trans HB4.out.size hbut.size) fun p hp => (hbut.cell (by have := HB4.out.size; omega) (by omega)).trans (HB4.out.cell hp)) HGD.out (by omega) (by omega)) h20)
  unfold spV at HSS
  clear hr hrow hb4 hkw4
  go_wp2_with fail
  refine HSS.out.mono ?_
  rintro e w5 ⟨rfl, hr5, hb5⟩
  have n5 := HN4.out.but hb5 HN4.out.lt (by rw [HZ3.out]; omega)
  have HB5 := hide (HB4.out.trans (hb5.below HB4.out.size hwz))
  obtain ⟨d0, d1, d2, d3, d4⟩ := n5.cells
  have hMl : M.length = L.length := by rw [← HM.out, insL_length]
  have hMs : ∀ x ∈ M, x.size ≤ 65536 := fun x hx => Nat.le_trans (HLB.out x (mem_insL (by rw [HM.out]; exact hx))) hsz
  rw [HM.out] at hr5
  have hst := strs_of_row (n := 0) (cap := L.length) hr5 (by omega) (by unfold maxLen; omega) (fun x hx => by have := hMs x hx; unfold maxLen; omega)
  rw [hMl] at hst
  have HTD := hide (told_plain o (.slice A o.keys.length cap) _ M w5 HU.out hst (by
    have := resL_le hMs
    rw [hMl] at this
    have : L.length * (65536 + 1) ≤ 20 * 65537 := Nat.mul_le_mul (by omega) (by omega)
    omega))
  unfold spV at HTD
  clear c0 c1 c2 c3 c4 n5 hr5 hb5 hst hMs hMl HSS HB4 HN4 HKW
  go_wp2_with fail
  refine HTD.out.mono ?_
  rintro e w6 ⟨rfl, hb6⟩
  have HB6 := hide (HB5.out.trans (hb6.mono HB5.out.size))
  clear hb6 d0 d1 d2 d3 d4 HTD
  go_wp2_with fail
  go_ret2
  exact ⟨rfl, HB6.out⟩

/-- the order of 'sorts' -/
def soK : Ky := ⟨1, 1, 1, 0, true, false, false, false⟩
def soO : Sp := ⟨⟨#[]⟩, [soK], false, false, false⟩
def soT : ByteArray := ⟨#[49, 48, 32, 97, 10, 57, 32, 98, 10, 57, 32, 97]⟩
theorem soRes : mkB (resL (insL (fun x y => decide (ordCmp soO x y < 0)) 0 (linesOf soT).length (linesOf soT))) = ⟨#[57, 32, 97, 10, 57, 32, 98, 10, 49, 48, 32, 97, 10]⟩ := by decide +kernel
theorem soErr : ordErr soO = 0 := by decide +kernel
theorem soBig : bigB soT = false := by decide +kernel
theorem soLen : (linesOf soT).length = 3 := by decide +kernel

set_option maxHeartbeats 1000000 in
theorem sorts_any (w : World) : Calls Tryz.prog 8 #[] w fun e w' => e = .returned (.bool true) ∧ Below w.heap.size w w' := by
  have hk : KeysIn (w.alloc (.cells #[.int .i64 1, .int .i64 1, .int .i64 1, .int .i64 0, .bool true, .bool false, .bool false, .bool false] 70)) (.slice (some ⟨w.heap.size, 0, none⟩) 1 1) soO.keys := by
    refine ⟨rfl, _, 1, rfl, Nat.le_refl _, by unfold maxLen; omega, fun _ => ⟨w.heap.size, 0, rfl, by simp, fun j u hu => ?_⟩⟩
    rw [World.cell?_alloc_new]
    simpa [kysCells, kyCells, soO, soK] using hu
  have HS := hide (sort_few soO _ soT _ hk soErr rfl soBig (by rw [soLen]; omega) (by rw [soLen]; omega))
  rw [soRes] at HS
  have HB := hide ((Below.refl w.heap.size w).alloc (Nat.le_refl _) (.cells #[.int .i64 1, .int .i64 1, .int .i64 1, .int .i64 0, .bool true, .bool false, .bool false, .bool false] 70))
  clear hk
  unfold spV soO soT at HS
  go_enter Tryz.func8, Tryz.ntmps8
  go_wp2_with fail
  refine HS.out.mono ?_
  rintro e w1 ⟨rfl, hb⟩
  have HB2 := hide (HB.out.trans (hb.mono (by simp)))
  clear hb HS
  go_wp2_with fail
  go_ret
  exact ⟨rfl, HB2.out⟩
end Go.Proofs.YtifpmigghplmoaaGreatDoor
