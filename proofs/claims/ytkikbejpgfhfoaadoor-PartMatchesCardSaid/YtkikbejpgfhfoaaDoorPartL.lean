/- The law PartMatches: its walk. -/
import Derived.Test.YtkikbejpgfhfoaaDoorPartM
set_option linter.unusedVariables false
set_option linter.unusedSimpArgs false
namespace Go.Proofs.YtkikbejpgfhfoaaDoor
open Go.RowKit Go.Pw
set_option maxHeartbeats 4000000 in
set_option maxRecDepth 100000 in
theorem partMatches_small (k : Int) (b : Bool) (n : Int) (s : ByteArray) (T : ByteArray) (E : Int) (w : World) (hs : s.size ≤ 65536) (he : partErr k n s = E) (hT : E ≠ 0 → T = ⟨#[]⟩)
    (HP : ∀ W, Calls Tryd.prog 43 #[.agg #[.int .i64 k, .bool b, .int .i64 n], .string s] W fun e w' => e = .returned (.tuple #[.string T, .int .i64 E]) ∧ Below W.heap.size W w')
    (HPO : E = 0 → ∀ W, Calls Tryd.prog 46 #[.agg #[.int .i64 k, .bool b, .int .i64 n], .string s] W fun e w' => e = .returned (.string T) ∧ Below W.heap.size W w') :
    Calls Tryd.prog 10 #[.agg #[.int .i64 k, .bool b, .int .i64 n], .string s] w fun e w' => e = .returned (.bool true) ∧ Below w.heap.size w w' := by
  have c0 : (w.alloc (.cells #[.int .i64 k, .bool b, .int .i64 n] 71)).cell? ⟨w.heap.size, 0, none⟩ = some (.int .i64 k) := by rw [World.cell?_alloc_new]; rfl
  have c1 : (w.alloc (.cells #[.int .i64 k, .bool b, .int .i64 n] 71)).cell? ⟨w.heap.size, 1, none⟩ = some (.bool b) := by rw [World.cell?_alloc_new]; rfl
  have c2 : (w.alloc (.cells #[.int .i64 k, .bool b, .int .i64 n] 71)).cell? ⟨w.heap.size, 2, none⟩ = some (.int .i64 n) := by rw [World.cell?_alloc_new]; rfl
  have HB0 := hide ((Below.refl w.heap.size w).alloc (Nat.le_refl _) (.cells #[.int .i64 k, .bool b, .int .i64 n] 71))
  obtain ⟨rk, rn, x1, x2, x3, e0, g1, g2, g3, g4, g5⟩ := partWhens k n s (by unfold maxLen; omega)
  rw [he] at e0
  have HF := hide e0
  have HG1 := hide g1
  have HG2 := hide g2
  have HG3 := hide g3
  have HG4 := hide g4
  have HG5 : Hid (∀ W : World, Calls Tryd.prog 22 #[.slice (some ⟨W.heap.size, 0, none⟩) 1 1] ((W.alloc (.cells #[.string s] 9)).drew) fun e w' => e = .returned (.int .i64 x3) ∧ Below W.heap.size W w') := hide (fun W => (g5 W.drew).mono fun e w' ⟨h1, h2⟩ => ⟨h1, ⟨h2.os, h2.tape, h2.output, h2.size, h2.block⟩⟩)
  have HP := hide HP
  have HPO := hide HPO
  have HT := hide hT
  have HCT := hide (fun W => count_good s W hs)
  have HCO := hide (fun W => countsOf_any s W hs)
  unfold Cts.cells at HCO
  obtain ⟨W1, hW1⟩ : ∃ W1, w.alloc (.cells #[.int .i64 k, .bool b, .int .i64 n] 71) = W1 := ⟨_, rfl⟩
  have hz0 : W1.heap.size = w.heap.size + 1 := by rw [← hW1]; simp
  rw [hW1] at HB0 c0 c1 c2
  have HW1 := hide hW1
  have HZ0 := hide hz0
  clear e0 g1 g2 g3 g4 g5 he hW1 hz0 hT
  go_enter Tryd.func10, Tryd.ntmps10
  go_wp2_with fail
  rw [HW1.out]
  refine (HP.out _).mono ?_
  rintro e w1 ⟨rfl, hb1⟩
  have hz1 := HZ0.out
  have d0 : w1.cell? ⟨w.heap.size, 0, none⟩ = some (.int .i64 k) := (hb1.cell (p := ⟨w.heap.size, 0, none⟩) (by show w.heap.size < _; omega)).trans c0
  have d1 : w1.cell? ⟨w.heap.size, 1, none⟩ = some (.bool b) := (hb1.cell (p := ⟨w.heap.size, 1, none⟩) (by show w.heap.size < _; omega)).trans c1
  have d2 : w1.cell? ⟨w.heap.size, 2, none⟩ = some (.int .i64 n) := (hb1.cell (p := ⟨w.heap.size, 2, none⟩) (by show w.heap.size < _; omega)).trans c2
  have hlt1 : w.heap.size < w1.heap.size := by have := hb1.size; omega
  have HB1 := hide (HB0.out.trans (hb1.mono HB0.out.size))
  clear hb1 c0 c1 c2 hz1
  go_wp2_with fail
  go_region_held3 (fun w' => w'.cell? ⟨w.heap.size, 0, none⟩ = some (.int .i64 k) ∧ w'.cell? ⟨w.heap.size, 2, none⟩ = some (.int .i64 n)) (go_keep) (first
    | (go_at_call 32; (with_reducible refine (HG1.out _).mono ?_); rintro e w' ⟨rfl, rfl⟩)
    | (go_at_call 32; (with_reducible refine (HG2.out _).mono ?_); rintro e w' ⟨rfl, rfl⟩)
    | (go_at_call 16; (with_reducible refine (HG3.out _).mono ?_); rintro e w' ⟨rfl, rfl⟩)
    | (go_at_call 16; (with_reducible refine (HG4.out _).mono ?_); rintro e w' ⟨rfl, rfl⟩)
    | (go_at_call 22; (with_reducible refine (HG5.out w1).mono ?_); rintro e w2 ⟨rfl, hb2⟩; have q0 : w2.cell? ⟨w.heap.size, 0, none⟩ = some (.int .i64 k) := (hb2.cell (p := ⟨w.heap.size, 0, none⟩) hlt1).trans d0; have q2 : w2.cell? ⟨w.heap.size, 2, none⟩ = some (.int .i64 n) := (hb2.cell (p := ⟨w.heap.size, 2, none⟩) hlt1).trans d2)
    | (go_at_call 14; (with_reducible refine (firstThree_any w2 x1 x2 x3).mono ?_); rintro e w3 ⟨rfl, rfl⟩))
  all_goals
    rw [← HF.out]
    have HB2 := hide (HB1.out.trans (hb2.mono HB1.out.size))
    have HB3 := hide (HB2.out.alloc HB2.out.size (.cells #[.int .i64 x1, .int .i64 x2, .int .i64 x3] 25))
    have hlt2 : w.heap.size < w2.heap.size := by have := hb2.size; omega
    have hal := (Below.refl w2.heap.size w2).alloc (Nat.le_refl _) (.cells #[.int .i64 x1, .int .i64 x2, .int .i64 x3] 25)
    have r0 : (w2.alloc (.cells #[.int .i64 x1, .int .i64 x2, .int .i64 x3] 25)).cell? ⟨w.heap.size, 0, none⟩ = some (.int .i64 k) := (hal.cell (p := ⟨w.heap.size, 0, none⟩) hlt2).trans ((hb2.cell (p := ⟨w.heap.size, 0, none⟩) hlt1).trans d0)
    have r1 : (w2.alloc (.cells #[.int .i64 x1, .int .i64 x2, .int .i64 x3] 25)).cell? ⟨w.heap.size, 1, none⟩ = some (.bool b) := (hal.cell (p := ⟨w.heap.size, 1, none⟩) hlt2).trans ((hb2.cell (p := ⟨w.heap.size, 1, none⟩) hlt1).trans d1)
    have r2 : (w2.alloc (.cells #[.int .i64 x1, .int .i64 x2, .int .i64 x3] 25)).cell? ⟨w.heap.size, 2, none⟩ = some (.int .i64 n) := (hal.cell (p := ⟨w.heap.size, 2, none⟩) hlt2).trans ((hb2.cell (p := ⟨w.heap.size, 2, none⟩) hlt1).trans d2)
    obtain ⟨W3, hW3⟩ : ∃ W3, w2.alloc (.cells #[.int .i64 x1, .int .i64 x2, .int .i64 x3] 25) = W3 := ⟨_, rfl⟩
    have hlt3 : w.heap.size < W3.heap.size := by rw [← hW3]; simp; omega
    rw [hW3] at HB3 r0 r1 r2 ⊢
    clear hW3 hal hb2 d0 d1 d2 hlt1 hlt2 HG1 HG2 HG3 HG4 HG5 HP
    go_wp2_with fail
    refine (HCT.out _).mono ?_
    rintro e w4 ⟨rfl, hb4⟩
    have t0 := (hb4.cell (p := ⟨w.heap.size, 0, none⟩) hlt3).trans r0
    have t1 := (hb4.cell (p := ⟨w.heap.size, 1, none⟩) hlt3).trans r1
    have t2 := (hb4.cell (p := ⟨w.heap.size, 2, none⟩) hlt3).trans r2
    have HB4 := hide (HB3.out.trans (hb4.mono HB3.out.size))
    have hlt4 : w.heap.size < w4.heap.size := by have := hb4.size; omega
    have hd6 : ¬ ((65536 : Int) < (s.size : Int)) := by omega
    unfold Cts.cells
    clear hb4 r0 r1 r2 hlt3
    go_wp2_with fail
    have v0 : (w4.alloc (.cells #[.int .i64 (ctsOf s).lines, .int .i64 (ctsOf s).words, .int .i64 (ctsOf s).bytes, .int .i64 (ctsOf s).long] 74)).cell? ⟨w4.heap.size, 0, none⟩ = some (.int .i64 (ctsOf s).lines) := by rw [World.cell?_alloc_new]; rfl
    have v1 : (w4.alloc (.cells #[.int .i64 (ctsOf s).lines, .int .i64 (ctsOf s).words, .int .i64 (ctsOf s).bytes, .int .i64 (ctsOf s).long] 74)).cell? ⟨w4.heap.size, 1, none⟩ = some (.int .i64 (ctsOf s).words) := by rw [World.cell?_alloc_new]; rfl
    have v2 : (w4.alloc (.cells #[.int .i64 (ctsOf s).lines, .int .i64 (ctsOf s).words, .int .i64 (ctsOf s).bytes, .int .i64 (ctsOf s).long] 74)).cell? ⟨w4.heap.size, 2, none⟩ = some (.int .i64 (ctsOf s).bytes) := by rw [World.cell?_alloc_new]; rfl
    have v3 : (w4.alloc (.cells #[.int .i64 (ctsOf s).lines, .int .i64 (ctsOf s).words, .int .i64 (ctsOf s).bytes, .int .i64 (ctsOf s).long] 74)).cell? ⟨w4.heap.size, 3, none⟩ = some (.int .i64 (ctsOf s).long) := by rw [World.cell?_alloc_new]; rfl
    have hal := (Below.refl w4.heap.size w4).alloc (Nat.le_refl _) (.cells #[.int .i64 (ctsOf s).lines, .int .i64 (ctsOf s).words, .int .i64 (ctsOf s).bytes, .int .i64 (ctsOf s).long] 74)
    have HB5 := hide (HB4.out.trans (hal.mono HB4.out.size))
    have o0 := (hal.cell (p := ⟨w.heap.size, 0, none⟩) hlt4).trans t0
    have o1 := (hal.cell (p := ⟨w.heap.size, 1, none⟩) hlt4).trans t1
    have o2 := (hal.cell (p := ⟨w.heap.size, 2, none⟩) hlt4).trans t2
    obtain ⟨W5, hW5⟩ : ∃ W5, w4.alloc (.cells #[.int .i64 (ctsOf s).lines, .int .i64 (ctsOf s).words, .int .i64 (ctsOf s).bytes, .int .i64 (ctsOf s).long] 74) = W5 := ⟨_, rfl⟩
    have hlt5 : w.heap.size < W5.heap.size ∧ w4.heap.size < W5.heap.size := by rw [← hW5]; simp; omega
    rw [hW5] at v0 v1 v2 v3 HB5 o0 o1 o2 ⊢
    obtain ⟨hl5, hl6⟩ := hlt5
    clear hW5 hal t0 t1 t2 HCT
    go_region_held3 (fun w' => w'.cell? ⟨w4.heap.size, 0, none⟩ = some (.int .i64 (ctsOf s).lines) ∧ w'.cell? ⟨w4.heap.size, 1, none⟩ = some (.int .i64 (ctsOf s).words) ∧ w'.cell? ⟨w4.heap.size, 2, none⟩ = some (.int .i64 (ctsOf s).bytes) ∧ w'.cell? ⟨w4.heap.size, 3, none⟩ = some (.int .i64 (ctsOf s).long)) (go_keep) ((go_at_call 45; (with_reducible refine (HCO.out W5.drew).mono ?_); rintro e w6 ⟨rfl, hb6⟩; have u0 : w6.cell? ⟨w4.heap.size, 0, none⟩ = some (.int .i64 (ctsOf s).lines) := (hb6.cell (p := ⟨w4.heap.size, 0, none⟩) hl6).trans v0; have u1 : w6.cell? ⟨w4.heap.size, 1, none⟩ = some (.int .i64 (ctsOf s).words) := (hb6.cell (p := ⟨w4.heap.size, 1, none⟩) hl6).trans v1; have u2 : w6.cell? ⟨w4.heap.size, 2, none⟩ = some (.int .i64 (ctsOf s).bytes) := (hb6.cell (p := ⟨w4.heap.size, 2, none⟩) hl6).trans v2; have u3 : w6.cell? ⟨w4.heap.size, 3, none⟩ = some (.int .i64 (ctsOf s).long) := (hb6.cell (p := ⟨w4.heap.size, 3, none⟩) hl6).trans v3))
    have HB6 := hide (HB5.out.trans (show Below w.heap.size W5 w6 from ⟨hb6.os, hb6.tape, hb6.output, hb6.size, fun j hj => hb6.block j (by show j < W5.heap.size; omega)⟩))
    have z0 : w6.cell? ⟨w.heap.size, 0, none⟩ = some (.int .i64 k) := (hb6.cell (p := ⟨w.heap.size, 0, none⟩) hl5).trans o0
    have z1 : w6.cell? ⟨w.heap.size, 1, none⟩ = some (.bool b) := (hb6.cell (p := ⟨w.heap.size, 1, none⟩) hl5).trans o1
    have z2 : w6.cell? ⟨w.heap.size, 2, none⟩ = some (.int .i64 n) := (hb6.cell (p := ⟨w.heap.size, 2, none⟩) hl5).trans o2
    have hl7 : w.heap.size < w6.heap.size := Nat.lt_of_lt_of_le hl5 hb6.size
    clear hb6 u0 u1 u2 u3 v0 v1 v2 v3 o0 o1 o2 HCO HB1 HB2 HB3 HB4 HB5 hl5 hl6
    by_cases hE : E = 0
    · subst hE
      have HPX := hide (HPO.out (by first | trivial | rfl))
      clear HPO HT HF
      go_wp2_with fail
      refine (sorts_any _).mono ?_
      rintro e w7 ⟨rfl, hb7⟩
      have HB7 := hide (HB6.out.trans (hb7.mono HB6.out.size))
      have y0 := (hb7.cell (p := ⟨w.heap.size, 0, none⟩) hl7).trans z0
      have y1 := (hb7.cell (p := ⟨w.heap.size, 1, none⟩) hl7).trans z1
      have y2 := (hb7.cell (p := ⟨w.heap.size, 2, none⟩) hl7).trans z2
      clear hb7 z0 z1 z2
      go_wp2_with fail
      refine (HPX.out _).mono ?_
      rintro e w8 ⟨rfl, hb8⟩
      have HB8 := hide (HB7.out.trans (hb8.mono HB7.out.size))
      clear hb8
      go_wp2_with fail
      refine (outcome_good _ _).mono ?_
      rintro e w' ⟨rfl, rfl⟩
      go_wp2_with fail
      go_ret
      exact ⟨rfl, HB8.out⟩
    · have hTT := HT.out hE
      subst hTT
      have hnb : (E != 0) = true := by simpa using hE
      have HE := hide hE
      clear HPO HT HF hE
      go_wp2_with fail
      refine (sorts_any _).mono ?_
      rintro e w7 ⟨rfl, hb7⟩
      have HB7 := hide (HB6.out.trans (hb7.mono HB6.out.size))
      clear hb7
      go_wp2_with fail
      refine (outcome_bad _ _ _ HE.out).mono ?_
      rintro e w' ⟨rfl, rfl⟩
      go_wp2_with fail
      go_ret
      exact ⟨rfl, HB7.out⟩
set_option maxHeartbeats 4000000 in
set_option maxRecDepth 100000 in
theorem partMatches_big (k : Int) (b : Bool) (n : Int) (s : ByteArray) (E : Int) (w : World) (hs : 65536 < s.size) (hm : s.size ≤ maxLen) (he : partErr k n s = E) (hE : E ≠ 0)
    (HP : ∀ W, Calls Tryd.prog 43 #[.agg #[.int .i64 k, .bool b, .int .i64 n], .string s] W fun e w' => e = .returned (.tuple #[.string ⟨#[]⟩, .int .i64 E]) ∧ Below W.heap.size W w') :
    Calls Tryd.prog 10 #[.agg #[.int .i64 k, .bool b, .int .i64 n], .string s] w fun e w' => e = .returned (.bool true) ∧ Below w.heap.size w w' := by
  have c0 : (w.alloc (.cells #[.int .i64 k, .bool b, .int .i64 n] 71)).cell? ⟨w.heap.size, 0, none⟩ = some (.int .i64 k) := by rw [World.cell?_alloc_new]; rfl
  have c1 : (w.alloc (.cells #[.int .i64 k, .bool b, .int .i64 n] 71)).cell? ⟨w.heap.size, 1, none⟩ = some (.bool b) := by rw [World.cell?_alloc_new]; rfl
  have c2 : (w.alloc (.cells #[.int .i64 k, .bool b, .int .i64 n] 71)).cell? ⟨w.heap.size, 2, none⟩ = some (.int .i64 n) := by rw [World.cell?_alloc_new]; rfl
  have HB0 := hide ((Below.refl w.heap.size w).alloc (Nat.le_refl _) (.cells #[.int .i64 k, .bool b, .int .i64 n] 71))
  obtain ⟨rk, rn, x1, x2, x3, e0, g1, g2, g3, g4, g5⟩ := partWhens k n s hm
  rw [he] at e0
  have HF := hide e0
  have HG1 := hide g1
  have HG2 := hide g2
  have HG3 := hide g3
  have HG4 := hide g4
  have HG5 : Hid (∀ W : World, Calls Tryd.prog 22 #[.slice (some ⟨W.heap.size, 0, none⟩) 1 1] ((W.alloc (.cells #[.string s] 9)).drew) fun e w' => e = .returned (.int .i64 x3) ∧ Below W.heap.size W w') := hide (fun W => (g5 W.drew).mono fun e w' ⟨h1, h2⟩ => ⟨h1, ⟨h2.os, h2.tape, h2.output, h2.size, h2.block⟩⟩)
  have HP := hide HP
  have HE := hide hE
  have hnb0 : (E != 0) = true := by simpa using hE
  have HCT := hide (fun W => count_big s W hs hm)
  obtain ⟨W1, hW1⟩ : ∃ W1, w.alloc (.cells #[.int .i64 k, .bool b, .int .i64 n] 71) = W1 := ⟨_, rfl⟩
  have hz0 : W1.heap.size = w.heap.size + 1 := by rw [← hW1]; simp
  rw [hW1] at HB0 c0 c1 c2
  have HW1 := hide hW1
  have HZ0 := hide hz0
  clear e0 g1 g2 g3 g4 g5 he hW1 hz0
  go_enter Tryd.func10, Tryd.ntmps10
  go_wp2_with fail
  rw [HW1.out]
  refine (HP.out _).mono ?_
  rintro e w1 ⟨rfl, hb1⟩
  have hz1 := HZ0.out
  have d0 : w1.cell? ⟨w.heap.size, 0, none⟩ = some (.int .i64 k) := (hb1.cell (p := ⟨w.heap.size, 0, none⟩) (by show w.heap.size < _; omega)).trans c0
  have d1 : w1.cell? ⟨w.heap.size, 1, none⟩ = some (.bool b) := (hb1.cell (p := ⟨w.heap.size, 1, none⟩) (by show w.heap.size < _; omega)).trans c1
  have d2 : w1.cell? ⟨w.heap.size, 2, none⟩ = some (.int .i64 n) := (hb1.cell (p := ⟨w.heap.size, 2, none⟩) (by show w.heap.size < _; omega)).trans c2
  have hlt1 : w.heap.size < w1.heap.size := by have := hb1.size; omega
  have HB1 := hide (HB0.out.trans (hb1.mono HB0.out.size))
  clear hb1 c0 c1 c2 hz1
  go_wp2_with fail
  go_region_held3 (fun w' => w'.cell? ⟨w.heap.size, 0, none⟩ = some (.int .i64 k) ∧ w'.cell? ⟨w.heap.size, 2, none⟩ = some (.int .i64 n)) (go_keep) (first
    | (go_at_call 32; (with_reducible refine (HG1.out _).mono ?_); rintro e w' ⟨rfl, rfl⟩)
    | (go_at_call 32; (with_reducible refine (HG2.out _).mono ?_); rintro e w' ⟨rfl, rfl⟩)
    | (go_at_call 16; (with_reducible refine (HG3.out _).mono ?_); rintro e w' ⟨rfl, rfl⟩)
    | (go_at_call 16; (with_reducible refine (HG4.out _).mono ?_); rintro e w' ⟨rfl, rfl⟩)
    | (go_at_call 22; (with_reducible refine (HG5.out w1).mono ?_); rintro e w2 ⟨rfl, hb2⟩; have q0 : w2.cell? ⟨w.heap.size, 0, none⟩ = some (.int .i64 k) := (hb2.cell (p := ⟨w.heap.size, 0, none⟩) hlt1).trans d0; have q2 : w2.cell? ⟨w.heap.size, 2, none⟩ = some (.int .i64 n) := (hb2.cell (p := ⟨w.heap.size, 2, none⟩) hlt1).trans d2)
    | (go_at_call 14; (with_reducible refine (firstThree_any w2 x1 x2 x3).mono ?_); rintro e w3 ⟨rfl, rfl⟩))
  all_goals
    rw [← HF.out]
    have HB2 := hide (HB1.out.trans (hb2.mono HB1.out.size))
    have HB3 := hide (HB2.out.alloc HB2.out.size (.cells #[.int .i64 x1, .int .i64 x2, .int .i64 x3] 25))
    have hlt2 : w.heap.size < w2.heap.size := by have := hb2.size; omega
    have hal := (Below.refl w2.heap.size w2).alloc (Nat.le_refl _) (.cells #[.int .i64 x1, .int .i64 x2, .int .i64 x3] 25)
    have r0 : (w2.alloc (.cells #[.int .i64 x1, .int .i64 x2, .int .i64 x3] 25)).cell? ⟨w.heap.size, 0, none⟩ = some (.int .i64 k) := (hal.cell (p := ⟨w.heap.size, 0, none⟩) hlt2).trans ((hb2.cell (p := ⟨w.heap.size, 0, none⟩) hlt1).trans d0)
    have r1 : (w2.alloc (.cells #[.int .i64 x1, .int .i64 x2, .int .i64 x3] 25)).cell? ⟨w.heap.size, 1, none⟩ = some (.bool b) := (hal.cell (p := ⟨w.heap.size, 1, none⟩) hlt2).trans ((hb2.cell (p := ⟨w.heap.size, 1, none⟩) hlt1).trans d1)
    have r2 : (w2.alloc (.cells #[.int .i64 x1, .int .i64 x2, .int .i64 x3] 25)).cell? ⟨w.heap.size, 2, none⟩ = some (.int .i64 n) := (hal.cell (p := ⟨w.heap.size, 2, none⟩) hlt2).trans ((hb2.cell (p := ⟨w.heap.size, 2, none⟩) hlt1).trans d2)
    obtain ⟨W3, hW3⟩ : ∃ W3, w2.alloc (.cells #[.int .i64 x1, .int .i64 x2, .int .i64 x3] 25) = W3 := ⟨_, rfl⟩
    have hlt3 : w.heap.size < W3.heap.size := by rw [← hW3]; simp; omega
    rw [hW3] at HB3 r0 r1 r2 ⊢
    clear hW3 hal hb2 d0 d1 d2 hlt1 hlt2 HG1 HG2 HG3 HG4 HG5 HP
    go_wp2_with fail
    refine (HCT.out _).mono ?_
    rintro e w4 ⟨rfl, hb4⟩
    have t0 := (hb4.cell (p := ⟨w.heap.size, 0, none⟩) hlt3).trans r0
    have t1 := (hb4.cell (p := ⟨w.heap.size, 1, none⟩) hlt3).trans r1
    have t2 := (hb4.cell (p := ⟨w.heap.size, 2, none⟩) hlt3).trans r2
    have HB4 := hide (HB3.out.trans (hb4.mono HB3.out.size))
    have hlt4 : w.heap.size < w4.heap.size := by have := hb4.size; omega
    have hd6 : ((65536 : Int) < (s.size : Int)) := by omega
    unfold Cts.cells
    dsimp only
    clear hb4 r0 r1 r2 hlt3
    go_wp2_with fail
    have HB5 := hide (HB4.out.alloc HB4.out.size (.cells #[.int .i64 0, .int .i64 0, .int .i64 0, .int .i64 0] 74))
    refine (sorts_any _).mono ?_
    rintro e w7 ⟨rfl, hb7⟩
    have HB7 := hide (HB5.out.trans (hb7.mono HB5.out.size))
    clear hb7
    have hnb : (E != 0) = true := by simpa using HE.out
    go_wp2_with fail
    refine (outcome_bad _ _ _ HE.out).mono ?_
    rintro e w' ⟨rfl, rfl⟩
    go_wp2_with fail
    go_ret
    exact ⟨rfl, HB7.out⟩
theorem partMatches_any (k : Int) (b : Bool) (n : Int) (s : ByteArray) (w : World) (hs : s.size ≤ maxLen) :
    Calls Tryd.prog 10 #[.agg #[.int .i64 k, .bool b, .int .i64 n], .string s] w fun e w' => e = .returned (.bool true) ∧ Below w.heap.size w w' := by
  by_cases he : partErr k n s = 0
  · have hp : 1 ≤ k ∧ k ≤ 4 ∧ 0 ≤ n ∧ n ≤ 65536 ∧ bigB s = false := by
      unfold partErr at he
      cases h1 : (decide (1 ≤ k) && decide (k ≤ 4))
      · rw [h1] at he; simp [firstNZ] at he
      · cases h2 : (decide (0 ≤ n) && decide (n ≤ 65536))
        · rw [h1, h2] at he; simp [firstNZ] at he
        · cases h3 : bigB s
          · simp at h1 h2
            exact ⟨h1.1, h1.2, h2.1, h2.2, rfl⟩
          · rw [h1, h2, h3] at he; simp [firstNZ] at he
    obtain ⟨k1, k2, n1, n2, hb⟩ := hp
    obtain ⟨N, rfl⟩ : ∃ N : Nat, n = (N : Int) := ⟨n.toNat, by omega⟩
    have hz : s.size ≤ 65536 := by unfold bigB at hb; simp at hb; omega
    exact partMatches_small k b N s (mkB (partL k b N s.data.toList)) 0 w hz he (fun h => absurd rfl h) (fun W => part_good k b N s W k1 k2 (by omega) hb) (fun _ W => partOf_any k b N s W k1 k2 (by omega) hz)
  · by_cases hz : s.size ≤ 65536
    · exact partMatches_small k b n s ⟨#[]⟩ _ w hz rfl (fun _ => rfl) (fun W => part_bad k b n s _ W hs he rfl) (fun h => absurd h he)
    · exact partMatches_big k b n s _ w (by omega) hs rfl he (fun W => part_bad k b n s _ W hs he rfl)
end Go.Proofs.YtkikbejpgfhfoaaDoor
