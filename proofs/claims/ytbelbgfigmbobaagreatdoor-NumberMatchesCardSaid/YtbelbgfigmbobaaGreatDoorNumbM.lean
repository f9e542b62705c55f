/- The law NumberMatches: the walk. -/
import Derived.Test.YtbelbgfigmbobaaGreatDoorNumbR
import Derived.Test.YtbelbgfigmbobaaGreatDoorLawK2
set_option linter.unusedVariables false
set_option linter.unusedSimpArgs false
namespace Go.Proofs.YtbelbgfigmbobaaGreatDoor
open Go.RowKit Go.Pw
theorem firstThreeN_any (w : World) (x y z : Int) : Calls Tryz.prog 10 #[.slice (some ⟨w.heap.size, 0, none⟩) 3 3] (w.alloc (.cells #[.int .i64 x, .int .i64 y, .int .i64 z] 24)) fun e w' => e = .returned (.int .i64 (firstNZ [x, y, z])) ∧ w' = w.alloc (.cells #[.int .i64 x, .int .i64 y, .int .i64 z] 24) :=
  (first_any _ [x, y, z] _ (rd_three w x y z _)).mono fun e w' ⟨h1, h2⟩ => ⟨h1, h2.symm⟩
theorem briefN_any (s : ByteArray) (w : World) : Calls Tryz.prog 13 #[.string s] w fun e w' => e = .returned (.bool (decide (s.size ≤ 3000))) ∧ w = w' := by
  go_enter Tryz.func13, Tryz.ntmps13
  go_wp2_with fail
  go_ret
  exact ⟨ret_bool (decide_eq_decide.2 (by omega)), rfl⟩
theorem largeN_any (s : ByteArray) (w : World) (hs : s.size ≤ maxLen) : Calls Tryz.prog 12 #[.slice (some ⟨w.heap.size, 0, none⟩) 1 1] ((w.alloc (.cells #[.string s] 9)).drew) fun e w' => e = .returned (.int .i64 (if bigB s then 2 else 0)) ∧ Below w.heap.size w w' :=
  (largeL_any _ [s] _ (strs_one w.drew s 9 hs)).mono fun e w' ⟨h1, h2⟩ => ⟨by rw [h1]; simp, ((Below.refl _ _).alloc (Nat.le_refl _) _).trans (show Below w.heap.size (w.alloc (.cells #[.string s] 9)) w' from ⟨h2.os, h2.tape, h2.output, h2.size, fun k hk => h2.block k (by show k < (w.alloc _).heap.size; simp; omega)⟩)⟩
set_option maxHeartbeats 64000000 in
set_option maxRecDepth 100000 in
theorem numbMatches_bad (o : Nb) (s : ByteArray) (n : Int) (w : World) (hsep : o.sep.size ≤ maxLen) (hs : s.size ≤ maxLen) (hn : n ≠ 0) (he : nbErr o s = n) :
    Calls Tryz.prog 7 #[nbV o, .string s] w fun e w' => e = .returned (.bool true) ∧ Below w.heap.size w w' := by
  have hb1 := (Below.refl w.heap.size w).alloc (Nat.le_refl _) (.cells #[.int .i64 o.start, .int .i64 o.step, .int .i64 o.width, .bool o.zeros, .bool o.empty, .string o.sep] 64)
  have n1 : NbIn (w.alloc (.cells #[.int .i64 o.start, .int .i64 o.step, .int .i64 o.width, .bool o.zeros, .bool o.empty, .string o.sep] 64)) w.heap.size 64 o := heap_alloc_new _ _
  obtain ⟨W1, hW1⟩ : ∃ W1, w.alloc (.cells #[.int .i64 o.start, .int .i64 o.step, .int .i64 o.width, .bool o.zeros, .bool o.empty, .string o.sep] 64) = W1 := ⟨_, rfl⟩
  rw [hW1] at hb1 n1
  have HB1 := hide hb1
  have HN1 := hide n1
  have HF := hide (fun W => number_bad o s n W hsep hs hn he)
  have HLG := hide (fun W => largeN_any s W hs)
  have HWa : Hid (∀ W, Calls Tryz.prog 9 #[.int .i64 o.start, .int .i64 (-1000000), .int .i64 1000000] W fun e w' => e = .returned (.bool (inR (-1000000) 1000000 o.start)) ∧ W = w') := hide (fun W => withinL_any _ _ _ W)
  have HWb : Hid (∀ W, Calls Tryz.prog 9 #[.int .i64 o.step, .int .i64 (-1000000), .int .i64 1000000] W fun e w' => e = .returned (.bool (inR (-1000000) 1000000 o.step)) ∧ W = w') := hide (fun W => withinL_any _ _ _ W)
  have HWc : Hid (∀ W, Calls Tryz.prog 9 #[.int .i64 o.width, .int .i64 0, .int .i64 1000] W fun e w' => e = .returned (.bool (inR 0 1000 o.width)) ∧ W = w') := hide (fun W => withinL_any _ _ _ W)
  have HNL : Hid (∀ W, Calls Tryz.prog 36 #[.string o.sep, .string ⟨#[10]⟩] W fun e w' => e = .returned (.bool (nbNl o)) ∧ W = w') := hide (fun W => containsNlN_any o.sep W)
  have HX : Hid (firstNZ [if (inR (-1000000) 1000000 o.start && inR (-1000000) 1000000 o.step) && inR 0 1000 o.width then 0 else 3, if nbNl o || decide (1000 < o.sep.size) then 5 else 0, if bigB s then 2 else 0] = n) := hide he
  have HN := hide hn
  have hnb : (n != 0) = true := by simpa using hn
  obtain ⟨x3, hx3⟩ : ∃ x : Int, (if bigB s then 2 else 0) = x := ⟨_, rfl⟩
  rw [hx3] at HX HLG
  obtain ⟨a, ha⟩ : ∃ a, inR (-1000000) 1000000 o.start = a := ⟨_, rfl⟩
  obtain ⟨b, hb⟩ : ∃ b, inR (-1000000) 1000000 o.step = b := ⟨_, rfl⟩
  obtain ⟨c, hc⟩ : ∃ c, inR 0 1000 o.width = c := ⟨_, rfl⟩
  obtain ⟨d, hd⟩ : ∃ d, nbNl o = d := ⟨_, rfl⟩
  simp only [ha] at HWa
  simp only [hb] at HWb
  simp only [hc] at HWc
  simp only [hd] at HNL
  simp only [ha, hb, hc, hd] at HX
  have HW1 := hide hW1
  obtain ⟨d0, d1, d2, d3, d4, d5⟩ := n1.cells
  unfold nbV at HF ⊢
  clear hb1 n1 hn he hx3 ha hb hc hd hW1
  unfold maxLen at hsep hs
  go_enter Tryz.func7, Tryz.ntmps7
  go_wp2_with fail
  (try rw [HW1.out])
  refine (HF.out _).mono ?_
  rintro e w1 ⟨rfl, hb1⟩
  have HB2 := hide (HB1.out.trans (hb1.mono HB1.out.size))
  have HN2 := hide (HN1.out.below hb1 HN1.out.lt)
  clear hb1 d0 d1 d2 d3 d4 d5
  obtain ⟨d0, d1, d2, d3, d4, d5⟩ := HN2.out.cells
  go_wp2_with fail
  refine (HWa.out _).mono ?_
  rintro e w' ⟨rfl, rfl⟩
  cases a
  · skip
    cases d
    · by_cases hlong : 1000 < o.sep.size
      · have hlong2 : (1000 : Int) < (o.sep.size : Int) := by omega
        have hlong3 : decide ((1000 : Int) < (o.sep.size : Int)) = true := by simpa using hlong2
        have HE : Hid (firstNZ [(3 : Int), 5, x3] = n) := hide (by rw [← HX.out, show decide (1000 < o.sep.size) = true by simpa using hlong]; rfl)
        have HH1 : Hid (∀ W, Calls Tryz.prog 11 #[.bool true, .int .i64 3] W fun e w' => e = .returned (.int .i64 3) ∧ W = w') := hide (fun W => when_any true 3 W)
        have HH2 : Hid (∀ W, Calls Tryz.prog 11 #[.bool true, .int .i64 5] W fun e w' => e = .returned (.int .i64 5) ∧ W = w') := hide (fun W => when_any true 5 W)
        have EN : Hid (NEnv 64 w.heap.size o w w1) := hide ⟨HN2.out, HB2.out⟩
        clear d0 d1 d2 d3 d4
        go_wp2_with fail
        go_region_held3 (fun w' => w'.cell? ⟨w.heap.size, 5, none⟩ = some (.string o.sep)) (go_keep)
          (first
            | (go_at_call 11; (with_reducible refine (HH1.out _).mono ?_); rintro e w' ⟨rfl, rfl⟩)
            | (go_at_call 11; (with_reducible refine (HH2.out _).mono ?_); rintro e w' ⟨rfl, rfl⟩)
            | (go_at_call 36; (with_reducible refine (HNL.out _).mono ?_); rintro e w' ⟨rfl, rfl⟩)
            | (go_at_call 12; (with_reducible refine (HLG.out w1).mono ?_); rintro e w3 ⟨rfl, hb3⟩; have EN := hide (NEnv.next EN.out hb3 rfl rfl rfl rfl (Nat.le_refl _)); clear hb3; have q5 := EN.out.un.cells.2.2.2.2.2)
            | (go_at_call 10; (with_reducible refine (firstThreeN_any w3 3 5 x3).mono ?_); rintro e w4 ⟨rfl, rfl⟩))
        all_goals
          rw [HE.out]
          have HB4 := hide EN.out.bel
          have HB5 := hide (HB4.out.alloc HB4.out.size (.cells #[.int .i64 3, .int .i64 5, .int .i64 x3] 24))
          obtain ⟨W3, hW3⟩ : ∃ W3, w3.alloc (.cells #[.int .i64 3, .int .i64 5, .int .i64 x3] 24) = W3 := ⟨_, rfl⟩
          have HW3 := hide hW3
          rw [hW3] at HB5
          clear hW3 EN q5
          (try rw [HW3.out])
          go_wp2_with fail
          (try rw [HW3.out])
          refine (sorts_any _).mono ?_
          rintro e w5 ⟨rfl, hb5⟩
          have HB6 := hide (below_next HB5.out hb5 rfl rfl rfl rfl HB5.out.size)
          clear hb5
          go_wp2_with fail
          refine (outcome_bad _ _ _ HN.out).mono ?_
          rintro e w' ⟨rfl, rfl⟩
          go_wp2_with fail
          go_ret
          exact ⟨rfl, HB6.out⟩
      · have hlong2 : ¬ (1000 : Int) < (o.sep.size : Int) := by omega
        have hlong3 : decide ((1000 : Int) < (o.sep.size : Int)) = false := by simpa using hlong2
        have HE : Hid (firstNZ [(3 : Int), 0, x3] = n) := hide (by rw [← HX.out, show decide (1000 < o.sep.size) = false by simpa using hlong]; rfl)
        have HH1 : Hid (∀ W, Calls Tryz.prog 11 #[.bool true, .int .i64 3] W fun e w' => e = .returned (.int .i64 3) ∧ W = w') := hide (fun W => when_any true 3 W)
        have HH2 : Hid (∀ W, Calls Tryz.prog 11 #[.bool false, .int .i64 5] W fun e w' => e = .returned (.int .i64 0) ∧ W = w') := hide (fun W => when_any false 5 W)
        have EN : Hid (NEnv 64 w.heap.size o w w1) := hide ⟨HN2.out, HB2.out⟩
        clear d0 d1 d2 d3 d4
        go_wp2_with fail
        go_region_held3 (fun w' => w'.cell? ⟨w.heap.size, 5, none⟩ = some (.string o.sep)) (go_keep)
          (first
            | (go_at_call 11; (with_reducible refine (HH1.out _).mono ?_); rintro e w' ⟨rfl, rfl⟩)
            | (go_at_call 11; (with_reducible refine (HH2.out _).mono ?_); rintro e w' ⟨rfl, rfl⟩)
            | (go_at_call 36; (with_reducible refine (HNL.out _).mono ?_); rintro e w' ⟨rfl, rfl⟩)
            | (go_at_call 12; (with_reducible refine (HLG.out w1).mono ?_); rintro e w3 ⟨rfl, hb3⟩; have EN := hide (NEnv.next EN.out hb3 rfl rfl rfl rfl (Nat.le_refl _)); clear hb3; have q5 := EN.out.un.cells.2.2.2.2.2)
            | (go_at_call 10; (with_reducible refine (firstThreeN_any w3 3 0 x3).mono ?_); rintro e w4 ⟨rfl, rfl⟩))
        all_goals
          rw [HE.out]
          have HB4 := hide EN.out.bel
          have HB5 := hide (HB4.out.alloc HB4.out.size (.cells #[.int .i64 3, .int .i64 0, .int .i64 x3] 24))
          obtain ⟨W3, hW3⟩ : ∃ W3, w3.alloc (.cells #[.int .i64 3, .int .i64 0, .int .i64 x3] 24) = W3 := ⟨_, rfl⟩
          have HW3 := hide hW3
          rw [hW3] at HB5
          clear hW3 EN q5
          (try rw [HW3.out])
          go_wp2_with fail
          (try rw [HW3.out])
          refine (sorts_any _).mono ?_
          rintro e w5 ⟨rfl, hb5⟩
          have HB6 := hide (below_next HB5.out hb5 rfl rfl rfl rfl HB5.out.size)
          clear hb5
          go_wp2_with fail
          refine (outcome_bad _ _ _ HN.out).mono ?_
          rintro e w' ⟨rfl, rfl⟩
          go_wp2_with fail
          go_ret
          exact ⟨rfl, HB6.out⟩
    · have HE : Hid (firstNZ [(3 : Int), 5, x3] = n) := hide (by rw [← HX.out]; rfl)
      have HH1 : Hid (∀ W, Calls Tryz.prog 11 #[.bool true, .int .i64 3] W fun e w' => e = .returned (.int .i64 3) ∧ W = w') := hide (fun W => when_any true 3 W)
      have HH2 : Hid (∀ W, Calls Tryz.prog 11 #[.bool true, .int .i64 5] W fun e w' => e = .returned (.int .i64 5) ∧ W = w') := hide (fun W => when_any true 5 W)
      have EN : Hid (NEnv 64 w.heap.size o w w1) := hide ⟨HN2.out, HB2.out⟩
      have hal5 : ∀ ob, (w1.alloc ob).drew.cell? ⟨w.heap.size, 5, none⟩ = some (.string o.sep) := fun ob => (World.cell?_alloc_lt _ _ _ HN2.out.lt).trans d5
      clear d0 d1 d2 d3 d4
      go_wp2_with fail
      refine wp_region_held_drew (S := fun w' => w'.cell? ⟨w.heap.size, 5, none⟩ = some (.string o.sep)) (by kernel_rfl) d5 (fun hHeld => ?_)
      refine wpAnyH_take (i := 0) (v := ?_) rfl (by kernel_rfl) (by kernel_rfl) (by kernel_rfl) (fun _ _ _ h => h) (Or.inl ⟨by rfl, ?_⟩) (by assumption) ?_
      rotate_left
      · (intro w hSw; (try dsimp only at hSw); go_simp; try with_reducible rfl)
      try simp only [Act.put, List.setIfInBounds_toArray, List.set_cons_zero, List.set_cons_succ]
      refine wpAnyH_take (i := 2) (v := ?_) rfl (by kernel_rfl) (by kernel_rfl) (by kernel_rfl) (fun _ _ _ h => h) (Or.inl ⟨by rfl, ?_⟩) (by assumption) ?_
      rotate_left
      · (intro w hSw; (try dsimp only at hSw); go_simp; try with_reducible rfl)
      try simp only [Act.put, List.setIfInBounds_toArray, List.set_cons_zero, List.set_cons_succ]
      refine wpAnyH_take (i := 3) (v := ?_) rfl (by kernel_rfl) (by kernel_rfl) (by kernel_rfl) (fun _ _ _ h => h) (Or.inl ⟨by rfl, ?_⟩) (by assumption) ?_
      rotate_left
      · (intro w hSw; (try dsimp only at hSw); go_simp; try with_reducible rfl)
      try simp only [Act.put, List.setIfInBounds_toArray, List.set_cons_zero, List.set_cons_succ]
      refine wpAnyH_take (i := 12) (v := ?_) rfl (by kernel_rfl) (by kernel_rfl) (by kernel_rfl) (fun _ _ _ h => h) (Or.inl ⟨by rfl, ?_⟩) (by assumption) ?_
      rotate_left
      · (intro w hSw; (try dsimp only at hSw); go_simp; try with_reducible rfl)
      try simp only [Act.put, List.setIfInBounds_toArray, List.set_cons_zero, List.set_cons_succ]
      refine wpAnyH_ready (rs := [1, 13]) (by kernel_rfl) (by simp) ?_
      refine AllReadyH.cons rfl (fun K hK => ?_) ?_
      · skip
        go_simp
        (with_reducible refine (HH1.out _).mono ?_)
        rintro e w' ⟨rfl, rfl⟩
        go_wp2_with fail
        refine hK.out _ _ ?_ (fun hHeld => ?_)
        · exact hHeld
        clear hK K
        try simp only [Act.put, List.setIfInBounds_toArray, List.set_cons_zero, List.set_cons_succ]
        refine wpAnyH_ready (rs := [4, 13]) (by kernel_rfl) (by simp) ?_
        refine AllReadyH.cons rfl (fun K hK => ?_) ?_
        · skip
          go_simp
          (with_reducible refine (HNL.out _).mono ?_)
          rintro e w' ⟨rfl, rfl⟩
          go_wp2_with fail
          refine hK.out _ _ ?_ (fun hHeld => ?_)
          · exact hHeld
          clear hK K
          try simp only [Act.put, List.setIfInBounds_toArray, List.set_cons_zero, List.set_cons_succ]
          refine wpAnyH_take (i := 5) (v := ?_) rfl (by kernel_rfl) (by kernel_rfl) (by kernel_rfl) (fun _ _ _ h => h) (Or.inl ⟨by rfl, ?_⟩) (by assumption) ?_
          rotate_left
          · (intro w hSw; (try dsimp only at hSw); go_simp; try with_reducible rfl)
          try simp only [Act.put, List.setIfInBounds_toArray, List.set_cons_zero, List.set_cons_succ]
          refine wpAnyH_take (i := 6) (v := undef) rfl (by kernel_rfl) (by kernel_rfl) (by kernel_rfl) (fun _ _ _ h => h) (Or.inr ⟨by rfl, rfl⟩) (by assumption) ?_
          try simp only [Act.put, List.setIfInBounds_toArray, List.set_cons_zero, List.set_cons_succ]
          refine wpAnyH_take (i := 7) (v := undef) rfl (by kernel_rfl) (by kernel_rfl) (by kernel_rfl) (fun _ _ _ h => h) (Or.inr ⟨by rfl, rfl⟩) (by assumption) ?_
          try simp only [Act.put, List.setIfInBounds_toArray, List.set_cons_zero, List.set_cons_succ]
          refine wpAnyH_take (i := 8) (v := undef) rfl (by kernel_rfl) (by kernel_rfl) (by kernel_rfl) (fun _ _ _ h => h) (Or.inr ⟨by rfl, rfl⟩) (by assumption) ?_
          try simp only [Act.put, List.setIfInBounds_toArray, List.set_cons_zero, List.set_cons_succ]
          refine wpAnyH_take (i := 9) (v := undef) rfl (by kernel_rfl) (by kernel_rfl) (by kernel_rfl) (fun _ _ _ h => h) (Or.inr ⟨by rfl, rfl⟩) (by assumption) ?_
          try simp only [Act.put, List.setIfInBounds_toArray, List.set_cons_zero, List.set_cons_succ]
          refine wpAnyH_take (i := 10) (v := ?_) rfl (by kernel_rfl) (by kernel_rfl) (by kernel_rfl) (fun _ _ _ h => h) (Or.inl ⟨by rfl, ?_⟩) (by assumption) ?_
          rotate_left
          · (intro w hSw; (try dsimp only at hSw); go_simp; try with_reducible rfl)
          try simp only [Act.put, List.setIfInBounds_toArray, List.set_cons_zero, List.set_cons_succ]
          refine wpAnyH_ready (rs := [11, 13]) (by kernel_rfl) (by simp) ?_
          refine AllReadyH.cons rfl (fun K hK => ?_) ?_
          · skip
            go_simp
            (with_reducible refine (HH2.out _).mono ?_)
            rintro e w' ⟨rfl, rfl⟩
            go_wp2_with fail
            refine hK.out _ _ ?_ (fun hHeld => ?_)
            · exact hHeld
            clear hK K
            try simp only [Act.put, List.setIfInBounds_toArray, List.set_cons_zero, List.set_cons_succ]
            refine wpAnyH_ready (rs := [13]) (by kernel_rfl) (by simp) ?_
            refine AllReadyH.cons rfl (fun K hK => ?_) ?_
            · skip
              go_simp
              refine hK.out _ _ ?_ (fun hHeld => ?_)
              · exact hal5 _
              clear hK K
              try simp only [Act.put, List.setIfInBounds_toArray, List.set_cons_zero, List.set_cons_succ]
              refine wpAnyH_ready (rs := [14]) (by kernel_rfl) (by simp) ?_
              refine AllReadyH.cons rfl (fun K hK => ?_) ?_
              · skip
                go_simp
                (with_reducible refine (HLG.out w1).mono ?_)
                rintro e w3 ⟨rfl, hb3⟩
                have EN := hide (NEnv.next EN.out hb3 rfl rfl rfl rfl (Nat.le_refl _))
                clear hb3
                have q5 := EN.out.un.cells.2.2.2.2.2
                go_wp2_with fail
                refine hK.out _ _ ?_ (fun hHeld => ?_)
                · exact q5
                clear hK K
                try simp only [Act.put, List.setIfInBounds_toArray, List.set_cons_zero, List.set_cons_succ]
                refine wpAnyH_ready (rs := [15]) (by kernel_rfl) (by simp) ?_
                refine AllReadyH.cons rfl (fun K hK => ?_) ?_
                · skip
                  go_simp
                  refine hK.out _ _ ?_ (fun hHeld => ?_)
                  · exact ((World.cell?_alloc_lt _ _ _ (EN.out.un.lt)).trans q5)
                  clear hK K
                  try simp only [Act.put, List.setIfInBounds_toArray, List.set_cons_zero, List.set_cons_succ]
                  refine wpAnyH_ready (rs := [16]) (by kernel_rfl) (by simp) ?_
                  refine AllReadyH.cons rfl (fun K hK => ?_) ?_
                  · skip
                    go_simp
                    (with_reducible refine (firstThreeN_any w3 3 5 x3).mono ?_)
                    rintro e w4 ⟨rfl, rfl⟩
                    go_wp2_with fail
                    refine hK.out _ _ ?_ (fun hHeld => ?_)
                    · exact hHeld
                    clear hK K
                    try simp only [Act.put, List.setIfInBounds_toArray, List.set_cons_zero, List.set_cons_succ]
                    refine wpAnyH_take (i := 17) (v := ?_) rfl (by kernel_rfl) (by kernel_rfl) (by kernel_rfl) (fun _ _ _ h => h) (Or.inl ⟨by rfl, ?_⟩) (by assumption) ?_
                    rotate_left
                    · (intro w hSw; (try dsimp only at hSw); go_simp; try with_reducible rfl)
                    try simp only [Act.put, List.setIfInBounds_toArray, List.set_cons_zero, List.set_cons_succ]
                    refine wpAnyH_done (by kernel_rfl) ?_ _
                    rw [HE.out]
                    have HB4 := hide EN.out.bel
                    have HB5 := hide (HB4.out.alloc HB4.out.size (.cells #[.int .i64 3, .int .i64 5, .int .i64 x3] 24))
                    obtain ⟨W3, hW3⟩ : ∃ W3, w3.alloc (.cells #[.int .i64 3, .int .i64 5, .int .i64 x3] 24) = W3 := ⟨_, rfl⟩
                    have HW3 := hide hW3
                    rw [hW3] at HB5
                    clear hW3 EN q5
                    (try rw [HW3.out])
                    go_wp2_with fail
                    (try rw [HW3.out])
                    refine (sorts_any _).mono ?_
                    rintro e w5 ⟨rfl, hb5⟩
                    have HB6 := hide (below_next HB5.out hb5 rfl rfl rfl rfl HB5.out.size)
                    clear hb5
                    go_wp2_with fail
                    refine (outcome_bad _ _ _ HN.out).mono ?_
                    rintro e w' ⟨rfl, rfl⟩
                    go_wp2_with fail
                    go_ret
                    exact ⟨rfl, HB6.out⟩
                  exact AllReadyH.nil
                exact AllReadyH.nil
              exact AllReadyH.nil
            exact AllReadyH.nil
          refine AllReadyH.cons rfl (fun K hK => ?_) ?_
          · skip
            go_simp
            refine hK.out _ _ ?_ (fun hHeld => ?_)
            · exact hal5 _
            clear hK K
            try simp only [Act.put, List.setIfInBounds_toArray, List.set_cons_zero, List.set_cons_succ]
            refine wpAnyH_ready (rs := [11]) (by kernel_rfl) (by simp) ?_
            refine AllReadyH.cons rfl (fun K hK => ?_) ?_
            · skip
              go_simp
              (with_reducible refine (HH2.out _).mono ?_)
              rintro e w' ⟨rfl, rfl⟩
              go_wp2_with fail
              refine hK.out _ _ ?_ (fun hHeld => ?_)
              · exact hHeld
              clear hK K
              try simp only [Act.put, List.setIfInBounds_toArray, List.set_cons_zero, List.set_cons_succ]
              refine wpAnyH_ready (rs := [14]) (by kernel_rfl) (by simp) ?_
              refine AllReadyH.cons rfl (fun K hK => ?_) ?_
              · skip
                go_simp
                (with_reducible refine (HLG.out w1).mono ?_)
                rintro e w3 ⟨rfl, hb3⟩
                have EN := hide (NEnv.next EN.out hb3 rfl rfl rfl rfl (Nat.le_refl _))
                clear hb3
                have q5 := EN.out.un.cells.2.2.2.2.2
                go_wp2_with fail
                refine hK.out _ _ ?_ (fun hHeld => ?_)
                · exact q5
                clear hK K
                try simp only [Act.put, List.setIfInBounds_toArray, List.set_cons_zero, List.set_cons_succ]
                refine wpAnyH_ready (rs := [15]) (by kernel_rfl) (by simp) ?_
                refine AllReadyH.cons rfl (fun K hK => ?_) ?_
                · skip
                  go_simp
                  refine hK.out _ _ ?_ (fun hHeld => ?_)
                  · exact ((World.cell?_alloc_lt _ _ _ (EN.out.un.lt)).trans q5)
                  clear hK K
                  try simp only [Act.put, List.setIfInBounds_toArray, List.set_cons_zero, List.set_cons_succ]
                  refine wpAnyH_ready (rs := [16]) (by kernel_rfl) (by simp) ?_
                  refine AllReadyH.cons rfl (fun K hK => ?_) ?_
                  · skip
                    go_simp
                    (with_reducible refine (firstThreeN_any w3 3 5 x3).mono ?_)
                    rintro e w4 ⟨rfl, rfl⟩
                    go_wp2_with fail
                    refine hK.out _ _ ?_ (fun hHeld => ?_)
                    · exact hHeld
                    clear hK K
                    try simp only [Act.put, List.setIfInBounds_toArray, List.set_cons_zero, List.set_cons_succ]
                    refine wpAnyH_take (i := 17) (v := ?_) rfl (by kernel_rfl) (by kernel_rfl) (by kernel_rfl) (fun _ _ _ h => h) (Or.inl ⟨by rfl, ?_⟩) (by assumption) ?_
                    rotate_left
                    · (intro w hSw; (try dsimp only at hSw); go_simp; try with_reducible rfl)
                    try simp only [Act.put, List.setIfInBounds_toArray, List.set_cons_zero, List.set_cons_succ]
                    refine wpAnyH_done (by kernel_rfl) ?_ _
                    rw [HE.out]
                    have HB4 := hide EN.out.bel
                    have HB5 := hide (HB4.out.alloc HB4.out.size (.cells #[.int .i64 3, .int .i64 5, .int .i64 x3] 24))
                    obtain ⟨W3, hW3⟩ : ∃ W3, w3.alloc (.cells #[.int .i64 3, .int .i64 5, .int .i64 x3] 24) = W3 := ⟨_, rfl⟩
                    have HW3 := hide hW3
                    rw [hW3] at HB5
                    clear hW3 EN q5
                    (try rw [HW3.out])
                    go_wp2_with fail
                    (try rw [HW3.out])
                    refine (sorts_any _).mono ?_
                    rintro e w5 ⟨rfl, hb5⟩
                    have HB6 := hide (below_next HB5.out hb5 rfl rfl rfl rfl HB5.out.size)
                    clear hb5
                    go_wp2_with fail
                    refine (outcome_bad _ _ _ HN.out).mono ?_
                    rintro e w' ⟨rfl, rfl⟩
                    go_wp2_with fail
                    go_ret
                    exact ⟨rfl, HB6.out⟩
                  exact AllReadyH.nil
                exact AllReadyH.nil
              exact AllReadyH.nil
            exact AllReadyH.nil
          exact AllReadyH.nil
        refine AllReadyH.cons rfl (fun K hK => ?_) ?_
        · skip
          go_simp
          refine hK.out _ _ ?_ (fun hHeld => ?_)
          · exact hal5 _
          clear hK K
          try simp only [Act.put, List.setIfInBounds_toArray, List.set_cons_zero, List.set_cons_succ]
          refine wpAnyH_ready (rs := [4]) (by kernel_rfl) (by simp) ?_
          refine AllReadyH.cons rfl (fun K hK => ?_) ?_
          · skip
            go_simp
            (with_reducible refine (HNL.out _).mono ?_)
            rintro e w' ⟨rfl, rfl⟩
            go_wp2_with fail
            refine hK.out _ _ ?_ (fun hHeld => ?_)
            · exact hHeld
            clear hK K
            try simp only [Act.put, List.setIfInBounds_toArray, List.set_cons_zero, List.set_cons_succ]
            refine wpAnyH_take (i := 5) (v := ?_) rfl (by kernel_rfl) (by kernel_rfl) (by kernel_rfl) (fun _ _ _ h => h) (Or.inl ⟨by rfl, ?_⟩) (by assumption) ?_
            rotate_left
            · (intro w hSw; (try dsimp only at hSw); go_simp; try with_reducible rfl)
            try simp only [Act.put, List.setIfInBounds_toArray, List.set_cons_zero, List.set_cons_succ]
            refine wpAnyH_take (i := 6) (v := undef) rfl (by kernel_rfl) (by kernel_rfl) (by kernel_rfl) (fun _ _ _ h => h) (Or.inr ⟨by rfl, rfl⟩) (by assumption) ?_
            try simp only [Act.put, List.setIfInBounds_toArray, List.set_cons_zero, List.set_cons_succ]
            refine wpAnyH_take (i := 7) (v := undef) rfl (by kernel_rfl) (by kernel_rfl) (by kernel_rfl) (fun _ _ _ h => h) (Or.inr ⟨by rfl, rfl⟩) (by assumption) ?_
            try simp only [Act.put, List.setIfInBounds_toArray, List.set_cons_zero, List.set_cons_succ]
            refine wpAnyH_take (i := 8) (v := undef) rfl (by kernel_rfl) (by kernel_rfl) (by kernel_rfl) (fun _ _ _ h => h) (Or.inr ⟨by rfl, rfl⟩) (by assumption) ?_
            try simp only [Act.put, List.setIfInBounds_toArray, List.set_cons_zero, List.set_cons_succ]
            refine wpAnyH_take (i := 9) (v := undef) rfl (by kernel_rfl) (by kernel_rfl) (by kernel_rfl) (fun _ _ _ h => h) (Or.inr ⟨by rfl, rfl⟩) (by assumption) ?_
            try simp only [Act.put, List.setIfInBounds_toArray, List.set_cons_zero, List.set_cons_succ]
            refine wpAnyH_take (i := 10) (v := ?_) rfl (by kernel_rfl) (by kernel_rfl) (by kernel_rfl) (fun _ _ _ h => h) (Or.inl ⟨by rfl, ?_⟩) (by assumption) ?_
            rotate_left
            · (intro w hSw; (try dsimp only at hSw); go_simp; try with_reducible rfl)
            try simp only [Act.put, List.setIfInBounds_toArray, List.set_cons_zero, List.set_cons_succ]
            refine wpAnyH_ready (rs := [11]) (by kernel_rfl) (by simp) ?_
            refine AllReadyH.cons rfl (fun K hK => ?_) ?_
            · skip
              go_simp
              (with_reducible refine (HH2.out _).mono ?_)
              rintro e w' ⟨rfl, rfl⟩
              go_wp2_with fail
              refine hK.out _ _ ?_ (fun hHeld => ?_)
              · exact hHeld
              clear hK K
              try simp only [Act.put, List.setIfInBounds_toArray, List.set_cons_zero, List.set_cons_succ]
              refine wpAnyH_ready (rs := [14]) (by kernel_rfl) (by simp) ?_
              refine AllReadyH.cons rfl (fun K hK => ?_) ?_
              · skip
                go_simp
                (with_reducible refine (HLG.out w1).mono ?_)
                rintro e w3 ⟨rfl, hb3⟩
                have EN := hide (NEnv.next EN.out hb3 rfl rfl rfl rfl (Nat.le_refl _))
                clear hb3
                have q5 := EN.out.un.cells.2.2.2.2.2
                go_wp2_with fail
                refine hK.out _ _ ?_ (fun hHeld => ?_)
                · exact q5
                clear hK K
                try simp only [Act.put, List.setIfInBounds_toArray, List.set_cons_zero, List.set_cons_succ]
                refine wpAnyH_ready (rs := [15]) (by kernel_rfl) (by simp) ?_
                refine AllReadyH.cons rfl (fun K hK => ?_) ?_
                · skip
                  go_simp
                  refine hK.out _ _ ?_ (fun hHeld => ?_)
                  · exact ((World.cell?_alloc_lt _ _ _ (EN.out.un.lt)).trans q5)
                  clear hK K
                  try simp only [Act.put, List.setIfInBounds_toArray, List.set_cons_zero, List.set_cons_succ]
                  refine wpAnyH_ready (rs := [16]) (by kernel_rfl) (by simp) ?_
                  refine AllReadyH.cons rfl (fun K hK => ?_) ?_
                  · skip
                    go_simp
                    (with_reducible refine (firstThreeN_any w3 3 5 x3).mono ?_)
                    rintro e w4 ⟨rfl, rfl⟩
                    go_wp2_with fail
                    refine hK.out _ _ ?_ (fun hHeld => ?_)
                    · exact hHeld
                    clear hK K
                    try simp only [Act.put, List.setIfInBounds_toArray, List.set_cons_zero, List.set_cons_succ]
                    refine wpAnyH_take (i := 17) (v := ?_) rfl (by kernel_rfl) (by kernel_rfl) (by kernel_rfl) (fun _ _ _ h => h) (Or.inl ⟨by rfl, ?_⟩) (by assumption) ?_
                    rotate_left
                    · (intro w hSw; (try dsimp only at hSw); go_simp; try with_reducible rfl)
                    try simp only [Act.put, List.setIfInBounds_toArray, List.set_cons_zero, List.set_cons_succ]
                    refine wpAnyH_done (by kernel_rfl) ?_ _
                    rw [HE.out]
                    have HB4 := hide EN.out.bel
                    have HB5 := hide (HB4.out.alloc HB4.out.size (.cells #[.int .i64 3, .int .i64 5, .int .i64 x3] 24))
                    obtain ⟨W3, hW3⟩ : ∃ W3, w3.alloc (.cells #[.int .i64 3, .int .i64 5, .int .i64 x3] 24) = W3 := ⟨_, rfl⟩
                    have HW3 := hide hW3
                    rw [hW3] at HB5
                    clear hW3 EN q5
                    (try rw [HW3.out])
                    go_wp2_with fail
                    (try rw [HW3.out])
                    refine (sorts_any _).mono ?_
                    rintro e w5 ⟨rfl, hb5⟩
                    have HB6 := hide (below_next HB5.out hb5 rfl rfl rfl rfl HB5.out.size)
                    clear hb5
                    go_wp2_with fail
                    refine (outcome_bad _ _ _ HN.out).mono ?_
                    rintro e w' ⟨rfl, rfl⟩
                    go_wp2_with fail
                    go_ret
                    exact ⟨rfl, HB6.out⟩
                  exact AllReadyH.nil
                exact AllReadyH.nil
              exact AllReadyH.nil
            exact AllReadyH.nil
          exact AllReadyH.nil
        exact AllReadyH.nil
      refine AllReadyH.cons rfl (fun K hK => ?_) ?_
      · skip
        go_simp
        refine hK.out _ _ ?_ (fun hHeld => ?_)
        · exact hal5 _
        clear hK K
        try simp only [Act.put, List.setIfInBounds_toArray, List.set_cons_zero, List.set_cons_succ]
        refine wpAnyH_ready (rs := [1]) (by kernel_rfl) (by simp) ?_
        refine AllReadyH.cons rfl (fun K hK => ?_) ?_
        · skip
          go_simp
          (with_reducible refine (HH1.out _).mono ?_)
          rintro e w' ⟨rfl, rfl⟩
          go_wp2_with fail
          refine hK.out _ _ ?_ (fun hHeld => ?_)
          · exact hHeld
          clear hK K
          try simp only [Act.put, List.setIfInBounds_toArray, List.set_cons_zero, List.set_cons_succ]
          refine wpAnyH_ready (rs := [4]) (by kernel_rfl) (by simp) ?_
          refine AllReadyH.cons rfl (fun K hK => ?_) ?_
          · skip
            go_simp
            (with_reducible refine (HNL.out _).mono ?_)
            rintro e w' ⟨rfl, rfl⟩
            go_wp2_with fail
            refine hK.out _ _ ?_ (fun hHeld => ?_)
            · exact hHeld
            clear hK K
            try simp only [Act.put, List.setIfInBounds_toArray, List.set_cons_zero, List.set_cons_succ]
            refine wpAnyH_take (i := 5) (v := ?_) rfl (by kernel_rfl) (by kernel_rfl) (by kernel_rfl) (fun _ _ _ h => h) (Or.inl ⟨by rfl, ?_⟩) (by assumption) ?_
            rotate_left
            · (intro w hSw; (try dsimp only at hSw); go_simp; try with_reducible rfl)
            try simp only [Act.put, List.setIfInBounds_toArray, List.set_cons_zero, List.set_cons_succ]
            refine wpAnyH_take (i := 6) (v := undef) rfl (by kernel_rfl) (by kernel_rfl) (by kernel_rfl) (fun _ _ _ h => h) (Or.inr ⟨by rfl, rfl⟩) (by assumption) ?_
            try simp only [Act.put, List.setIfInBounds_toArray, List.set_cons_zero, List.set_cons_succ]
            refine wpAnyH_take (i := 7) (v := undef) rfl (by kernel_rfl) (by kernel_rfl) (by kernel_rfl) (fun _ _ _ h => h) (Or.inr ⟨by rfl, rfl⟩) (by assumption) ?_
            try simp only [Act.put, List.setIfInBounds_toArray, List.set_cons_zero, List.set_cons_succ]
            refine wpAnyH_take (i := 8) (v := undef) rfl (by kernel_rfl) (by kernel_rfl) (by kernel_rfl) (fun _ _ _ h => h) (Or.inr ⟨by rfl, rfl⟩) (by assumption) ?_
            try simp only [Act.put, List.setIfInBounds_toArray, List.set_cons_zero, List.set_cons_succ]
            refine wpAnyH_take (i := 9) (v := undef) rfl (by kernel_rfl) (by kernel_rfl) (by kernel_rfl) (fun _ _ _ h => h) (Or.inr ⟨by rfl, rfl⟩) (by assumption) ?_
            try simp only [Act.put, List.setIfInBounds_toArray, List.set_cons_zero, List.set_cons_succ]
            refine wpAnyH_take (i := 10) (v := ?_) rfl (by kernel_rfl) (by kernel_rfl) (by kernel_rfl) (fun _ _ _ h => h) (Or.inl ⟨by rfl, ?_⟩) (by assumption) ?_
            rotate_left
            · (intro w hSw; (try dsimp only at hSw); go_simp; try with_reducible rfl)
            try simp only [Act.put, List.setIfInBounds_toArray, List.set_cons_zero, List.set_cons_succ]
            refine wpAnyH_ready (rs := [11]) (by kernel_rfl) (by simp) ?_
            refine AllReadyH.cons rfl (fun K hK => ?_) ?_
            · skip
              go_simp
              (with_reducible refine (HH2.out _).mono ?_)
              rintro e w' ⟨rfl, rfl⟩
              go_wp2_with fail
              refine hK.out _ _ ?_ (fun hHeld => ?_)
              · exact hHeld
              clear hK K
              try simp only [Act.put, List.setIfInBounds_toArray, List.set_cons_zero, List.set_cons_succ]
              refine wpAnyH_ready (rs := [14]) (by kernel_rfl) (by simp) ?_
              refine AllReadyH.cons rfl (fun K hK => ?_) ?_
              · skip
                go_simp
                (with_reducible refine (HLG.out w1).mono ?_)
                rintro e w3 ⟨rfl, hb3⟩
                have EN := hide (NEnv.next EN.out hb3 rfl rfl rfl rfl (Nat.le_refl _))
                clear hb3
                have q5 := EN.out.un.cells.2.2.2.2.2
                go_wp2_with fail
                refine hK.out _ _ ?_ (fun hHeld => ?_)
                · exact q5
                clear hK K
                try simp only [Act.put, List.setIfInBounds_toArray, List.set_cons_zero, List.set_cons_succ]
                refine wpAnyH_ready (rs := [15]) (by kernel_rfl) (by simp) ?_
                refine AllReadyH.cons rfl (fun K hK => ?_) ?_
                · skip
                  go_simp
                  refine hK.out _ _ ?_ (fun hHeld => ?_)
                  · exact ((World.cell?_alloc_lt _ _ _ (EN.out.un.lt)).trans q5)
                  clear hK K
                  try simp only [Act.put, List.setIfInBounds_toArray, List.set_cons_zero, List.set_cons_succ]
                  refine wpAnyH_ready (rs := [16]) (by kernel_rfl) (by simp) ?_
                  refine AllReadyH.cons rfl (fun K hK => ?_) ?_
                  · skip
                    go_simp
                    (with_reducible refine (firstThreeN_any w3 3 5 x3).mono ?_)
                    rintro e w4 ⟨rfl, rfl⟩
                    go_wp2_with fail
                    refine hK.out _ _ ?_ (fun hHeld => ?_)
                    · exact hHeld
                    clear hK K
                    try simp only [Act.put, List.setIfInBounds_toArray, List.set_cons_zero, List.set_cons_succ]
                    refine wpAnyH_take (i := 17) (v := ?_) rfl (by kernel_rfl) (by kernel_rfl) (by kernel_rfl) (fun _ _ _ h => h) (Or.inl ⟨by rfl, ?_⟩) (by assumption) ?_
                    rotate_left
                    · (intro w hSw; (try dsimp only at hSw); go_simp; try with_reducible rfl)
                    try simp only [Act.put, List.setIfInBounds_toArray, List.set_cons_zero, List.set_cons_succ]
                    refine wpAnyH_done (by kernel_rfl) ?_ _
                    rw [HE.out]
                    have HB4 := hide EN.out.bel
                    have HB5 := hide (HB4.out.alloc HB4.out.size (.cells #[.int .i64 3, .int .i64 5, .int .i64 x3] 24))
                    obtain ⟨W3, hW3⟩ : ∃ W3, w3.alloc (.cells #[.int .i64 3, .int .i64 5, .int .i64 x3] 24) = W3 := ⟨_, rfl⟩
                    have HW3 := hide hW3
                    rw [hW3] at HB5
                    clear hW3 EN q5
                    (try rw [HW3.out])
                    go_wp2_with fail
                    (try rw [HW3.out])
                    refine (sorts_any _).mono ?_
                    rintro e w5 ⟨rfl, hb5⟩
                    have HB6 := hide (below_next HB5.out hb5 rfl rfl rfl rfl HB5.out.size)
                    clear hb5
                    go_wp2_with fail
                    refine (outcome_bad _ _ _ HN.out).mono ?_
                    rintro e w' ⟨rfl, rfl⟩
                    go_wp2_with fail
                    go_ret
                    exact ⟨rfl, HB6.out⟩
                  exact AllReadyH.nil
                exact AllReadyH.nil
              exact AllReadyH.nil
            exact AllReadyH.nil
          exact AllReadyH.nil
        exact AllReadyH.nil
      exact AllReadyH.nil
  · go_wp2_with fail
    refine (HWb.out _).mono ?_
    rintro e w' ⟨rfl, rfl⟩
    cases b
    · skip
      cases d
      · by_cases hlong : 1000 < o.sep.size
        · have hlong2 : (1000 : Int) < (o.sep.size : Int) := by omega
          have hlong3 : decide ((1000 : Int) < (o.sep.size : Int)) = true := by simpa using hlong2
          have HE : Hid (firstNZ [(3 : Int), 5, x3] = n) := hide (by rw [← HX.out, show decide (1000 < o.sep.size) = true by simpa using hlong]; rfl)
          have HH1 : Hid (∀ W, Calls Tryz.prog 11 #[.bool true, .int .i64 3] W fun e w' => e = .returned (.int .i64 3) ∧ W = w') := hide (fun W => when_any true 3 W)
          have HH2 : Hid (∀ W, Calls Tryz.prog 11 #[.bool true, .int .i64 5] W fun e w' => e = .returned (.int .i64 5) ∧ W = w') := hide (fun W => when_any true 5 W)
          have EN : Hid (NEnv 64 w.heap.size o w w1) := hide ⟨HN2.out, HB2.out⟩
          clear d0 d1 d2 d3 d4
          go_wp2_with fail
          go_region_held3 (fun w' => w'.cell? ⟨w.heap.size, 5, none⟩ = some (.string o.sep)) (go_keep)
            (first
              | (go_at_call 11; (with_reducible refine (HH1.out _).mono ?_); rintro e w' ⟨rfl, rfl⟩)
              | (go_at_call 11; (with_reducible refine (HH2.out _).mono ?_); rintro e w' ⟨rfl, rfl⟩)
              | (go_at_call 36; (with_reducible refine (HNL.out _).mono ?_); rintro e w' ⟨rfl, rfl⟩)
              | (go_at_call 12; (with_reducible refine (HLG.out w1).mono ?_); rintro e w3 ⟨rfl, hb3⟩; have EN := hide (NEnv.next EN.out hb3 rfl rfl rfl rfl (Nat.le_refl _)); clear hb3; have q5 := EN.out.un.cells.2.2.2.2.2)
              | (go_at_call 10; (with_reducible refine (firstThreeN_any w3 3 5 x3).mono ?_); rintro e w4 ⟨rfl, rfl⟩))
          all_goals
            rw [HE.out]
            have HB4 := hide EN.out.bel
            have HB5 := hide (HB4.out.alloc HB4.out.size (.cells #[.int .i64 3, .int .i64 5, .int .i64 x3] 24))
            obtain ⟨W3, hW3⟩ : ∃ W3, w3.alloc (.cells #[.int .i64 3, .int .i64 5, .int .i64 x3] 24) = W3 := ⟨_, rfl⟩
            have HW3 := hide hW3
            rw [hW3] at HB5
            clear hW3 EN q5
            (try rw [HW3.out])
            go_wp2_with fail
            (try rw [HW3.out])
            refine (sorts_any _).mono ?_
            rintro e w5 ⟨rfl, hb5⟩
            have HB6 := hide (below_next HB5.out hb5 rfl rfl rfl rfl HB5.out.size)
            clear hb5
            go_wp2_with fail
            refine (outcome_bad _ _ _ HN.out).mono ?_
            rintro e w' ⟨rfl, rfl⟩
            go_wp2_with fail
            go_ret
            exact ⟨rfl, HB6.out⟩
        · have hlong2 : ¬ (1000 : Int) < (o.sep.size : Int) := by omega
          have hlong3 : decide ((1000 : Int) < (o.sep.size : Int)) = false := by simpa using hlong2
          have HE : Hid (firstNZ [(3 : Int), 0, x3] = n) := hide (by rw [← HX.out, show decide (1000 < o.sep.size) = false by simpa using hlong]; rfl)
          have HH1 : Hid (∀ W, Calls Tryz.prog 11 #[.bool true, .int .i64 3] W fun e w' => e = .returned (.int .i64 3) ∧ W = w') := hide (fun W => when_any true 3 W)
          have HH2 : Hid (∀ W, Calls Tryz.prog 11 #[.bool false, .int .i64 5] W fun e w' => e = .returned (.int .i64 0) ∧ W = w') := hide (fun W => when_any false 5 W)
          have EN : Hid (NEnv 64 w.heap.size o w w1) := hide ⟨HN2.out, HB2.out⟩
          clear d0 d1 d2 d3 d4
          go_wp2_with fail
          go_region_held3 (fun w' => w'.cell? ⟨w.heap.size, 5, none⟩ = some (.string o.sep)) (go_keep)
            (first
              | (go_at_call 11; (with_reducible refine (HH1.out _).mono ?_); rintro e w' ⟨rfl, rfl⟩)
              | (go_at_call 11; (with_reducible refine (HH2.out _).mono ?_); rintro e w' ⟨rfl, rfl⟩)
              | (go_at_call 36; (with_reducible refine (HNL.out _).mono ?_); rintro e w' ⟨rfl, rfl⟩)
              | (go_at_call 12; (with_reducible refine (HLG.out w1).mono ?_); rintro e w3 ⟨rfl, hb3⟩; have EN := hide (NEnv.next EN.out hb3 rfl rfl rfl rfl (Nat.le_refl _)); clear hb3; have q5 := EN.out.un.cells.2.2.2.2.2)
              | (go_at_call 10; (with_reducible refine (firstThreeN_any w3 3 0 x3).mono ?_); rintro e w4 ⟨rfl, rfl⟩))
          all_goals
            rw [HE.out]
            have HB4 := hide EN.out.bel
            have HB5 := hide (HB4.out.alloc HB4.out.size (.cells #[.int .i64 3, .int .i64 0, .int .i64 x3] 24))
            obtain ⟨W3, hW3⟩ : ∃ W3, w3.alloc (.cells #[.int .i64 3, .int .i64 0, .int .i64 x3] 24) = W3 := ⟨_, rfl⟩
            have HW3 := hide hW3
            rw [hW3] at HB5
            clear hW3 EN q5
            (try rw [HW3.out])
            go_wp2_with fail
            (try rw [HW3.out])
            refine (sorts_any _).mono ?_
            rintro e w5 ⟨rfl, hb5⟩
            have HB6 := hide (below_next HB5.out hb5 rfl rfl rfl rfl HB5.out.size)
            clear hb5
            go_wp2_with fail
            refine (outcome_bad _ _ _ HN.out).mono ?_
            rintro e w' ⟨rfl, rfl⟩
            go_wp2_with fail
            go_ret
            exact ⟨rfl, HB6.out⟩
      · have HE : Hid (firstNZ [(3 : Int), 5, x3] = n) := hide (by rw [← HX.out]; rfl)
        have HH1 : Hid (∀ W, Calls Tryz.prog 11 #[.bool true, .int .i64 3] W fun e w' => e = .returned (.int .i64 3) ∧ W = w') := hide (fun W => when_any true 3 W)
        have HH2 : Hid (∀ W, Calls Tryz.prog 11 #[.bool true, .int .i64 5] W fun e w' => e = .returned (.int .i64 5) ∧ W = w') := hide (fun W => when_any true 5 W)
        have EN : Hid (NEnv 64 w.heap.size o w w1) := hide ⟨HN2.out, HB2.out⟩
        have hal5 : ∀ ob, (w1.alloc ob).drew.cell? ⟨w.heap.size, 5, none⟩ = some (.string o.sep) := fun ob => (World.cell?_alloc_lt _ _ _ HN2.out.lt).trans d5
        clear d0 d1 d2 d3 d4
        go_wp2_with fail
        refine wp_region_held_drew (S := fun w' => w'.cell? ⟨w.heap.size, 5, none⟩ = some (.string o.sep)) (by kernel_rfl) d5 (fun hHeld => ?_)
        refine wpAnyH_take (i := 0) (v := ?_) rfl (by kernel_rfl) (by kernel_rfl) (by kernel_rfl) (fun _ _ _ h => h) (Or.inl ⟨by rfl, ?_⟩) (by assumption) ?_
        rotate_left
        · (intro w hSw; (try dsimp only at hSw); go_simp; try with_reducible rfl)
        try simp only [Act.put, List.setIfInBounds_toArray, List.set_cons_zero, List.set_cons_succ]
        refine wpAnyH_take (i := 2) (v := ?_) rfl (by kernel_rfl) (by kernel_rfl) (by kernel_rfl) (fun _ _ _ h => h) (Or.inl ⟨by rfl, ?_⟩) (by assumption) ?_
        rotate_left
        · (intro w hSw; (try dsimp only at hSw); go_simp; try with_reducible rfl)
        try simp only [Act.put, List.setIfInBounds_toArray, List.set_cons_zero, List.set_cons_succ]
        refine wpAnyH_take (i := 3) (v := ?_) rfl (by kernel_rfl) (by kernel_rfl) (by kernel_rfl) (fun _ _ _ h => h) (Or.inl ⟨by rfl, ?_⟩) (by assumption) ?_
        rotate_left
        · (intro w hSw; (try dsimp only at hSw); go_simp; try with_reducible rfl)
        try simp only [Act.put, List.setIfInBounds_toArray, List.set_cons_zero, List.set_cons_succ]
        refine wpAnyH_take (i := 12) (v := ?_) rfl (by kernel_rfl) (by kernel_rfl) (by kernel_rfl) (fun _ _ _ h => h) (Or.inl ⟨by rfl, ?_⟩) (by assumption) ?_
        rotate_left
        · (intro w hSw; (try dsimp only at hSw); go_simp; try with_reducible rfl)
        try simp only [Act.put, List.setIfInBounds_toArray, List.set_cons_zero, List.set_cons_succ]
        refine wpAnyH_ready (rs := [1, 13]) (by kernel_rfl) (by simp) ?_
        refine AllReadyH.cons rfl (fun K hK => ?_) ?_
        · skip
          go_simp
          (with_reducible refine (HH1.out _).mono ?_)
          rintro e w' ⟨rfl, rfl⟩
          go_wp2_with fail
          refine hK.out _ _ ?_ (fun hHeld => ?_)
          · exact hHeld
          clear hK K
          try simp only [Act.put, List.setIfInBounds_toArray, List.set_cons_zero, List.set_cons_succ]
          refine wpAnyH_ready (rs := [4, 13]) (by kernel_rfl) (by simp) ?_
          refine AllReadyH.cons rfl (fun K hK => ?_) ?_
          · skip
            go_simp
            (with_reducible refine (HNL.out _).mono ?_)
            rintro e w' ⟨rfl, rfl⟩
            go_wp2_with fail
            refine hK.out _ _ ?_ (fun hHeld => ?_)
            · exact hHeld
            clear hK K
            try simp only [Act.put, List.setIfInBounds_toArray, List.set_cons_zero, List.set_cons_succ]
            refine wpAnyH_take (i := 5) (v := ?_) rfl (by kernel_rfl) (by kernel_rfl) (by kernel_rfl) (fun _ _ _ h => h) (Or.inl ⟨by rfl, ?_⟩) (by assumption) ?_
            rotate_left
            · (intro w hSw; (try dsimp only at hSw); go_simp; try with_reducible rfl)
            try simp only [Act.put, List.setIfInBounds_toArray, List.set_cons_zero, List.set_cons_succ]
            refine wpAnyH_take (i := 6) (v := undef) rfl (by kernel_rfl) (by kernel_rfl) (by kernel_rfl) (fun _ _ _ h => h) (Or.inr ⟨by rfl, rfl⟩) (by assumption) ?_
            try simp only [Act.put, List.setIfInBounds_toArray, List.set_cons_zero, List.set_cons_succ]
            refine wpAnyH_take (i := 7) (v := undef) rfl (by kernel_rfl) (by kernel_rfl) (by kernel_rfl) (fun _ _ _ h => h) (Or.inr ⟨by rfl, rfl⟩) (by assumption) ?_
            try simp only [Act.put, List.setIfInBounds_toArray, List.set_cons_zero, List.set_cons_succ]
            refine wpAnyH_take (i := 8) (v := undef) rfl (by kernel_rfl) (by kernel_rfl) (by kernel_rfl) (fun _ _ _ h => h) (Or.inr ⟨by rfl, rfl⟩) (by assumption) ?_
            try simp only [Act.put, List.setIfInBounds_toArray, List.set_cons_zero, List.set_cons_succ]
            refine wpAnyH_take (i := 9) (v := undef) rfl (by kernel_rfl) (by kernel_rfl) (by kernel_rfl) (fun _ _ _ h => h) (Or.inr ⟨by rfl, rfl⟩) (by assumption) ?_
            try simp only [Act.put, List.setIfInBounds_toArray, List.set_cons_zero, List.set_cons_succ]
            refine wpAnyH_take (i := 10) (v := ?_) rfl (by kernel_rfl) (by kernel_rfl) (by kernel_rfl) (fun _ _ _ h => h) (Or.inl ⟨by rfl, ?_⟩) (by assumption) ?_
            rotate_left
            · (intro w hSw; (try dsimp only at hSw); go_simp; try with_reducible rfl)
            try simp only [Act.put, List.setIfInBounds_toArray, List.set_cons_zero, List.set_cons_succ]
            refine wpAnyH_ready (rs := [11, 13]) (by kernel_rfl) (by simp) ?_
            refine AllReadyH.cons rfl (fun K hK => ?_) ?_
            · skip
              go_simp
              (with_reducible refine (HH2.out _).mono ?_)
              rintro e w' ⟨rfl, rfl⟩
              go_wp2_with fail
              refine hK.out _ _ ?_ (fun hHeld => ?_)
              · exact hHeld
              clear hK K
              try simp only [Act.put, List.setIfInBounds_toArray, List.set_cons_zero, List.set_cons_succ]
              refine wpAnyH_ready (rs := [13]) (by kernel_rfl) (by simp) ?_
              refine AllReadyH.cons rfl (fun K hK => ?_) ?_
              · skip
                go_simp
                refine hK.out _ _ ?_ (fun hHeld => ?_)
                · exact hal5 _
                clear hK K
                try simp only [Act.put, List.setIfInBounds_toArray, List.set_cons_zero, List.set_cons_succ]
                refine wpAnyH_ready (rs := [14]) (by kernel_rfl) (by simp) ?_
                refine AllReadyH.cons rfl (fun K hK => ?_) ?_
                · skip
                  go_simp
                  (with_reducible refine (HLG.out w1).mono ?_)
                  rintro e w3 ⟨rfl, hb3⟩
                  have EN := hide (NEnv.next EN.out hb3 rfl rfl rfl rfl (Nat.le_refl _))
                  clear hb3
                  have q5 := EN.out.un.cells.2.2.2.2.2
                  go_wp2_with fail
                  refine hK.out _ _ ?_ (fun hHeld => ?_)
                  · exact q5
                  clear hK K
                  try simp only [Act.put, List.setIfInBounds_toArray, List.set_cons_zero, List.set_cons_succ]
                  refine wpAnyH_ready (rs := [15]) (by kernel_rfl) (by simp) ?_
                  refine AllReadyH.cons rfl (fun K hK => ?_) ?_
                  · skip
                    go_simp
                    refine hK.out _ _ ?_ (fun hHeld => ?_)
                    · exact ((World.cell?_alloc_lt _ _ _ (EN.out.un.lt)).trans q5)
                    clear hK K
                    try simp only [Act.put, List.setIfInBounds_toArray, List.set_cons_zero, List.set_cons_succ]
                    refine wpAnyH_ready (rs := [16]) (by kernel_rfl) (by simp) ?_
                    refine AllReadyH.cons rfl (fun K hK => ?_) ?_
                    · skip
                      go_simp
                      (with_reducible refine (firstThreeN_any w3 3 5 x3).mono ?_)
                      rintro e w4 ⟨rfl, rfl⟩
                      go_wp2_with fail
                      refine hK.out _ _ ?_ (fun hHeld => ?_)
                      · exact hHeld
                      clear hK K
                      try simp only [Act.put, List.setIfInBounds_toArray, List.set_cons_zero, List.set_cons_succ]
                      refine wpAnyH_take (i := 17) (v := ?_) rfl (by kernel_rfl) (by kernel_rfl) (by kernel_rfl) (fun _ _ _ h => h) (Or.inl ⟨by rfl, ?_⟩) (by assumption) ?_
                      rotate_left
                      · (intro w hSw; (try dsimp only at hSw); go_simp; try with_reducible rfl)
                      try simp only [Act.put, List.setIfInBounds_toArray, List.set_cons_zero, List.set_cons_succ]
                      refine wpAnyH_done (by kernel_rfl) ?_ _
                      rw [HE.out]
                      have HB4 := hide EN.out.bel
                      have HB5 := hide (HB4.out.alloc HB4.out.size (.cells #[.int .i64 3, .int .i64 5, .int .i64 x3] 24))
                      obtain ⟨W3, hW3⟩ : ∃ W3, w3.alloc (.cells #[.int .i64 3, .int .i64 5, .int .i64 x3] 24) = W3 := ⟨_, rfl⟩
                      have HW3 := hide hW3
                      rw [hW3] at HB5
                      clear hW3 EN q5
                      (try rw [HW3.out])
                      go_wp2_with fail
                      (try rw [HW3.out])
                      refine (sorts_any _).mono ?_
                      rintro e w5 ⟨rfl, hb5⟩
                      have HB6 := hide (below_next HB5.out hb5 rfl rfl rfl rfl HB5.out.size)
                      clear hb5
                      go_wp2_with fail
                      refine (outcome_bad _ _ _ HN.out).mono ?_
                      rintro e w' ⟨rfl, rfl⟩
                      go_wp2_with fail
                      go_ret
                      exact ⟨rfl, HB6.out⟩
                    exact AllReadyH.nil
                  exact AllReadyH.nil
                exact AllReadyH.nil
              exact AllReadyH.nil
            refine AllReadyH.cons rfl (fun K hK => ?_) ?_
            · skip
              go_simp
              refine hK.out _ _ ?_ (fun hHeld => ?_)
              · exact hal5 _
              clear hK K
              try simp only [Act.put, List.setIfInBounds_toArray, List.set_cons_zero, List.set_cons_succ]
              refine wpAnyH_ready (rs := [11]) (by kernel_rfl) (by simp) ?_
              refine AllReadyH.cons rfl (fun K hK => ?_) ?_
              · skip
                go_simp
                (with_reducible refine (HH2.out _).mono ?_)
                rintro e w' ⟨rfl, rfl⟩
                go_wp2_with fail
                refine hK.out _ _ ?_ (fun hHeld => ?_)
                · exact hHeld
                clear hK K
                try simp only [Act.put, List.setIfInBounds_toArray, List.set_cons_zero, List.set_cons_succ]
                refine wpAnyH_ready (rs := [14]) (by kernel_rfl) (by simp) ?_
                refine AllReadyH.cons rfl (fun K hK => ?_) ?_
                · skip
                  go_simp
                  (with_reducible refine (HLG.out w1).mono ?_)
                  rintro e w3 ⟨rfl, hb3⟩
                  have EN := hide (NEnv.next EN.out hb3 rfl rfl rfl rfl (Nat.le_refl _))
                  clear hb3
                  have q5 := EN.out.un.cells.2.2.2.2.2
                  go_wp2_with fail
                  refine hK.out _ _ ?_ (fun hHeld => ?_)
                  · exact q5
                  clear hK K
                  try simp only [Act.put, List.setIfInBounds_toArray, List.set_cons_zero, List.set_cons_succ]
                  refine wpAnyH_ready (rs := [15]) (by kernel_rfl) (by simp) ?_
                  refine AllReadyH.cons rfl (fun K hK => ?_) ?_
                  · skip
                    go_simp
                    refine hK.out _ _ ?_ (fun hHeld => ?_)
                    · exact ((World.cell?_alloc_lt _ _ _ (EN.out.un.lt)).trans q5)
                    clear hK K
                    try simp only [Act.put, List.setIfInBounds_toArray, List.set_cons_zero, List.set_cons_succ]
                    refine wpAnyH_ready (rs := [16]) (by kernel_rfl) (by simp) ?_
                    refine AllReadyH.cons rfl (fun K hK => ?_) ?_
                    · skip
                      go_simp
                      (with_reducible refine (firstThreeN_any w3 3 5 x3).mono ?_)
                      rintro e w4 ⟨rfl, rfl⟩
                      go_wp2_with fail
                      refine hK.out _ _ ?_ (fun hHeld => ?_)
                      · exact hHeld
                      clear hK K
                      try simp only [Act.put, List.setIfInBounds_toArray, List.set_cons_zero, List.set_cons_succ]
                      refine wpAnyH_take (i := 17) (v := ?_) rfl (by kernel_rfl) (by kernel_rfl) (by kernel_rfl) (fun _ _ _ h => h) (Or.inl ⟨by rfl, ?_⟩) (by assumption) ?_
                      rotate_left
                      · (intro w hSw; (try dsimp only at hSw); go_simp; try with_reducible rfl)
                      try simp only [Act.put, List.setIfInBounds_toArray, List.set_cons_zero, List.set_cons_succ]
                      refine wpAnyH_done (by kernel_rfl) ?_ _
                      rw [HE.out]
                      have HB4 := hide EN.out.bel
                      have HB5 := hide (HB4.out.alloc HB4.out.size (.cells #[.int .i64 3, .int .i64 5, .int .i64 x3] 24))
                      obtain ⟨W3, hW3⟩ : ∃ W3, w3.alloc (.cells #[.int .i64 3, .int .i64 5, .int .i64 x3] 24) = W3 := ⟨_, rfl⟩
                      have HW3 := hide hW3
                      rw [hW3] at HB5
                      clear hW3 EN q5
                      (try rw [HW3.out])
                      go_wp2_with fail
                      (try rw [HW3.out])
                      refine (sorts_any _).mono ?_
                      rintro e w5 ⟨rfl, hb5⟩
                      have HB6 := hide (below_next HB5.out hb5 rfl rfl rfl rfl HB5.out.size)
                      clear hb5
                      go_wp2_with fail
                      refine (outcome_bad _ _ _ HN.out).mono ?_
                      rintro e w' ⟨rfl, rfl⟩
                      go_wp2_with fail
                      go_ret
                      exact ⟨rfl, HB6.out⟩
                    exact AllReadyH.nil
                  exact AllReadyH.nil
                exact AllReadyH.nil
              exact AllReadyH.nil
            exact AllReadyH.nil
          refine AllReadyH.cons rfl (fun K hK => ?_) ?_
          · skip
            go_simp
            refine hK.out _ _ ?_ (fun hHeld => ?_)
            · exact hal5 _
            clear hK K
            try simp only [Act.put, List.setIfInBounds_toArray, List.set_cons_zero, List.set_cons_succ]
            refine wpAnyH_ready (rs := [4]) (by kernel_rfl) (by simp) ?_
            refine AllReadyH.cons rfl (fun K hK => ?_) ?_
            · skip
              go_simp
              (with_reducible refine (HNL.out _).mono ?_)
              rintro e w' ⟨rfl, rfl⟩
              go_wp2_with fail
              refine hK.out _ _ ?_ (fun hHeld => ?_)
              · exact hHeld
              clear hK K
              try simp only [Act.put, List.setIfInBounds_toArray, List.set_cons_zero, List.set_cons_succ]
              refine wpAnyH_take (i := 5) (v := ?_) rfl (by kernel_rfl) (by kernel_rfl) (by kernel_rfl) (fun _ _ _ h => h) (Or.inl ⟨by rfl, ?_⟩) (by assumption) ?_
              rotate_left
              · (intro w hSw; (try dsimp only at hSw); go_simp; try with_reducible rfl)
              try simp only [Act.put, List.setIfInBounds_toArray, List.set_cons_zero, List.set_cons_succ]
              refine wpAnyH_take (i := 6) (v := undef) rfl (by kernel_rfl) (by kernel_rfl) (by kernel_rfl) (fun _ _ _ h => h) (Or.inr ⟨by rfl, rfl⟩) (by assumption) ?_
              try simp only [Act.put, List.setIfInBounds_toArray, List.set_cons_zero, List.set_cons_succ]
              refine wpAnyH_take (i := 7) (v := undef) rfl (by kernel_rfl) (by kernel_rfl) (by kernel_rfl) (fun _ _ _ h => h) (Or.inr ⟨by rfl, rfl⟩) (by assumption) ?_
              try simp only [Act.put, List.setIfInBounds_toArray, List.set_cons_zero, List.set_cons_succ]
              refine wpAnyH_take (i := 8) (v := undef) rfl (by kernel_rfl) (by kernel_rfl) (by kernel_rfl) (fun _ _ _ h => h) (Or.inr ⟨by rfl, rfl⟩) (by assumption) ?_
              try simp only [Act.put, List.setIfInBounds_toArray, List.set_cons_zero, List.set_cons_succ]
              refine wpAnyH_take (i := 9) (v := undef) rfl (by kernel_rfl) (by kernel_rfl) (by kernel_rfl) (fun _ _ _ h => h) (Or.inr ⟨by rfl, rfl⟩) (by assumption) ?_
              try simp only [Act.put, List.setIfInBounds_toArray, List.set_cons_zero, List.set_cons_succ]
              refine wpAnyH_take (i := 10) (v := ?_) rfl (by kernel_rfl) (by kernel_rfl) (by kernel_rfl) (fun _ _ _ h => h) (Or.inl ⟨by rfl, ?_⟩) (by assumption) ?_
              rotate_left
              · (intro w hSw; (try dsimp only at hSw); go_simp; try with_reducible rfl)
              try simp only [Act.put, List.setIfInBounds_toArray, List.set_cons_zero, List.set_cons_succ]
              refine wpAnyH_ready (rs := [11]) (by kernel_rfl) (by simp) ?_
              refine AllReadyH.cons rfl (fun K hK => ?_) ?_
              · skip
                go_simp
                (with_reducible refine (HH2.out _).mono ?_)
                rintro e w' ⟨rfl, rfl⟩
                go_wp2_with fail
                refine hK.out _ _ ?_ (fun hHeld => ?_)
                · exact hHeld
                clear hK K
                try simp only [Act.put, List.setIfInBounds_toArray, List.set_cons_zero, List.set_cons_succ]
                refine wpAnyH_ready (rs := [14]) (by kernel_rfl) (by simp) ?_
                refine AllReadyH.cons rfl (fun K hK => ?_) ?_
                · skip
                  go_simp
                  (with_reducible refine (HLG.out w1).mono ?_)
                  rintro e w3 ⟨rfl, hb3⟩
                  have EN := hide (NEnv.next EN.out hb3 rfl rfl rfl rfl (Nat.le_refl _))
                  clear hb3
                  have q5 := EN.out.un.cells.2.2.2.2.2
                  go_wp2_with fail
                  refine hK.out _ _ ?_ (fun hHeld => ?_)
                  · exact q5
                  clear hK K
                  try simp only [Act.put, List.setIfInBounds_toArray, List.set_cons_zero, List.set_cons_succ]
                  refine wpAnyH_ready (rs := [15]) (by kernel_rfl) (by simp) ?_
                  refine AllReadyH.cons rfl (fun K hK => ?_) ?_
                  · skip
                    go_simp
                    refine hK.out _ _ ?_ (fun hHeld => ?_)
                    · exact ((World.cell?_alloc_lt _ _ _ (EN.out.un.lt)).trans q5)
                    clear hK K
                    try simp only [Act.put, List.setIfInBounds_toArray, List.set_cons_zero, List.set_cons_succ]
                    refine wpAnyH_ready (rs := [16]) (by kernel_rfl) (by simp) ?_
                    refine AllReadyH.cons rfl (fun K hK => ?_) ?_
                    · skip
                      go_simp
                      (with_reducible refine (firstThreeN_any w3 3 5 x3).mono ?_)
                      rintro e w4 ⟨rfl, rfl⟩
                      go_wp2_with fail
                      refine hK.out _ _ ?_ (fun hHeld => ?_)
                      · exact hHeld
                      clear hK K
                      try simp only [Act.put, List.setIfInBounds_toArray, List.set_cons_zero, List.set_cons_succ]
                      refine wpAnyH_take (i := 17) (v := ?_) rfl (by kernel_rfl) (by kernel_rfl) (by kernel_rfl) (fun _ _ _ h => h) (Or.inl ⟨by rfl, ?_⟩) (by assumption) ?_
                      rotate_left
                      · (intro w hSw; (try dsimp only at hSw); go_simp; try with_reducible rfl)
                      try simp only [Act.put, List.setIfInBounds_toArray, List.set_cons_zero, List.set_cons_succ]
                      refine wpAnyH_done (by kernel_rfl) ?_ _
                      rw [HE.out]
                      have HB4 := hide EN.out.bel
                      have HB5 := hide (HB4.out.alloc HB4.out.size (.cells #[.int .i64 3, .int .i64 5, .int .i64 x3] 24))
                      obtain ⟨W3, hW3⟩ : ∃ W3, w3.alloc (.cells #[.int .i64 3, .int .i64 5, .int .i64 x3] 24) = W3 := ⟨_, rfl⟩
                      have HW3 := hide hW3
                      rw [hW3] at HB5
                      clear hW3 EN q5
                      (try rw [HW3.out])
                      go_wp2_with fail
                      (try rw [HW3.out])
                      refine (sorts_any _).mono ?_
                      rintro e w5 ⟨rfl, hb5⟩
                      have HB6 := hide (below_next HB5.out hb5 rfl rfl rfl rfl HB5.out.size)
                      clear hb5
                      go_wp2_with fail
                      refine (outcome_bad _ _ _ HN.out).mono ?_
                      rintro e w' ⟨rfl, rfl⟩
                      go_wp2_with fail
                      go_ret
                      exact ⟨rfl, HB6.out⟩
                    exact AllReadyH.nil
                  exact AllReadyH.nil
                exact AllReadyH.nil
              exact AllReadyH.nil
            exact AllReadyH.nil
          exact AllReadyH.nil
        refine AllReadyH.cons rfl (fun K hK => ?_) ?_
        · skip
          go_simp
          refine hK.out _ _ ?_ (fun hHeld => ?_)
          · exact hal5 _
          clear hK K
          try simp only [Act.put, List.setIfInBounds_toArray, List.set_cons_zero, List.set_cons_succ]
          refine wpAnyH_ready (rs := [1]) (by kernel_rfl) (by simp) ?_
          refine AllReadyH.cons rfl (fun K hK => ?_) ?_
          · skip
            go_simp
            (with_reducible refine (HH1.out _).mono ?_)
            rintro e w' ⟨rfl, rfl⟩
            go_wp2_with fail
            refine hK.out _ _ ?_ (fun hHeld => ?_)
            · exact hHeld
            clear hK K
            try simp only [Act.put, List.setIfInBounds_toArray, List.set_cons_zero, List.set_cons_succ]
            refine wpAnyH_ready (rs := [4]) (by kernel_rfl) (by simp) ?_
            refine AllReadyH.cons rfl (fun K hK => ?_) ?_
            · skip
              go_simp
              (with_reducible refine (HNL.out _).mono ?_)
              rintro e w' ⟨rfl, rfl⟩
              go_wp2_with fail
              refine hK.out _ _ ?_ (fun hHeld => ?_)
              · exact hHeld
              clear hK K
              try simp only [Act.put, List.setIfInBounds_toArray, List.set_cons_zero, List.set_cons_succ]
              refine wpAnyH_take (i := 5) (v := ?_) rfl (by kernel_rfl) (by kernel_rfl) (by kernel_rfl) (fun _ _ _ h => h) (Or.inl ⟨by rfl, ?_⟩) (by assumption) ?_
              rotate_left
              · (intro w hSw; (try dsimp only at hSw); go_simp; try with_reducible rfl)
              try simp only [Act.put, List.setIfInBounds_toArray, List.set_cons_zero, List.set_cons_succ]
              refine wpAnyH_take (i := 6) (v := undef) rfl (by kernel_rfl) (by kernel_rfl) (by kernel_rfl) (fun _ _ _ h => h) (Or.inr ⟨by rfl, rfl⟩) (by assumption) ?_
              try simp only [Act.put, List.setIfInBounds_toArray, List.set_cons_zero, List.set_cons_succ]
              refine wpAnyH_take (i := 7) (v := undef) rfl (by kernel_rfl) (by kernel_rfl) (by kernel_rfl) (fun _ _ _ h => h) (Or.inr ⟨by rfl, rfl⟩) (by assumption) ?_
              try simp only [Act.put, List.setIfInBounds_toArray, List.set_cons_zero, List.set_cons_succ]
              refine wpAnyH_take (i := 8) (v := undef) rfl (by kernel_rfl) (by kernel_rfl) (by kernel_rfl) (fun _ _ _ h => h) (Or.inr ⟨by rfl, rfl⟩) (by assumption) ?_
              try simp only [Act.put, List.setIfInBounds_toArray, List.set_cons_zero, List.set_cons_succ]
              refine wpAnyH_take (i := 9) (v := undef) rfl (by kernel_rfl) (by kernel_rfl) (by kernel_rfl) (fun _ _ _ h => h) (Or.inr ⟨by rfl, rfl⟩) (by assumption) ?_
              try simp only [Act.put, List.setIfInBounds_toArray, List.set_cons_zero, List.set_cons_succ]
              refine wpAnyH_take (i := 10) (v := ?_) rfl (by kernel_rfl) (by kernel_rfl) (by kernel_rfl) (fun _ _ _ h => h) (Or.inl ⟨by rfl, ?_⟩) (by assumption) ?_
              rotate_left
              · (intro w hSw; (try dsimp only at hSw); go_simp; try with_reducible rfl)
              try simp only [Act.put, List.setIfInBounds_toArray, List.set_cons_zero, List.set_cons_succ]
              refine wpAnyH_ready (rs := [11]) (by kernel_rfl) (by simp) ?_
              refine AllReadyH.cons rfl (fun K hK => ?_) ?_
              · skip
                go_simp
                (with_reducible refine (HH2.out _).mono ?_)
                rintro e w' ⟨rfl, rfl⟩
                go_wp2_with fail
                refine hK.out _ _ ?_ (fun hHeld => ?_)
                · exact hHeld
                clear hK K
                try simp only [Act.put, List.setIfInBounds_toArray, List.set_cons_zero, List.set_cons_succ]
                refine wpAnyH_ready (rs := [14]) (by kernel_rfl) (by simp) ?_
                refine AllReadyH.cons rfl (fun K hK => ?_) ?_
                · skip
                  go_simp
                  (with_reducible refine (HLG.out w1).mono ?_)
                  rintro e w3 ⟨rfl, hb3⟩
                  have EN := hide (NEnv.next EN.out hb3 rfl rfl rfl rfl (Nat.le_refl _))
                  clear hb3
                  have q5 := EN.out.un.cells.2.2.2.2.2
                  go_wp2_with fail
                  refine hK.out _ _ ?_ (fun hHeld => ?_)
                  · exact q5
                  clear hK K
                  try simp only [Act.put, List.setIfInBounds_toArray, List.set_cons_zero, List.set_cons_succ]
                  refine wpAnyH_ready (rs := [15]) (by kernel_rfl) (by simp) ?_
                  refine AllReadyH.cons rfl (fun K hK => ?_) ?_
                  · skip
                    go_simp
                    refine hK.out _ _ ?_ (fun hHeld => ?_)
                    · exact ((World.cell?_alloc_lt _ _ _ (EN.out.un.lt)).trans q5)
                    clear hK K
                    try simp only [Act.put, List.setIfInBounds_toArray, List.set_cons_zero, List.set_cons_succ]
                    refine wpAnyH_ready (rs := [16]) (by kernel_rfl) (by simp) ?_
                    refine AllReadyH.cons rfl (fun K hK => ?_) ?_
                    · skip
                      go_simp
                      (with_reducible refine (firstThreeN_any w3 3 5 x3).mono ?_)
                      rintro e w4 ⟨rfl, rfl⟩
                      go_wp2_with fail
                      refine hK.out _ _ ?_ (fun hHeld => ?_)
                      · exact hHeld
                      clear hK K
                      try simp only [Act.put, List.setIfInBounds_toArray, List.set_cons_zero, List.set_cons_succ]
                      refine wpAnyH_take (i := 17) (v := ?_) rfl (by kernel_rfl) (by kernel_rfl) (by kernel_rfl) (fun _ _ _ h => h) (Or.inl ⟨by rfl, ?_⟩) (by assumption) ?_
                      rotate_left
                      · (intro w hSw; (try dsimp only at hSw); go_simp; try with_reducible rfl)
                      try simp only [Act.put, List.setIfInBounds_toArray, List.set_cons_zero, List.set_cons_succ]
                      refine wpAnyH_done (by kernel_rfl) ?_ _
                      rw [HE.out]
                      have HB4 := hide EN.out.bel
                      have HB5 := hide (HB4.out.alloc HB4.out.size (.cells #[.int .i64 3, .int .i64 5, .int .i64 x3] 24))
                      obtain ⟨W3, hW3⟩ : ∃ W3, w3.alloc (.cells #[.int .i64 3, .int .i64 5, .int .i64 x3] 24) = W3 := ⟨_, rfl⟩
                      have HW3 := hide hW3
                      rw [hW3] at HB5
                      clear hW3 EN q5
                      (try rw [HW3.out])
                      go_wp2_with fail
                      (try rw [HW3.out])
                      refine (sorts_any _).mono ?_
                      rintro e w5 ⟨rfl, hb5⟩
                      have HB6 := hide (below_next HB5.out hb5 rfl rfl rfl rfl HB5.out.size)
                      clear hb5
                      go_wp2_with fail
                      refine (outcome_bad _ _ _ HN.out).mono ?_
                      rintro e w' ⟨rfl, rfl⟩
                      go_wp2_with fail
                      go_ret
                      exact ⟨rfl, HB6.out⟩
                    exact AllReadyH.nil
                  exact AllReadyH.nil
                exact AllReadyH.nil
              exact AllReadyH.nil
            exact AllReadyH.nil
          exact AllReadyH.nil
        exact AllReadyH.nil
    · go_wp2_with fail
      refine (HWc.out _).mono ?_
      rintro e w' ⟨rfl, rfl⟩
      cases c
      · skip
        cases d
        · by_cases hlong : 1000 < o.sep.size
          · have hlong2 : (1000 : Int) < (o.sep.size : Int) := by omega
            have hlong3 : decide ((1000 : Int) < (o.sep.size : Int)) = true := by simpa using hlong2
            have HE : Hid (firstNZ [(3 : Int), 5, x3] = n) := hide (by rw [← HX.out, show decide (1000 < o.sep.size) = true by simpa using hlong]; rfl)
            have HH1 : Hid (∀ W, Calls Tryz.prog 11 #[.bool true, .int .i64 3] W fun e w' => e = .returned (.int .i64 3) ∧ W = w') := hide (fun W => when_any true 3 W)
            have HH2 : Hid (∀ W, Calls Tryz.prog 11 #[.bool true, .int .i64 5] W fun e w' => e = .returned (.int .i64 5) ∧ W = w') := hide (fun W => when_any true 5 W)
            have EN : Hid (NEnv 64 w.heap.size o w w1) := hide ⟨HN2.out, HB2.out⟩
            clear d0 d1 d2 d3 d4
            go_wp2_with fail
            go_region_held3 (fun w' => w'.cell? ⟨w.heap.size, 5, none⟩ = some (.string o.sep)) (go_keep)
              (first
                | (go_at_call 11; (with_reducible refine (HH1.out _).mono ?_); rintro e w' ⟨rfl, rfl⟩)
                | (go_at_call 11; (with_reducible refine (HH2.out _).mono ?_); rintro e w' ⟨rfl, rfl⟩)
                | (go_at_call 36; (with_reducible refine (HNL.out _).mono ?_); rintro e w' ⟨rfl, rfl⟩)
                | (go_at_call 12; (with_reducible refine (HLG.out w1).mono ?_); rintro e w3 ⟨rfl, hb3⟩; have EN := hide (NEnv.next EN.out hb3 rfl rfl rfl rfl (Nat.le_refl _)); clear hb3; have q5 := EN.out.un.cells.2.2.2.2.2)
                | (go_at_call 10; (with_reducible refine (firstThreeN_any w3 3 5 x3).mono ?_); rintro e w4 ⟨rfl, rfl⟩))
            all_goals
              rw [HE.out]
              have HB4 := hide EN.out.bel
              have HB5 := hide (HB4.out.alloc HB4.out.size (.cells #[.int .i64 3, .int .i64 5, .int .i64 x3] 24))
              obtain ⟨W3, hW3⟩ : ∃ W3, w3.alloc (.cells #[.int .i64 3, .int .i64 5, .int .i64 x3] 24) = W3 := ⟨_, rfl⟩
              have HW3 := hide hW3
              rw [hW3] at HB5
              clear hW3 EN q5
              (try rw [HW3.out])
              go_wp2_with fail
              (try rw [HW3.out])
              refine (sorts_any _).mono ?_
              rintro e w5 ⟨rfl, hb5⟩
              have HB6 := hide (below_next HB5.out hb5 rfl rfl rfl rfl HB5.out.size)
              clear hb5
              go_wp2_with fail
              refine (outcome_bad _ _ _ HN.out).mono ?_
              rintro e w' ⟨rfl, rfl⟩
              go_wp2_with fail
              go_ret
              exact ⟨rfl, HB6.out⟩
          · have hlong2 : ¬ (1000 : Int) < (o.sep.size : Int) := by omega
            have hlong3 : decide ((1000 : Int) < (o.sep.size : Int)) = false := by simpa using hlong2
            have HE : Hid (firstNZ [(3 : Int), 0, x3] = n) := hide (by rw [← HX.out, show decide (1000 < o.sep.size) = false by simpa using hlong]; rfl)
            have HH1 : Hid (∀ W, Calls Tryz.prog 11 #[.bool true, .int .i64 3] W fun e w' => e = .returned (.int .i64 3) ∧ W = w') := hide (fun W => when_any true 3 W)
            have HH2 : Hid (∀ W, Calls Tryz.prog 11 #[.bool false, .int .i64 5] W fun e w' => e = .returned (.int .i64 0) ∧ W = w') := hide (fun W => when_any false 5 W)
            have EN : Hid (NEnv 64 w.heap.size o w w1) := hide ⟨HN2.out, HB2.out⟩
            clear d0 d1 d2 d3 d4
            go_wp2_with fail
            go_region_held3 (fun w' => w'.cell? ⟨w.heap.size, 5, none⟩ = some (.string o.sep)) (go_keep)
              (first
                | (go_at_call 11; (with_reducible refine (HH1.out _).mono ?_); rintro e w' ⟨rfl, rfl⟩)
                | (go_at_call 11; (with_reducible refine (HH2.out _).mono ?_); rintro e w' ⟨rfl, rfl⟩)
                | (go_at_call 36; (with_reducible refine (HNL.out _).mono ?_); rintro e w' ⟨rfl, rfl⟩)
                | (go_at_call 12; (with_reducible refine (HLG.out w1).mono ?_); rintro e w3 ⟨rfl, hb3⟩; have EN := hide (NEnv.next EN.out hb3 rfl rfl rfl rfl (Nat.le_refl _)); clear hb3; have q5 := EN.out.un.cells.2.2.2.2.2)
                | (go_at_call 10; (with_reducible refine (firstThreeN_any w3 3 0 x3).mono ?_); rintro e w4 ⟨rfl, rfl⟩))
            all_goals
              rw [HE.out]
              have HB4 := hide EN.out.bel
              have HB5 := hide (HB4.out.alloc HB4.out.size (.cells #[.int .i64 3, .int .i64 0, .int .i64 x3] 24))
              obtain ⟨W3, hW3⟩ : ∃ W3, w3.alloc (.cells #[.int .i64 3, .int .i64 0, .int .i64 x3] 24) = W3 := ⟨_, rfl⟩
              have HW3 := hide hW3
              rw [hW3] at HB5
              clear hW3 EN q5
              (try rw [HW3.out])
              go_wp2_with fail
              (try rw [HW3.out])
              refine (sorts_any _).mono ?_
              rintro e w5 ⟨rfl, hb5⟩
              have HB6 := hide (below_next HB5.out hb5 rfl rfl rfl rfl HB5.out.size)
              clear hb5
              go_wp2_with fail
              refine (outcome_bad _ _ _ HN.out).mono ?_
              rintro e w' ⟨rfl, rfl⟩
              go_wp2_with fail
              go_ret
              exact ⟨rfl, HB6.out⟩
        · have HE : Hid (firstNZ [(3 : Int), 5, x3] = n) := hide (by rw [← HX.out]; rfl)
          have HH1 : Hid (∀ W, Calls Tryz.prog 11 #[.bool true, .int .i64 3] W fun e w' => e = .returned (.int .i64 3) ∧ W = w') := hide (fun W => when_any true 3 W)
          have HH2 : Hid (∀ W, Calls Tryz.prog 11 #[.bool true, .int .i64 5] W fun e w' => e = .returned (.int .i64 5) ∧ W = w') := hide (fun W => when_any true 5 W)
          have EN : Hid (NEnv 64 w.heap.size o w w1) := hide ⟨HN2.out, HB2.out⟩
          have hal5 : ∀ ob, (w1.alloc ob).drew.cell? ⟨w.heap.size, 5, none⟩ = some (.string o.sep) := fun ob => (World.cell?_alloc_lt _ _ _ HN2.out.lt).trans d5
          clear d0 d1 d2 d3 d4
          go_wp2_with fail
          refine wp_region_held_drew (S := fun w' => w'.cell? ⟨w.heap.size, 5, none⟩ = some (.string o.sep)) (by kernel_rfl) d5 (fun hHeld => ?_)
          refine wpAnyH_take (i := 0) (v := ?_) rfl (by kernel_rfl) (by kernel_rfl) (by kernel_rfl) (fun _ _ _ h => h) (Or.inl ⟨by rfl, ?_⟩) (by assumption) ?_
          rotate_left
          · (intro w hSw; (try dsimp only at hSw); go_simp; try with_reducible rfl)
          try simp only [Act.put, List.setIfInBounds_toArray, List.set_cons_zero, List.set_cons_succ]
          refine wpAnyH_take (i := 2) (v := ?_) rfl (by kernel_rfl) (by kernel_rfl) (by kernel_rfl) (fun _ _ _ h => h) (Or.inl ⟨by rfl, ?_⟩) (by assumption) ?_
          rotate_left
          · (intro w hSw; (try dsimp only at hSw); go_simp; try with_reducible rfl)
          try simp only [Act.put, List.setIfInBounds_toArray, List.set_cons_zero, List.set_cons_succ]
          refine wpAnyH_take (i := 3) (v := ?_) rfl (by kernel_rfl) (by kernel_rfl) (by kernel_rfl) (fun _ _ _ h => h) (Or.inl ⟨by rfl, ?_⟩) (by assumption) ?_
          rotate_left
          · (intro w hSw; (try dsimp only at hSw); go_simp; try with_reducible rfl)
          try simp only [Act.put, List.setIfInBounds_toArray, List.set_cons_zero, List.set_cons_succ]
          refine wpAnyH_take (i := 12) (v := ?_) rfl (by kernel_rfl) (by kernel_rfl) (by kernel_rfl) (fun _ _ _ h => h) (Or.inl ⟨by rfl, ?_⟩) (by assumption) ?_
          rotate_left
          · (intro w hSw; (try dsimp only at hSw); go_simp; try with_reducible rfl)
          try simp only [Act.put, List.setIfInBounds_toArray, List.set_cons_zero, List.set_cons_succ]
          refine wpAnyH_ready (rs := [1, 13]) (by kernel_rfl) (by simp) ?_
          refine AllReadyH.cons rfl (fun K hK => ?_) ?_
          · skip
            go_simp
            (with_reducible refine (HH1.out _).mono ?_)
            rintro e w' ⟨rfl, rfl⟩
            go_wp2_with fail
            refine hK.out _ _ ?_ (fun hHeld => ?_)
            · exact hHeld
            clear hK K
            try simp only [Act.put, List.setIfInBounds_toArray, List.set_cons_zero, List.set_cons_succ]
            refine wpAnyH_ready (rs := [4, 13]) (by kernel_rfl) (by simp) ?_
            refine AllReadyH.cons rfl (fun K hK => ?_) ?_
            · skip
              go_simp
              (with_reducible refine (HNL.out _).mono ?_)
              rintro e w' ⟨rfl, rfl⟩
              go_wp2_with fail
              refine hK.out _ _ ?_ (fun hHeld => ?_)
              · exact hHeld
              clear hK K
              try simp only [Act.put, List.setIfInBounds_toArray, List.set_cons_zero, List.set_cons_succ]
              refine wpAnyH_take (i := 5) (v := ?_) rfl (by kernel_rfl) (by kernel_rfl) (by kernel_rfl) (fun _ _ _ h => h) (Or.inl ⟨by rfl, ?_⟩) (by assumption) ?_
              rotate_left
              · (intro w hSw; (try dsimp only at hSw); go_simp; try with_reducible rfl)
              try simp only [Act.put, List.setIfInBounds_toArray, List.set_cons_zero, List.set_cons_succ]
              refine wpAnyH_take (i := 6) (v := undef) rfl (by kernel_rfl) (by kernel_rfl) (by kernel_rfl) (fun _ _ _ h => h) (Or.inr ⟨by rfl, rfl⟩) (by assumption) ?_
              try simp only [Act.put, List.setIfInBounds_toArray, List.set_cons_zero, List.set_cons_succ]
              refine wpAnyH_take (i := 7) (v := undef) rfl (by kernel_rfl) (by kernel_rfl) (by kernel_rfl) (fun _ _ _ h => h) (Or.inr ⟨by rfl, rfl⟩) (by assumption) ?_
              try simp only [Act.put, List.setIfInBounds_toArray, List.set_cons_zero, List.set_cons_succ]
              refine wpAnyH_take (i := 8) (v := undef) rfl (by kernel_rfl) (by kernel_rfl) (by kernel_rfl) (fun _ _ _ h => h) (Or.inr ⟨by rfl, rfl⟩) (by assumption) ?_
              try simp only [Act.put, List.setIfInBounds_toArray, List.set_cons_zero, List.set_cons_succ]
              refine wpAnyH_take (i := 9) (v := undef) rfl (by kernel_rfl) (by kernel_rfl) (by kernel_rfl) (fun _ _ _ h => h) (Or.inr ⟨by rfl, rfl⟩) (by assumption) ?_
              try simp only [Act.put, List.setIfInBounds_toArray, List.set_cons_zero, List.set_cons_succ]
              refine wpAnyH_take (i := 10) (v := ?_) rfl (by kernel_rfl) (by kernel_rfl) (by kernel_rfl) (fun _ _ _ h => h) (Or.inl ⟨by rfl, ?_⟩) (by assumption) ?_
              rotate_left
              · (intro w hSw; (try dsimp only at hSw); go_simp; try with_reducible rfl)
              try simp only [Act.put, List.setIfInBounds_toArray, List.set_cons_zero, List.set_cons_succ]
              refine wpAnyH_ready (rs := [11, 13]) (by kernel_rfl) (by simp) ?_
              refine AllReadyH.cons rfl (fun K hK => ?_) ?_
              · skip
                go_simp
                (with_reducible refine (HH2.out _).mono ?_)
                rintro e w' ⟨rfl, rfl⟩
                go_wp2_with fail
                refine hK.out _ _ ?_ (fun hHeld => ?_)
                · exact hHeld
                clear hK K
                try simp only [Act.put, List.setIfInBounds_toArray, List.set_cons_zero, List.set_cons_succ]
                refine wpAnyH_ready (rs := [13]) (by kernel_rfl) (by simp) ?_
                refine AllReadyH.cons rfl (fun K hK => ?_) ?_
                · skip
                  go_simp
                  refine hK.out _ _ ?_ (fun hHeld => ?_)
                  · exact hal5 _
                  clear hK K
                  try simp only [Act.put, List.setIfInBounds_toArray, List.set_cons_zero, List.set_cons_succ]
                  refine wpAnyH_ready (rs := [14]) (by kernel_rfl) (by simp) ?_
                  refine AllReadyH.cons rfl (fun K hK => ?_) ?_
                  · skip
                    go_simp
                    (with_reducible refine (HLG.out w1).mono ?_)
                    rintro e w3 ⟨rfl, hb3⟩
                    have EN := hide (NEnv.next EN.out hb3 rfl rfl rfl rfl (Nat.le_refl _))
                    clear hb3
                    have q5 := EN.out.un.cells.2.2.2.2.2
                    go_wp2_with fail
                    refine hK.out _ _ ?_ (fun hHeld => ?_)
                    · exact q5
                    clear hK K
                    try simp only [Act.put, List.setIfInBounds_toArray, List.set_cons_zero, List.set_cons_succ]
                    refine wpAnyH_ready (rs := [15]) (by kernel_rfl) (by simp) ?_
                    refine AllReadyH.cons rfl (fun K hK => ?_) ?_
                    · skip
                      go_simp
                      refine hK.out _ _ ?_ (fun hHeld => ?_)
                      · exact ((World.cell?_alloc_lt _ _ _ (EN.out.un.lt)).trans q5)
                      clear hK K
                      try simp only [Act.put, List.setIfInBounds_toArray, List.set_cons_zero, List.set_cons_succ]
                      refine wpAnyH_ready (rs := [16]) (by kernel_rfl) (by simp) ?_
                      refine AllReadyH.cons rfl (fun K hK => ?_) ?_
                      · skip
                        go_simp
                        (with_reducible refine (firstThreeN_any w3 3 5 x3).mono ?_)
                        rintro e w4 ⟨rfl, rfl⟩
                        go_wp2_with fail
                        refine hK.out _ _ ?_ (fun hHeld => ?_)
                        · exact hHeld
                        clear hK K
                        try simp only [Act.put, List.setIfInBounds_toArray, List.set_cons_zero, List.set_cons_succ]
                        refine wpAnyH_take (i := 17) (v := ?_) rfl (by kernel_rfl) (by kernel_rfl) (by kernel_rfl) (fun _ _ _ h => h) (Or.inl ⟨by rfl, ?_⟩) (by assumption) ?_
                        rotate_left
                        · (intro w hSw; (try dsimp only at hSw); go_simp; try with_reducible rfl)
                        try simp only [Act.put, List.setIfInBounds_toArray, List.set_cons_zero, List.set_cons_succ]
                        refine wpAnyH_done (by kernel_rfl) ?_ _
                        rw [HE.out]
                        have HB4 := hide EN.out.bel
                        have HB5 := hide (HB4.out.alloc HB4.out.size (.cells #[.int .i64 3, .int .i64 5, .int .i64 x3] 24))
                        obtain ⟨W3, hW3⟩ : ∃ W3, w3.alloc (.cells #[.int .i64 3, .int .i64 5, .int .i64 x3] 24) = W3 := ⟨_, rfl⟩
                        have HW3 := hide hW3
                        rw [hW3] at HB5
                        clear hW3 EN q5
                        (try rw [HW3.out])
                        go_wp2_with fail
                        (try rw [HW3.out])
                        refine (sorts_any _).mono ?_
                        rintro e w5 ⟨rfl, hb5⟩
                        have HB6 := hide (below_next HB5.out hb5 rfl rfl rfl rfl HB5.out.size)
                        clear hb5
                        go_wp2_with fail
                        refine (outcome_bad _ _ _ HN.out).mono ?_
                        rintro e w' ⟨rfl, rfl⟩
                        go_wp2_with fail
                        go_ret
                        exact ⟨rfl, HB6.out⟩
                      exact AllReadyH.nil
                    exact AllReadyH.nil
                  exact AllReadyH.nil
                exact AllReadyH.nil
              refine AllReadyH.cons rfl (fun K hK => ?_) ?_
              · skip
                go_simp
                refine hK.out _ _ ?_ (fun hHeld => ?_)
                · exact hal5 _
                clear hK K
                try simp only [Act.put, List.setIfInBounds_toArray, List.set_cons_zero, List.set_cons_succ]
                refine wpAnyH_ready (rs := [11]) (by kernel_rfl) (by simp) ?_
                refine AllReadyH.cons rfl (fun K hK => ?_) ?_
                · skip
                  go_simp
                  (with_reducible refine (HH2.out _).mono ?_)
                  rintro e w' ⟨rfl, rfl⟩
                  go_wp2_with fail
                  refine hK.out _ _ ?_ (fun hHeld => ?_)
                  · exact hHeld
                  clear hK K
                  try simp only [Act.put, List.setIfInBounds_toArray, List.set_cons_zero, List.set_cons_succ]
                  refine wpAnyH_ready (rs := [14]) (by kernel_rfl) (by simp) ?_
                  refine AllReadyH.cons rfl (fun K hK => ?_) ?_
                  · skip
                    go_simp
                    (with_reducible refine (HLG.out w1).mono ?_)
                    rintro e w3 ⟨rfl, hb3⟩
                    have EN := hide (NEnv.next EN.out hb3 rfl rfl rfl rfl (Nat.le_refl _))
                    clear hb3
                    have q5 := EN.out.un.cells.2.2.2.2.2
                    go_wp2_with fail
                    refine hK.out _ _ ?_ (fun hHeld => ?_)
                    · exact q5
                    clear hK K
                    try simp only [Act.put, List.setIfInBounds_toArray, List.set_cons_zero, List.set_cons_succ]
                    refine wpAnyH_ready (rs := [15]) (by kernel_rfl) (by simp) ?_
                    refine AllReadyH.cons rfl (fun K hK => ?_) ?_
                    · skip
                      go_simp
                      refine hK.out _ _ ?_ (fun hHeld => ?_)
                      · exact ((World.cell?_alloc_lt _ _ _ (EN.out.un.lt)).trans q5)
                      clear hK K
                      try simp only [Act.put, List.setIfInBounds_toArray, List.set_cons_zero, List.set_cons_succ]
                      refine wpAnyH_ready (rs := [16]) (by kernel_rfl) (by simp) ?_
                      refine AllReadyH.cons rfl (fun K hK => ?_) ?_
                      · skip
                        go_simp
                        (with_reducible refine (firstThreeN_any w3 3 5 x3).mono ?_)
                        rintro e w4 ⟨rfl, rfl⟩
                        go_wp2_with fail
                        refine hK.out _ _ ?_ (fun hHeld => ?_)
                        · exact hHeld
                        clear hK K
                        try simp only [Act.put, List.setIfInBounds_toArray, List.set_cons_zero, List.set_cons_succ]
                        refine wpAnyH_take (i := 17) (v := ?_) rfl (by kernel_rfl) (by kernel_rfl) (by kernel_rfl) (fun _ _ _ h => h) (Or.inl ⟨by rfl, ?_⟩) (by assumption) ?_
                        rotate_left
                        · (intro w hSw; (try dsimp only at hSw); go_simp; try with_reducible rfl)
                        try simp only [Act.put, List.setIfInBounds_toArray, List.set_cons_zero, List.set_cons_succ]
                        refine wpAnyH_done (by kernel_rfl) ?_ _
                        rw [HE.out]
                        have HB4 := hide EN.out.bel
                        have HB5 := hide (HB4.out.alloc HB4.out.size (.cells #[.int .i64 3, .int .i64 5, .int .i64 x3] 24))
                        obtain ⟨W3, hW3⟩ : ∃ W3, w3.alloc (.cells #[.int .i64 3, .int .i64 5, .int .i64 x3] 24) = W3 := ⟨_, rfl⟩
                        have HW3 := hide hW3
                        rw [hW3] at HB5
                        clear hW3 EN q5
                        (try rw [HW3.out])
                        go_wp2_with fail
                        (try rw [HW3.out])
                        refine (sorts_any _).mono ?_
                        rintro e w5 ⟨rfl, hb5⟩
                        have HB6 := hide (below_next HB5.out hb5 rfl rfl rfl rfl HB5.out.size)
                        clear hb5
                        go_wp2_with fail
                        refine (outcome_bad _ _ _ HN.out).mono ?_
                        rintro e w' ⟨rfl, rfl⟩
                        go_wp2_with fail
                        go_ret
                        exact ⟨rfl, HB6.out⟩
                      exact AllReadyH.nil
                    exact AllReadyH.nil
                  exact AllReadyH.nil
                exact AllReadyH.nil
              exact AllReadyH.nil
            refine AllReadyH.cons rfl (fun K hK => ?_) ?_
            · skip
              go_simp
              refine hK.out _ _ ?_ (fun hHeld => ?_)
              · exact hal5 _
              clear hK K
              try simp only [Act.put, List.setIfInBounds_toArray, List.set_cons_zero, List.set_cons_succ]
              refine wpAnyH_ready (rs := [4]) (by kernel_rfl) (by simp) ?_
              refine AllReadyH.cons rfl (fun K hK => ?_) ?_
              · skip
                go_simp
                (with_reducible refine (HNL.out _).mono ?_)
                rintro e w' ⟨rfl, rfl⟩
                go_wp2_with fail
                refine hK.out _ _ ?_ (fun hHeld => ?_)
                · exact hHeld
                clear hK K
                try simp only [Act.put, List.setIfInBounds_toArray, List.set_cons_zero, List.set_cons_succ]
                refine wpAnyH_take (i := 5) (v := ?_) rfl (by kernel_rfl) (by kernel_rfl) (by kernel_rfl) (fun _ _ _ h => h) (Or.inl ⟨by rfl, ?_⟩) (by assumption) ?_
                rotate_left
                · (intro w hSw; (try dsimp only at hSw); go_simp; try with_reducible rfl)
                try simp only [Act.put, List.setIfInBounds_toArray, List.set_cons_zero, List.set_cons_succ]
                refine wpAnyH_take (i := 6) (v := undef) rfl (by kernel_rfl) (by kernel_rfl) (by kernel_rfl) (fun _ _ _ h => h) (Or.inr ⟨by rfl, rfl⟩) (by assumption) ?_
                try simp only [Act.put, List.setIfInBounds_toArray, List.set_cons_zero, List.set_cons_succ]
                refine wpAnyH_take (i := 7) (v := undef) rfl (by kernel_rfl) (by kernel_rfl) (by kernel_rfl) (fun _ _ _ h => h) (Or.inr ⟨by rfl, rfl⟩) (by assumption) ?_
                try simp only [Act.put, List.setIfInBounds_toArray, List.set_cons_zero, List.set_cons_succ]
                refine wpAnyH_take (i := 8) (v := undef) rfl (by kernel_rfl) (by kernel_rfl) (by kernel_rfl) (fun _ _ _ h => h) (Or.inr ⟨by rfl, rfl⟩) (by assumption) ?_
                try simp only [Act.put, List.setIfInBounds_toArray, List.set_cons_zero, List.set_cons_succ]
                refine wpAnyH_take (i := 9) (v := undef) rfl (by kernel_rfl) (by kernel_rfl) (by kernel_rfl) (fun _ _ _ h => h) (Or.inr ⟨by rfl, rfl⟩) (by assumption) ?_
                try simp only [Act.put, List.setIfInBounds_toArray, List.set_cons_zero, List.set_cons_succ]
                refine wpAnyH_take (i := 10) (v := ?_) rfl (by kernel_rfl) (by kernel_rfl) (by kernel_rfl) (fun _ _ _ h => h) (Or.inl ⟨by rfl, ?_⟩) (by assumption) ?_
                rotate_left
                · (intro w hSw; (try dsimp only at hSw); go_simp; try with_reducible rfl)
                try simp only [Act.put, List.setIfInBounds_toArray, List.set_cons_zero, List.set_cons_succ]
                refine wpAnyH_ready (rs := [11]) (by kernel_rfl) (by simp) ?_
                refine AllReadyH.cons rfl (fun K hK => ?_) ?_
                · skip
                  go_simp
                  (with_reducible refine (HH2.out _).mono ?_)
                  rintro e w' ⟨rfl, rfl⟩
                  go_wp2_with fail
                  refine hK.out _ _ ?_ (fun hHeld => ?_)
                  · exact hHeld
                  clear hK K
                  try simp only [Act.put, List.setIfInBounds_toArray, List.set_cons_zero, List.set_cons_succ]
                  refine wpAnyH_ready (rs := [14]) (by kernel_rfl) (by simp) ?_
                  refine AllReadyH.cons rfl (fun K hK => ?_) ?_
                  · skip
                    go_simp
                    (with_reducible refine (HLG.out w1).mono ?_)
                    rintro e w3 ⟨rfl, hb3⟩
                    have EN := hide (NEnv.next EN.out hb3 rfl rfl rfl rfl (Nat.le_refl _))
                    clear hb3
                    have q5 := EN.out.un.cells.2.2.2.2.2
                    go_wp2_with fail
                    refine hK.out _ _ ?_ (fun hHeld => ?_)
                    · exact q5
                    clear hK K
                    try simp only [Act.put, List.setIfInBounds_toArray, List.set_cons_zero, List.set_cons_succ]
                    refine wpAnyH_ready (rs := [15]) (by kernel_rfl) (by simp) ?_
                    refine AllReadyH.cons rfl (fun K hK => ?_) ?_
                    · skip
                      go_simp
                      refine hK.out _ _ ?_ (fun hHeld => ?_)
                      · exact ((World.cell?_alloc_lt _ _ _ (EN.out.un.lt)).trans q5)
                      clear hK K
                      try simp only [Act.put, List.setIfInBounds_toArray, List.set_cons_zero, List.set_cons_succ]
                      refine wpAnyH_ready (rs := [16]) (by kernel_rfl) (by simp) ?_
                      refine AllReadyH.cons rfl (fun K hK => ?_) ?_
                      · skip
                        go_simp
                        (with_reducible refine (firstThreeN_any w3 3 5 x3).mono ?_)
                        rintro e w4 ⟨rfl, rfl⟩
                        go_wp2_with fail
                        refine hK.out _ _ ?_ (fun hHeld => ?_)
                        · exact hHeld
                        clear hK K
                        try simp only [Act.put, List.setIfInBounds_toArray, List.set_cons_zero, List.set_cons_succ]
                        refine wpAnyH_take (i := 17) (v := ?_) rfl (by kernel_rfl) (by kernel_rfl) (by kernel_rfl) (fun _ _ _ h => h) (Or.inl ⟨by rfl, ?_⟩) (by assumption) ?_
                        rotate_left
                        · (intro w hSw; (try dsimp only at hSw); go_simp; try with_reducible rfl)
                        try simp only [Act.put, List.setIfInBounds_toArray, List.set_cons_zero, List.set_cons_succ]
                        refine wpAnyH_done (by kernel_rfl) ?_ _
                        rw [HE.out]
                        have HB4 := hide EN.out.bel
                        have HB5 := hide (HB4.out.alloc HB4.out.size (.cells #[.int .i64 3, .int .i64 5, .int .i64 x3] 24))
                        obtain ⟨W3, hW3⟩ : ∃ W3, w3.alloc (.cells #[.int .i64 3, .int .i64 5, .int .i64 x3] 24) = W3 := ⟨_, rfl⟩
                        have HW3 := hide hW3
                        rw [hW3] at HB5
                        clear hW3 EN q5
                        (try rw [HW3.out])
                        go_wp2_with fail
                        (try rw [HW3.out])
                        refine (sorts_any _).mono ?_
                        rintro e w5 ⟨rfl, hb5⟩
                        have HB6 := hide (below_next HB5.out hb5 rfl rfl rfl rfl HB5.out.size)
                        clear hb5
                        go_wp2_with fail
                        refine (outcome_bad _ _ _ HN.out).mono ?_
                        rintro e w' ⟨rfl, rfl⟩
                        go_wp2_with fail
                        go_ret
                        exact ⟨rfl, HB6.out⟩
                      exact AllReadyH.nil
                    exact AllReadyH.nil
                  exact AllReadyH.nil
                exact AllReadyH.nil
              exact AllReadyH.nil
            exact AllReadyH.nil
          refine AllReadyH.cons rfl (fun K hK => ?_) ?_
          · skip
            go_simp
            refine hK.out _ _ ?_ (fun hHeld => ?_)
            · exact hal5 _
            clear hK K
            try simp only [Act.put, List.setIfInBounds_toArray, List.set_cons_zero, List.set_cons_succ]
            refine wpAnyH_ready (rs := [1]) (by kernel_rfl) (by simp) ?_
            refine AllReadyH.cons rfl (fun K hK => ?_) ?_
            · skip
              go_simp
              (with_reducible refine (HH1.out _).mono ?_)
              rintro e w' ⟨rfl, rfl⟩
              go_wp2_with fail
              refine hK.out _ _ ?_ (fun hHeld => ?_)
              · exact hHeld
              clear hK K
              try simp only [Act.put, List.setIfInBounds_toArray, List.set_cons_zero, List.set_cons_succ]
              refine wpAnyH_ready (rs := [4]) (by kernel_rfl) (by simp) ?_
              refine AllReadyH.cons rfl (fun K hK => ?_) ?_
              · skip
                go_simp
                (with_reducible refine (HNL.out _).mono ?_)
                rintro e w' ⟨rfl, rfl⟩
                go_wp2_with fail
                refine hK.out _ _ ?_ (fun hHeld => ?_)
                · exact hHeld
                clear hK K
                try simp only [Act.put, List.setIfInBounds_toArray, List.set_cons_zero, List.set_cons_succ]
                refine wpAnyH_take (i := 5) (v := ?_) rfl (by kernel_rfl) (by kernel_rfl) (by kernel_rfl) (fun _ _ _ h => h) (Or.inl ⟨by rfl, ?_⟩) (by assumption) ?_
                rotate_left
                · (intro w hSw; (try dsimp only at hSw); go_simp; try with_reducible rfl)
                try simp only [Act.put, List.setIfInBounds_toArray, List.set_cons_zero, List.set_cons_succ]
                refine wpAnyH_take (i := 6) (v := undef) rfl (by kernel_rfl) (by kernel_rfl) (by kernel_rfl) (fun _ _ _ h => h) (Or.inr ⟨by rfl, rfl⟩) (by assumption) ?_
                try simp only [Act.put, List.setIfInBounds_toArray, List.set_cons_zero, List.set_cons_succ]
                refine wpAnyH_take (i := 7) (v := undef) rfl (by kernel_rfl) (by kernel_rfl) (by kernel_rfl) (fun _ _ _ h => h) (Or.inr ⟨by rfl, rfl⟩) (by assumption) ?_
                try simp only [Act.put, List.setIfInBounds_toArray, List.set_cons_zero, List.set_cons_succ]
                refine wpAnyH_take (i := 8) (v := undef) rfl (by kernel_rfl) (by kernel_rfl) (by kernel_rfl) (fun _ _ _ h => h) (Or.inr ⟨by rfl, rfl⟩) (by assumption) ?_
                try simp only [Act.put, List.setIfInBounds_toArray, List.set_cons_zero, List.set_cons_succ]
                refine wpAnyH_take (i := 9) (v := undef) rfl (by kernel_rfl) (by kernel_rfl) (by kernel_rfl) (fun _ _ _ h => h) (Or.inr ⟨by rfl, rfl⟩) (by assumption) ?_
                try simp only [Act.put, List.setIfInBounds_toArray, List.set_cons_zero, List.set_cons_succ]
                refine wpAnyH_take (i := 10) (v := ?_) rfl (by kernel_rfl) (by kernel_rfl) (by kernel_rfl) (fun _ _ _ h => h) (Or.inl ⟨by rfl, ?_⟩) (by assumption) ?_
                rotate_left
                · (intro w hSw; (try dsimp only at hSw); go_simp; try with_reducible rfl)
                try simp only [Act.put, List.setIfInBounds_toArray, List.set_cons_zero, List.set_cons_succ]
                refine wpAnyH_ready (rs := [11]) (by kernel_rfl) (by simp) ?_
                refine AllReadyH.cons rfl (fun K hK => ?_) ?_
                · skip
                  go_simp
                  (with_reducible refine (HH2.out _).mono ?_)
                  rintro e w' ⟨rfl, rfl⟩
                  go_wp2_with fail
                  refine hK.out _ _ ?_ (fun hHeld => ?_)
                  · exact hHeld
                  clear hK K
                  try simp only [Act.put, List.setIfInBounds_toArray, List.set_cons_zero, List.set_cons_succ]
                  refine wpAnyH_ready (rs := [14]) (by kernel_rfl) (by simp) ?_
                  refine AllReadyH.cons rfl (fun K hK => ?_) ?_
                  · skip
                    go_simp
                    (with_reducible refine (HLG.out w1).mono ?_)
                    rintro e w3 ⟨rfl, hb3⟩
                    have EN := hide (NEnv.next EN.out hb3 rfl rfl rfl rfl (Nat.le_refl _))
                    clear hb3
                    have q5 := EN.out.un.cells.2.2.2.2.2
                    go_wp2_with fail
                    refine hK.out _ _ ?_ (fun hHeld => ?_)
                    · exact q5
                    clear hK K
                    try simp only [Act.put, List.setIfInBounds_toArray, List.set_cons_zero, List.set_cons_succ]
                    refine wpAnyH_ready (rs := [15]) (by kernel_rfl) (by simp) ?_
                    refine AllReadyH.cons rfl (fun K hK => ?_) ?_
                    · skip
                      go_simp
                      refine hK.out _ _ ?_ (fun hHeld => ?_)
                      · exact ((World.cell?_alloc_lt _ _ _ (EN.out.un.lt)).trans q5)
                      clear hK K
                      try simp only [Act.put, List.setIfInBounds_toArray, List.set_cons_zero, List.set_cons_succ]
                      refine wpAnyH_ready (rs := [16]) (by kernel_rfl) (by simp) ?_
                      refine AllReadyH.cons rfl (fun K hK => ?_) ?_
                      · skip
                        go_simp
                        (with_reducible refine (firstThreeN_any w3 3 5 x3).mono ?_)
                        rintro e w4 ⟨rfl, rfl⟩
                        go_wp2_with fail
                        refine hK.out _ _ ?_ (fun hHeld => ?_)
                        · exact hHeld
                        clear hK K
                        try simp only [Act.put, List.setIfInBounds_toArray, List.set_cons_zero, List.set_cons_succ]
                        refine wpAnyH_take (i := 17) (v := ?_) rfl (by kernel_rfl) (by kernel_rfl) (by kernel_rfl) (fun _ _ _ h => h) (Or.inl ⟨by rfl, ?_⟩) (by assumption) ?_
                        rotate_left
                        · (intro w hSw; (try dsimp only at hSw); go_simp; try with_reducible rfl)
                        try simp only [Act.put, List.setIfInBounds_toArray, List.set_cons_zero, List.set_cons_succ]
                        refine wpAnyH_done (by kernel_rfl) ?_ _
                        rw [HE.out]
                        have HB4 := hide EN.out.bel
                        have HB5 := hide (HB4.out.alloc HB4.out.size (.cells #[.int .i64 3, .int .i64 5, .int .i64 x3] 24))
                        obtain ⟨W3, hW3⟩ : ∃ W3, w3.alloc (.cells #[.int .i64 3, .int .i64 5, .int .i64 x3] 24) = W3 := ⟨_, rfl⟩
                        have HW3 := hide hW3
                        rw [hW3] at HB5
                        clear hW3 EN q5
                        (try rw [HW3.out])
                        go_wp2_with fail
                        (try rw [HW3.out])
                        refine (sorts_any _).mono ?_
                        rintro e w5 ⟨rfl, hb5⟩
                        have HB6 := hide (below_next HB5.out hb5 rfl rfl rfl rfl HB5.out.size)
                        clear hb5
                        go_wp2_with fail
                        refine (outcome_bad _ _ _ HN.out).mono ?_
                        rintro e w' ⟨rfl, rfl⟩
                        go_wp2_with fail
                        go_ret
                        exact ⟨rfl, HB6.out⟩
                      exact AllReadyH.nil
                    exact AllReadyH.nil
                  exact AllReadyH.nil
                exact AllReadyH.nil
              exact AllReadyH.nil
            exact AllReadyH.nil
          exact AllReadyH.nil
      · skip
        cases d
        · by_cases hlong : 1000 < o.sep.size
          · have hlong2 : (1000 : Int) < (o.sep.size : Int) := by omega
            have hlong3 : decide ((1000 : Int) < (o.sep.size : Int)) = true := by simpa using hlong2
            have HE : Hid (firstNZ [(0 : Int), 5, x3] = n) := hide (by rw [← HX.out, show decide (1000 < o.sep.size) = true by simpa using hlong]; rfl)
            have HH1 : Hid (∀ W, Calls Tryz.prog 11 #[.bool false, .int .i64 3] W fun e w' => e = .returned (.int .i64 0) ∧ W = w') := hide (fun W => when_any false 3 W)
            have HH2 : Hid (∀ W, Calls Tryz.prog 11 #[.bool true, .int .i64 5] W fun e w' => e = .returned (.int .i64 5) ∧ W = w') := hide (fun W => when_any true 5 W)
            have EN : Hid (NEnv 64 w.heap.size o w w1) := hide ⟨HN2.out, HB2.out⟩
            clear d0 d1 d2 d3 d4
            go_wp2_with fail
            go_region_held3 (fun w' => w'.cell? ⟨w.heap.size, 5, none⟩ = some (.string o.sep)) (go_keep)
              (first
                | (go_at_call 11; (with_reducible refine (HH1.out _).mono ?_); rintro e w' ⟨rfl, rfl⟩)
                | (go_at_call 11; (with_reducible refine (HH2.out _).mono ?_); rintro e w' ⟨rfl, rfl⟩)
                | (go_at_call 36; (with_reducible refine (HNL.out _).mono ?_); rintro e w' ⟨rfl, rfl⟩)
                | (go_at_call 12; (with_reducible refine (HLG.out w1).mono ?_); rintro e w3 ⟨rfl, hb3⟩; have EN := hide (NEnv.next EN.out hb3 rfl rfl rfl rfl (Nat.le_refl _)); clear hb3; have q5 := EN.out.un.cells.2.2.2.2.2)
                | (go_at_call 10; (with_reducible refine (firstThreeN_any w3 0 5 x3).mono ?_); rintro e w4 ⟨rfl, rfl⟩))
            all_goals
              rw [HE.out]
              have HB4 := hide EN.out.bel
              have HB5 := hide (HB4.out.alloc HB4.out.size (.cells #[.int .i64 0, .int .i64 5, .int .i64 x3] 24))
              obtain ⟨W3, hW3⟩ : ∃ W3, w3.alloc (.cells #[.int .i64 0, .int .i64 5, .int .i64 x3] 24) = W3 := ⟨_, rfl⟩
              have HW3 := hide hW3
              rw [hW3] at HB5
              clear hW3 EN q5
              (try rw [HW3.out])
              go_wp2_with fail
              (try rw [HW3.out])
              refine (sorts_any _).mono ?_
              rintro e w5 ⟨rfl, hb5⟩
              have HB6 := hide (below_next HB5.out hb5 rfl rfl rfl rfl HB5.out.size)
              clear hb5
              go_wp2_with fail
              refine (outcome_bad _ _ _ HN.out).mono ?_
              rintro e w' ⟨rfl, rfl⟩
              go_wp2_with fail
              go_ret
              exact ⟨rfl, HB6.out⟩
          · have hlong2 : ¬ (1000 : Int) < (o.sep.size : Int) := by omega
            have hlong3 : decide ((1000 : Int) < (o.sep.size : Int)) = false := by simpa using hlong2
            have HE : Hid (firstNZ [(0 : Int), 0, x3] = n) := hide (by rw [← HX.out, show decide (1000 < o.sep.size) = false by simpa using hlong]; rfl)
            have HH1 : Hid (∀ W, Calls Tryz.prog 11 #[.bool false, .int .i64 3] W fun e w' => e = .returned (.int .i64 0) ∧ W = w') := hide (fun W => when_any false 3 W)
            have HH2 : Hid (∀ W, Calls Tryz.prog 11 #[.bool false, .int .i64 5] W fun e w' => e = .returned (.int .i64 0) ∧ W = w') := hide (fun W => when_any false 5 W)
            have EN : Hid (NEnv 64 w.heap.size o w w1) := hide ⟨HN2.out, HB2.out⟩
            clear d0 d1 d2 d3 d4
            go_wp2_with fail
            go_region_held3 (fun w' => w'.cell? ⟨w.heap.size, 5, none⟩ = some (.string o.sep)) (go_keep)
              (first
                | (go_at_call 11; (with_reducible refine (HH1.out _).mono ?_); rintro e w' ⟨rfl, rfl⟩)
                | (go_at_call 11; (with_reducible refine (HH2.out _).mono ?_); rintro e w' ⟨rfl, rfl⟩)
                | (go_at_call 36; (with_reducible refine (HNL.out _).mono ?_); rintro e w' ⟨rfl, rfl⟩)
                | (go_at_call 12; (with_reducible refine (HLG.out w1).mono ?_); rintro e w3 ⟨rfl, hb3⟩; have EN := hide (NEnv.next EN.out hb3 rfl rfl rfl rfl (Nat.le_refl _)); clear hb3; have q5 := EN.out.un.cells.2.2.2.2.2)
                | (go_at_call 10; (with_reducible refine (firstThreeN_any w3 0 0 x3).mono ?_); rintro e w4 ⟨rfl, rfl⟩))
            all_goals
              rw [HE.out]
              have HB4 := hide EN.out.bel
              have HB5 := hide (HB4.out.alloc HB4.out.size (.cells #[.int .i64 0, .int .i64 0, .int .i64 x3] 24))
              obtain ⟨W3, hW3⟩ : ∃ W3, w3.alloc (.cells #[.int .i64 0, .int .i64 0, .int .i64 x3] 24) = W3 := ⟨_, rfl⟩
              have HW3 := hide hW3
              rw [hW3] at HB5
              clear hW3 EN q5
              (try rw [HW3.out])
              go_wp2_with fail
              (try rw [HW3.out])
              refine (sorts_any _).mono ?_
              rintro e w5 ⟨rfl, hb5⟩
              have HB6 := hide (below_next HB5.out hb5 rfl rfl rfl rfl HB5.out.size)
              clear hb5
              go_wp2_with fail
              refine (outcome_bad _ _ _ HN.out).mono ?_
              rintro e w' ⟨rfl, rfl⟩
              go_wp2_with fail
              go_ret
              exact ⟨rfl, HB6.out⟩
        · have HE : Hid (firstNZ [(0 : Int), 5, x3] = n) := hide (by rw [← HX.out]; rfl)
          have HH1 : Hid (∀ W, Calls Tryz.prog 11 #[.bool false, .int .i64 3] W fun e w' => e = .returned (.int .i64 0) ∧ W = w') := hide (fun W => when_any false 3 W)
          have HH2 : Hid (∀ W, Calls Tryz.prog 11 #[.bool true, .int .i64 5] W fun e w' => e = .returned (.int .i64 5) ∧ W = w') := hide (fun W => when_any true 5 W)
          have EN : Hid (NEnv 64 w.heap.size o w w1) := hide ⟨HN2.out, HB2.out⟩
          have hal5 : ∀ ob, (w1.alloc ob).drew.cell? ⟨w.heap.size, 5, none⟩ = some (.string o.sep) := fun ob => (World.cell?_alloc_lt _ _ _ HN2.out.lt).trans d5
          clear d0 d1 d2 d3 d4
          go_wp2_with fail
          refine wp_region_held_drew (S := fun w' => w'.cell? ⟨w.heap.size, 5, none⟩ = some (.string o.sep)) (by kernel_rfl) d5 (fun hHeld => ?_)
          refine wpAnyH_take (i := 0) (v := ?_) rfl (by kernel_rfl) (by kernel_rfl) (by kernel_rfl) (fun _ _ _ h => h) (Or.inl ⟨by rfl, ?_⟩) (by assumption) ?_
          rotate_left
          · (intro w hSw; (try dsimp only at hSw); go_simp; try with_reducible rfl)
          try simp only [Act.put, List.setIfInBounds_toArray, List.set_cons_zero, List.set_cons_succ]
          refine wpAnyH_take (i := 2) (v := ?_) rfl (by kernel_rfl) (by kernel_rfl) (by kernel_rfl) (fun _ _ _ h => h) (Or.inl ⟨by rfl, ?_⟩) (by assumption) ?_
          rotate_left
          · (intro w hSw; (try dsimp only at hSw); go_simp; try with_reducible rfl)
          try simp only [Act.put, List.setIfInBounds_toArray, List.set_cons_zero, List.set_cons_succ]
          refine wpAnyH_take (i := 3) (v := ?_) rfl (by kernel_rfl) (by kernel_rfl) (by kernel_rfl) (fun _ _ _ h => h) (Or.inl ⟨by rfl, ?_⟩) (by assumption) ?_
          rotate_left
          · (intro w hSw; (try dsimp only at hSw); go_simp; try with_reducible rfl)
          try simp only [Act.put, List.setIfInBounds_toArray, List.set_cons_zero, List.set_cons_succ]
          refine wpAnyH_take (i := 12) (v := ?_) rfl (by kernel_rfl) (by kernel_rfl) (by kernel_rfl) (fun _ _ _ h => h) (Or.inl ⟨by rfl, ?_⟩) (by assumption) ?_
          rotate_left
          · (intro w hSw; (try dsimp only at hSw); go_simp; try with_reducible rfl)
          try simp only [Act.put, List.setIfInBounds_toArray, List.set_cons_zero, List.set_cons_succ]
          refine wpAnyH_ready (rs := [1, 13]) (by kernel_rfl) (by simp) ?_
          refine AllReadyH.cons rfl (fun K hK => ?_) ?_
          · skip
            go_simp
            (with_reducible refine (HH1.out _).mono ?_)
            rintro e w' ⟨rfl, rfl⟩
            go_wp2_with fail
            refine hK.out _ _ ?_ (fun hHeld => ?_)
            · exact hHeld
            clear hK K
            try simp only [Act.put, List.setIfInBounds_toArray, List.set_cons_zero, List.set_cons_succ]
            refine wpAnyH_ready (rs := [4, 13]) (by kernel_rfl) (by simp) ?_
            refine AllReadyH.cons rfl (fun K hK => ?_) ?_
            · skip
              go_simp
              (with_reducible refine (HNL.out _).mono ?_)
              rintro e w' ⟨rfl, rfl⟩
              go_wp2_with fail
              refine hK.out _ _ ?_ (fun hHeld => ?_)
              · exact hHeld
              clear hK K
              try simp only [Act.put, List.setIfInBounds_toArray, List.set_cons_zero, List.set_cons_succ]
              refine wpAnyH_take (i := 5) (v := ?_) rfl (by kernel_rfl) (by kernel_rfl) (by kernel_rfl) (fun _ _ _ h => h) (Or.inl ⟨by rfl, ?_⟩) (by assumption) ?_
              rotate_left
              · (intro w hSw; (try dsimp only at hSw); go_simp; try with_reducible rfl)
              try simp only [Act.put, List.setIfInBounds_toArray, List.set_cons_zero, List.set_cons_succ]
              refine wpAnyH_take (i := 6) (v := undef) rfl (by kernel_rfl) (by kernel_rfl) (by kernel_rfl) (fun _ _ _ h => h) (Or.inr ⟨by rfl, rfl⟩) (by assumption) ?_
              try simp only [Act.put, List.setIfInBounds_toArray, List.set_cons_zero, List.set_cons_succ]
              refine wpAnyH_take (i := 7) (v := undef) rfl (by kernel_rfl) (by kernel_rfl) (by kernel_rfl) (fun _ _ _ h => h) (Or.inr ⟨by rfl, rfl⟩) (by assumption) ?_
              try simp only [Act.put, List.setIfInBounds_toArray, List.set_cons_zero, List.set_cons_succ]
              refine wpAnyH_take (i := 8) (v := undef) rfl (by kernel_rfl) (by kernel_rfl) (by kernel_rfl) (fun _ _ _ h => h) (Or.inr ⟨by rfl, rfl⟩) (by assumption) ?_
              try simp only [Act.put, List.setIfInBounds_toArray, List.set_cons_zero, List.set_cons_succ]
              refine wpAnyH_take (i := 9) (v := undef) rfl (by kernel_rfl) (by kernel_rfl) (by kernel_rfl) (fun _ _ _ h => h) (Or.inr ⟨by rfl, rfl⟩) (by assumption) ?_
              try simp only [Act.put, List.setIfInBounds_toArray, List.set_cons_zero, List.set_cons_succ]
              refine wpAnyH_take (i := 10) (v := ?_) rfl (by kernel_rfl) (by kernel_rfl) (by kernel_rfl) (fun _ _ _ h => h) (Or.inl ⟨by rfl, ?_⟩) (by assumption) ?_
              rotate_left
              · (intro w hSw; (try dsimp only at hSw); go_simp; try with_reducible rfl)
              try simp only [Act.put, List.setIfInBounds_toArray, List.set_cons_zero, List.set_cons_succ]
              refine wpAnyH_ready (rs := [11, 13]) (by kernel_rfl) (by simp) ?_
              refine AllReadyH.cons rfl (fun K hK => ?_) ?_
              · skip
                go_simp
                (with_reducible refine (HH2.out _).mono ?_)
                rintro e w' ⟨rfl, rfl⟩
                go_wp2_with fail
                refine hK.out _ _ ?_ (fun hHeld => ?_)
                · exact hHeld
                clear hK K
                try simp only [Act.put, List.setIfInBounds_toArray, List.set_cons_zero, List.set_cons_succ]
                refine wpAnyH_ready (rs := [13]) (by kernel_rfl) (by simp) ?_
                refine AllReadyH.cons rfl (fun K hK => ?_) ?_
                · skip
                  go_simp
                  refine hK.out _ _ ?_ (fun hHeld => ?_)
                  · exact hal5 _
                  clear hK K
                  try simp only [Act.put, List.setIfInBounds_toArray, List.set_cons_zero, List.set_cons_succ]
                  refine wpAnyH_ready (rs := [14]) (by kernel_rfl) (by simp) ?_
                  refine AllReadyH.cons rfl (fun K hK => ?_) ?_
                  · skip
                    go_simp
                    (with_reducible refine (HLG.out w1).mono ?_)
                    rintro e w3 ⟨rfl, hb3⟩
                    have EN := hide (NEnv.next EN.out hb3 rfl rfl rfl rfl (Nat.le_refl _))
                    clear hb3
                    have q5 := EN.out.un.cells.2.2.2.2.2
                    go_wp2_with fail
                    refine hK.out _ _ ?_ (fun hHeld => ?_)
                    · exact q5
                    clear hK K
                    try simp only [Act.put, List.setIfInBounds_toArray, List.set_cons_zero, List.set_cons_succ]
                    refine wpAnyH_ready (rs := [15]) (by kernel_rfl) (by simp) ?_
                    refine AllReadyH.cons rfl (fun K hK => ?_) ?_
                    · skip
                      go_simp
                      refine hK.out _ _ ?_ (fun hHeld => ?_)
                      · exact ((World.cell?_alloc_lt _ _ _ (EN.out.un.lt)).trans q5)
                      clear hK K
                      try simp only [Act.put, List.setIfInBounds_toArray, List.set_cons_zero, List.set_cons_succ]
                      refine wpAnyH_ready (rs := [16]) (by kernel_rfl) (by simp) ?_
                      refine AllReadyH.cons rfl (fun K hK => ?_) ?_
                      · skip
                        go_simp
                        (with_reducible refine (firstThreeN_any w3 0 5 x3).mono ?_)
                        rintro e w4 ⟨rfl, rfl⟩
                        go_wp2_with fail
                        refine hK.out _ _ ?_ (fun hHeld => ?_)
                        · exact hHeld
                        clear hK K
                        try simp only [Act.put, List.setIfInBounds_toArray, List.set_cons_zero, List.set_cons_succ]
                        refine wpAnyH_take (i := 17) (v := ?_) rfl (by kernel_rfl) (by kernel_rfl) (by kernel_rfl) (fun _ _ _ h => h) (Or.inl ⟨by rfl, ?_⟩) (by assumption) ?_
                        rotate_left
                        · (intro w hSw; (try dsimp only at hSw); go_simp; try with_reducible rfl)
                        try simp only [Act.put, List.setIfInBounds_toArray, List.set_cons_zero, List.set_cons_succ]
                        refine wpAnyH_done (by kernel_rfl) ?_ _
                        rw [HE.out]
                        have HB4 := hide EN.out.bel
                        have HB5 := hide (HB4.out.alloc HB4.out.size (.cells #[.int .i64 0, .int .i64 5, .int .i64 x3] 24))
                        obtain ⟨W3, hW3⟩ : ∃ W3, w3.alloc (.cells #[.int .i64 0, .int .i64 5, .int .i64 x3] 24) = W3 := ⟨_, rfl⟩
                        have HW3 := hide hW3
                        rw [hW3] at HB5
                        clear hW3 EN q5
                        (try rw [HW3.out])
                        go_wp2_with fail
                        (try rw [HW3.out])
                        refine (sorts_any _).mono ?_
                        rintro e w5 ⟨rfl, hb5⟩
                        have HB6 := hide (below_next HB5.out hb5 rfl rfl rfl rfl HB5.out.size)
                        clear hb5
                        go_wp2_with fail
                        refine (outcome_bad _ _ _ HN.out).mono ?_
                        rintro e w' ⟨rfl, rfl⟩
                        go_wp2_with fail
                        go_ret
                        exact ⟨rfl, HB6.out⟩
                      exact AllReadyH.nil
                    exact AllReadyH.nil
                  exact AllReadyH.nil
                exact AllReadyH.nil
              refine AllReadyH.cons rfl (fun K hK => ?_) ?_
              · skip
                go_simp
                refine hK.out _ _ ?_ (fun hHeld => ?_)
                · exact hal5 _
                clear hK K
                try simp only [Act.put, List.setIfInBounds_toArray, List.set_cons_zero, List.set_cons_succ]
                refine wpAnyH_ready (rs := [11]) (by kernel_rfl) (by simp) ?_
                refine AllReadyH.cons rfl (fun K hK => ?_) ?_
                · skip
                  go_simp
                  (with_reducible refine (HH2.out _).mono ?_)
                  rintro e w' ⟨rfl, rfl⟩
                  go_wp2_with fail
                  refine hK.out _ _ ?_ (fun hHeld => ?_)
                  · exact hHeld
                  clear hK K
                  try simp only [Act.put, List.setIfInBounds_toArray, List.set_cons_zero, List.set_cons_succ]
                  refine wpAnyH_ready (rs := [14]) (by kernel_rfl) (by simp) ?_
                  refine AllReadyH.cons rfl (fun K hK => ?_) ?_
                  · skip
                    go_simp
                    (with_reducible refine (HLG.out w1).mono ?_)
                    rintro e w3 ⟨rfl, hb3⟩
                    have EN := hide (NEnv.next EN.out hb3 rfl rfl rfl rfl (Nat.le_refl _))
                    clear hb3
                    have q5 := EN.out.un.cells.2.2.2.2.2
                    go_wp2_with fail
                    refine hK.out _ _ ?_ (fun hHeld => ?_)
                    · exact q5
                    clear hK K
                    try simp only [Act.put, List.setIfInBounds_toArray, List.set_cons_zero, List.set_cons_succ]
                    refine wpAnyH_ready (rs := [15]) (by kernel_rfl) (by simp) ?_
                    refine AllReadyH.cons rfl (fun K hK => ?_) ?_
                    · skip
                      go_simp
                      refine hK.out _ _ ?_ (fun hHeld => ?_)
                      · exact ((World.cell?_alloc_lt _ _ _ (EN.out.un.lt)).trans q5)
                      clear hK K
                      try simp only [Act.put, List.setIfInBounds_toArray, List.set_cons_zero, List.set_cons_succ]
                      refine wpAnyH_ready (rs := [16]) (by kernel_rfl) (by simp) ?_
                      refine AllReadyH.cons rfl (fun K hK => ?_) ?_
                      · skip
                        go_simp
                        (with_reducible refine (firstThreeN_any w3 0 5 x3).mono ?_)
                        rintro e w4 ⟨rfl, rfl⟩
                        go_wp2_with fail
                        refine hK.out _ _ ?_ (fun hHeld => ?_)
                        · exact hHeld
                        clear hK K
                        try simp only [Act.put, List.setIfInBounds_toArray, List.set_cons_zero, List.set_cons_succ]
                        refine wpAnyH_take (i := 17) (v := ?_) rfl (by kernel_rfl) (by kernel_rfl) (by kernel_rfl) (fun _ _ _ h => h) (Or.inl ⟨by rfl, ?_⟩) (by assumption) ?_
                        rotate_left
                        · (intro w hSw; (try dsimp only at hSw); go_simp; try with_reducible rfl)
                        try simp only [Act.put, List.setIfInBounds_toArray, List.set_cons_zero, List.set_cons_succ]
                        refine wpAnyH_done (by kernel_rfl) ?_ _
                        rw [HE.out]
                        have HB4 := hide EN.out.bel
                        have HB5 := hide (HB4.out.alloc HB4.out.size (.cells #[.int .i64 0, .int .i64 5, .int .i64 x3] 24))
                        obtain ⟨W3, hW3⟩ : ∃ W3, w3.alloc (.cells #[.int .i64 0, .int .i64 5, .int .i64 x3] 24) = W3 := ⟨_, rfl⟩
                        have HW3 := hide hW3
                        rw [hW3] at HB5
                        clear hW3 EN q5
                        (try rw [HW3.out])
                        go_wp2_with fail
                        (try rw [HW3.out])
                        refine (sorts_any _).mono ?_
                        rintro e w5 ⟨rfl, hb5⟩
                        have HB6 := hide (below_next HB5.out hb5 rfl rfl rfl rfl HB5.out.size)
                        clear hb5
                        go_wp2_with fail
                        refine (outcome_bad _ _ _ HN.out).mono ?_
                        rintro e w' ⟨rfl, rfl⟩
                        go_wp2_with fail
                        go_ret
                        exact ⟨rfl, HB6.out⟩
                      exact AllReadyH.nil
                    exact AllReadyH.nil
                  exact AllReadyH.nil
                exact AllReadyH.nil
              exact AllReadyH.nil
            refine AllReadyH.cons rfl (fun K hK => ?_) ?_
            · skip
              go_simp
              refine hK.out _ _ ?_ (fun hHeld => ?_)
              · exact hal5 _
              clear hK K
              try simp only [Act.put, List.setIfInBounds_toArray, List.set_cons_zero, List.set_cons_succ]
              refine wpAnyH_ready (rs := [4]) (by kernel_rfl) (by simp) ?_
              refine AllReadyH.cons rfl (fun K hK => ?_) ?_
              · skip
                go_simp
                (with_reducible refine (HNL.out _).mono ?_)
                rintro e w' ⟨rfl, rfl⟩
                go_wp2_with fail
                refine hK.out _ _ ?_ (fun hHeld => ?_)
                · exact hHeld
                clear hK K
                try simp only [Act.put, List.setIfInBounds_toArray, List.set_cons_zero, List.set_cons_succ]
                refine wpAnyH_take (i := 5) (v := ?_) rfl (by kernel_rfl) (by kernel_rfl) (by kernel_rfl) (fun _ _ _ h => h) (Or.inl ⟨by rfl, ?_⟩) (by assumption) ?_
                rotate_left
                · (intro w hSw; (try dsimp only at hSw); go_simp; try with_reducible rfl)
                try simp only [Act.put, List.setIfInBounds_toArray, List.set_cons_zero, List.set_cons_succ]
                refine wpAnyH_take (i := 6) (v := undef) rfl (by kernel_rfl) (by kernel_rfl) (by kernel_rfl) (fun _ _ _ h => h) (Or.inr ⟨by rfl, rfl⟩) (by assumption) ?_
                try simp only [Act.put, List.setIfInBounds_toArray, List.set_cons_zero, List.set_cons_succ]
                refine wpAnyH_take (i := 7) (v := undef) rfl (by kernel_rfl) (by kernel_rfl) (by kernel_rfl) (fun _ _ _ h => h) (Or.inr ⟨by rfl, rfl⟩) (by assumption) ?_
                try simp only [Act.put, List.setIfInBounds_toArray, List.set_cons_zero, List.set_cons_succ]
                refine wpAnyH_take (i := 8) (v := undef) rfl (by kernel_rfl) (by kernel_rfl) (by kernel_rfl) (fun _ _ _ h => h) (Or.inr ⟨by rfl, rfl⟩) (by assumption) ?_
                try simp only [Act.put, List.setIfInBounds_toArray, List.set_cons_zero, List.set_cons_succ]
                refine wpAnyH_take (i := 9) (v := undef) rfl (by kernel_rfl) (by kernel_rfl) (by kernel_rfl) (fun _ _ _ h => h) (Or.inr ⟨by rfl, rfl⟩) (by assumption) ?_
                try simp only [Act.put, List.setIfInBounds_toArray, List.set_cons_zero, List.set_cons_succ]
                refine wpAnyH_take (i := 10) (v := ?_) rfl (by kernel_rfl) (by kernel_rfl) (by kernel_rfl) (fun _ _ _ h => h) (Or.inl ⟨by rfl, ?_⟩) (by assumption) ?_
                rotate_left
                · (intro w hSw; (try dsimp only at hSw); go_simp; try with_reducible rfl)
                try simp only [Act.put, List.setIfInBounds_toArray, List.set_cons_zero, List.set_cons_succ]
                refine wpAnyH_ready (rs := [11]) (by kernel_rfl) (by simp) ?_
                refine AllReadyH.cons rfl (fun K hK => ?_) ?_
                · skip
                  go_simp
                  (with_reducible refine (HH2.out _).mono ?_)
                  rintro e w' ⟨rfl, rfl⟩
                  go_wp2_with fail
                  refine hK.out _ _ ?_ (fun hHeld => ?_)
                  · exact hHeld
                  clear hK K
                  try simp only [Act.put, List.setIfInBounds_toArray, List.set_cons_zero, List.set_cons_succ]
                  refine wpAnyH_ready (rs := [14]) (by kernel_rfl) (by simp) ?_
                  refine AllReadyH.cons rfl (fun K hK => ?_) ?_
                  · skip
                    go_simp
                    (with_reducible refine (HLG.out w1).mono ?_)
                    rintro e w3 ⟨rfl, hb3⟩
                    have EN := hide (NEnv.next EN.out hb3 rfl rfl rfl rfl (Nat.le_refl _))
                    clear hb3
                    have q5 := EN.out.un.cells.2.2.2.2.2
                    go_wp2_with fail
                    refine hK.out _ _ ?_ (fun hHeld => ?_)
                    · exact q5
                    clear hK K
                    try simp only [Act.put, List.setIfInBounds_toArray, List.set_cons_zero, List.set_cons_succ]
                    refine wpAnyH_ready (rs := [15]) (by kernel_rfl) (by simp) ?_
                    refine AllReadyH.cons rfl (fun K hK => ?_) ?_
                    · skip
                      go_simp
                      refine hK.out _ _ ?_ (fun hHeld => ?_)
                      · exact ((World.cell?_alloc_lt _ _ _ (EN.out.un.lt)).trans q5)
                      clear hK K
                      try simp only [Act.put, List.setIfInBounds_toArray, List.set_cons_zero, List.set_cons_succ]
                      refine wpAnyH_ready (rs := [16]) (by kernel_rfl) (by simp) ?_
                      refine AllReadyH.cons rfl (fun K hK => ?_) ?_
                      · skip
                        go_simp
                        (with_reducible refine (firstThreeN_any w3 0 5 x3).mono ?_)
                        rintro e w4 ⟨rfl, rfl⟩
                        go_wp2_with fail
                        refine hK.out _ _ ?_ (fun hHeld => ?_)
                        · exact hHeld
                        clear hK K
                        try simp only [Act.put, List.setIfInBounds_toArray, List.set_cons_zero, List.set_cons_succ]
                        refine wpAnyH_take (i := 17) (v := ?_) rfl (by kernel_rfl) (by kernel_rfl) (by kernel_rfl) (fun _ _ _ h => h) (Or.inl ⟨by rfl, ?_⟩) (by assumption) ?_
                        rotate_left
                        · (intro w hSw; (try dsimp only at hSw); go_simp; try with_reducible rfl)
                        try simp only [Act.put, List.setIfInBounds_toArray, List.set_cons_zero, List.set_cons_succ]
                        refine wpAnyH_done (by kernel_rfl) ?_ _
                        rw [HE.out]
                        have HB4 := hide EN.out.bel
                        have HB5 := hide (HB4.out.alloc HB4.out.size (.cells #[.int .i64 0, .int .i64 5, .int .i64 x3] 24))
                        obtain ⟨W3, hW3⟩ : ∃ W3, w3.alloc (.cells #[.int .i64 0, .int .i64 5, .int .i64 x3] 24) = W3 := ⟨_, rfl⟩
                        have HW3 := hide hW3
                        rw [hW3] at HB5
                        clear hW3 EN q5
                        (try rw [HW3.out])
                        go_wp2_with fail
                        (try rw [HW3.out])
                        refine (sorts_any _).mono ?_
                        rintro e w5 ⟨rfl, hb5⟩
                        have HB6 := hide (below_next HB5.out hb5 rfl rfl rfl rfl HB5.out.size)
                        clear hb5
                        go_wp2_with fail
                        refine (outcome_bad _ _ _ HN.out).mono ?_
                        rintro e w' ⟨rfl, rfl⟩
                        go_wp2_with fail
                        go_ret
                        exact ⟨rfl, HB6.out⟩
                      exact AllReadyH.nil
                    exact AllReadyH.nil
                  exact AllReadyH.nil
                exact AllReadyH.nil
              exact AllReadyH.nil
            exact AllReadyH.nil
          refine AllReadyH.cons rfl (fun K hK => ?_) ?_
          · skip
            go_simp
            refine hK.out _ _ ?_ (fun hHeld => ?_)
            · exact hal5 _
            clear hK K
            try simp only [Act.put, List.setIfInBounds_toArray, List.set_cons_zero, List.set_cons_succ]
            refine wpAnyH_ready (rs := [1]) (by kernel_rfl) (by simp) ?_
            refine AllReadyH.cons rfl (fun K hK => ?_) ?_
            · skip
              go_simp
              (with_reducible refine (HH1.out _).mono ?_)
              rintro e w' ⟨rfl, rfl⟩
              go_wp2_with fail
              refine hK.out _ _ ?_ (fun hHeld => ?_)
              · exact hHeld
              clear hK K
              try simp only [Act.put, List.setIfInBounds_toArray, List.set_cons_zero, List.set_cons_succ]
              refine wpAnyH_ready (rs := [4]) (by kernel_rfl) (by simp) ?_
              refine AllReadyH.cons rfl (fun K hK => ?_) ?_
              · skip
                go_simp
                (with_reducible refine (HNL.out _).mono ?_)
                rintro e w' ⟨rfl, rfl⟩
                go_wp2_with fail
                refine hK.out _ _ ?_ (fun hHeld => ?_)
                · exact hHeld
                clear hK K
                try simp only [Act.put, List.setIfInBounds_toArray, List.set_cons_zero, List.set_cons_succ]
                refine wpAnyH_take (i := 5) (v := ?_) rfl (by kernel_rfl) (by kernel_rfl) (by kernel_rfl) (fun _ _ _ h => h) (Or.inl ⟨by rfl, ?_⟩) (by assumption) ?_
                rotate_left
                · (intro w hSw; (try dsimp only at hSw); go_simp; try with_reducible rfl)
                try simp only [Act.put, List.setIfInBounds_toArray, List.set_cons_zero, List.set_cons_succ]
                refine wpAnyH_take (i := 6) (v := undef) rfl (by kernel_rfl) (by kernel_rfl) (by kernel_rfl) (fun _ _ _ h => h) (Or.inr ⟨by rfl, rfl⟩) (by assumption) ?_
                try simp only [Act.put, List.setIfInBounds_toArray, List.set_cons_zero, List.set_cons_succ]
                refine wpAnyH_take (i := 7) (v := undef) rfl (by kernel_rfl) (by kernel_rfl) (by kernel_rfl) (fun _ _ _ h => h) (Or.inr ⟨by rfl, rfl⟩) (by assumption) ?_
                try simp only [Act.put, List.setIfInBounds_toArray, List.set_cons_zero, List.set_cons_succ]
                refine wpAnyH_take (i := 8) (v := undef) rfl (by kernel_rfl) (by kernel_rfl) (by kernel_rfl) (fun _ _ _ h => h) (Or.inr ⟨by rfl, rfl⟩) (by assumption) ?_
                try simp only [Act.put, List.setIfInBounds_toArray, List.set_cons_zero, List.set_cons_succ]
                refine wpAnyH_take (i := 9) (v := undef) rfl (by kernel_rfl) (by kernel_rfl) (by kernel_rfl) (fun _ _ _ h => h) (Or.inr ⟨by rfl, rfl⟩) (by assumption) ?_
                try simp only [Act.put, List.setIfInBounds_toArray, List.set_cons_zero, List.set_cons_succ]
                refine wpAnyH_take (i := 10) (v := ?_) rfl (by kernel_rfl) (by kernel_rfl) (by kernel_rfl) (fun _ _ _ h => h) (Or.inl ⟨by rfl, ?_⟩) (by assumption) ?_
                rotate_left
                · (intro w hSw; (try dsimp only at hSw); go_simp; try with_reducible rfl)
                try simp only [Act.put, List.setIfInBounds_toArray, List.set_cons_zero, List.set_cons_succ]
                refine wpAnyH_ready (rs := [11]) (by kernel_rfl) (by simp) ?_
                refine AllReadyH.cons rfl (fun K hK => ?_) ?_
                · skip
                  go_simp
                  (with_reducible refine (HH2.out _).mono ?_)
                  rintro e w' ⟨rfl, rfl⟩
                  go_wp2_with fail
                  refine hK.out _ _ ?_ (fun hHeld => ?_)
                  · exact hHeld
                  clear hK K
                  try simp only [Act.put, List.setIfInBounds_toArray, List.set_cons_zero, List.set_cons_succ]
                  refine wpAnyH_ready (rs := [14]) (by kernel_rfl) (by simp) ?_
                  refine AllReadyH.cons rfl (fun K hK => ?_) ?_
                  · skip
                    go_simp
                    (with_reducible refine (HLG.out w1).mono ?_)
                    rintro e w3 ⟨rfl, hb3⟩
                    have EN := hide (NEnv.next EN.out hb3 rfl rfl rfl rfl (Nat.le_refl _))
                    clear hb3
                    have q5 := EN.out.un.cells.2.2.2.2.2
                    go_wp2_with fail
                    refine hK.out _ _ ?_ (fun hHeld => ?_)
                    · exact q5
                    clear hK K
                    try simp only [Act.put, List.setIfInBounds_toArray, List.set_cons_zero, List.set_cons_succ]
                    refine wpAnyH_ready (rs := [15]) (by kernel_rfl) (by simp) ?_
                    refine AllReadyH.cons rfl (fun K hK => ?_) ?_
                    · skip
                      go_simp
                      refine hK.out _ _ ?_ (fun hHeld => ?_)
                      · exact ((World.cell?_alloc_lt _ _ _ (EN.out.un.lt)).trans q5)
                      clear hK K
                      try simp only [Act.put, List.setIfInBounds_toArray, List.set_cons_zero, List.set_cons_succ]
                      refine wpAnyH_ready (rs := [16]) (by kernel_rfl) (by simp) ?_
                      refine AllReadyH.cons rfl (fun K hK => ?_) ?_
                      · skip
                        go_simp
                        (with_reducible refine (firstThreeN_any w3 0 5 x3).mono ?_)
                        rintro e w4 ⟨rfl, rfl⟩
                        go_wp2_with fail
                        refine hK.out _ _ ?_ (fun hHeld => ?_)
                        · exact hHeld
                        clear hK K
                        try simp only [Act.put, List.setIfInBounds_toArray, List.set_cons_zero, List.set_cons_succ]
                        refine wpAnyH_take (i := 17) (v := ?_) rfl (by kernel_rfl) (by kernel_rfl) (by kernel_rfl) (fun _ _ _ h => h) (Or.inl ⟨by rfl, ?_⟩) (by assumption) ?_
                        rotate_left
                        · (intro w hSw; (try dsimp only at hSw); go_simp; try with_reducible rfl)
                        try simp only [Act.put, List.setIfInBounds_toArray, List.set_cons_zero, List.set_cons_succ]
                        refine wpAnyH_done (by kernel_rfl) ?_ _
                        rw [HE.out]
                        have HB4 := hide EN.out.bel
                        have HB5 := hide (HB4.out.alloc HB4.out.size (.cells #[.int .i64 0, .int .i64 5, .int .i64 x3] 24))
                        obtain ⟨W3, hW3⟩ : ∃ W3, w3.alloc (.cells #[.int .i64 0, .int .i64 5, .int .i64 x3] 24) = W3 := ⟨_, rfl⟩
                        have HW3 := hide hW3
                        rw [hW3] at HB5
                        clear hW3 EN q5
                        (try rw [HW3.out])
                        go_wp2_with fail
                        (try rw [HW3.out])
                        refine (sorts_any _).mono ?_
                        rintro e w5 ⟨rfl, hb5⟩
                        have HB6 := hide (below_next HB5.out hb5 rfl rfl rfl rfl HB5.out.size)
                        clear hb5
                        go_wp2_with fail
                        refine (outcome_bad _ _ _ HN.out).mono ?_
                        rintro e w' ⟨rfl, rfl⟩
                        go_wp2_with fail
                        go_ret
                        exact ⟨rfl, HB6.out⟩
                      exact AllReadyH.nil
                    exact AllReadyH.nil
                  exact AllReadyH.nil
                exact AllReadyH.nil
              exact AllReadyH.nil
            exact AllReadyH.nil
          exact AllReadyH.nil
set_option maxHeartbeats 64000000 in
set_option maxRecDepth 100000 in
theorem numbMatches_good (o : Nb) (s : ByteArray) (w : World) (hra : nbRange o = true) (hfo : nbForm o = false) (hb : bigB s = false) (hT : PowTab w) :
    Calls Tryz.prog 7 #[nbV o, .string s] w fun e w' => e = .returned (.bool true) ∧ Below w.heap.size w w' := by
  have hb1 := (Below.refl w.heap.size w).alloc (Nat.le_refl _) (.cells #[.int .i64 o.start, .int .i64 o.step, .int .i64 o.width, .bool o.zeros, .bool o.empty, .string o.sep] 64)
  have n1 : NbIn (w.alloc (.cells #[.int .i64 o.start, .int .i64 o.step, .int .i64 o.width, .bool o.zeros, .bool o.empty, .string o.sep] 64)) w.heap.size 64 o := heap_alloc_new _ _
  obtain ⟨W1, hW1⟩ : ∃ W1, w.alloc (.cells #[.int .i64 o.start, .int .i64 o.step, .int .i64 o.width, .bool o.zeros, .bool o.empty, .string o.sep] 64) = W1 := ⟨_, rfl⟩
  rw [hW1] at hb1 n1
  have HB1 := hide hb1
  have HN1 := hide n1
  have ho := nb_good hra hfo
  have ho7 := ho.2.2.2
  obtain ⟨hsz, hln, hls⟩ := bigB_prn hb
  have HF := hide (fun W (hW : Below w.heap.size w W) => number_good o s W hra hfo hb (hT.below hW))
  have HLG := hide (fun W => largeN_any s W (by unfold maxLen; omega))
  rw [hb] at HLG
  have hra' := hra
  unfold nbRange at hra'
  simp only [Bool.and_eq_true] at hra'
  have HWa : Hid (∀ W, Calls Tryz.prog 9 #[.int .i64 o.start, .int .i64 (-1000000), .int .i64 1000000] W fun e w' => e = .returned (.bool true) ∧ W = w') := hide (fun W => by rw [← hra'.1.1]; exact withinL_any _ _ _ W)
  have HWb : Hid (∀ W, Calls Tryz.prog 9 #[.int .i64 o.step, .int .i64 (-1000000), .int .i64 1000000] W fun e w' => e = .returned (.bool true) ∧ W = w') := hide (fun W => by rw [← hra'.1.2]; exact withinL_any _ _ _ W)
  have HWc : Hid (∀ W, Calls Tryz.prog 9 #[.int .i64 o.width, .int .i64 0, .int .i64 1000] W fun e w' => e = .returned (.bool true) ∧ W = w') := hide (fun W => by rw [← hra'.2]; exact withinL_any _ _ _ W)
  have hnl : nbNl o = false := by
    unfold nbForm at hfo
    cases h : nbNl o
    · rfl
    · rw [h] at hfo; cases hfo
  have HNL : Hid (∀ W, Calls Tryz.prog 36 #[.string o.sep, .string ⟨#[10]⟩] W fun e w' => e = .returned (.bool false) ∧ W = w') := hide (fun W => by rw [← hnl]; exact containsNlN_any o.sep W)
  have hlong2 : ¬ (1000 : Int) < (o.sep.size : Int) := by omega
  have hlong3 : decide ((1000 : Int) < (o.sep.size : Int)) = false := by simpa using hlong2
  have HLI := hide (fun W => linesOf_any s W (by omega))
  have HGR := hide (fun (lv : Value) W (hW : Below w.heap.size w W) (hv : Strs W lv (linesOf s)) => numbered_any o lv (linesOf s) W ho hv hln hls (hT.below hW))
  have hgb := numTo_bound ho (linesOf s) 65536 (by omega) hls (linesOf s).length (Nat.le_refl _)
  have HLS := hide hls
  obtain ⟨L, hL⟩ : ∃ L, linesOf s = L := ⟨_, rfl⟩
  simp only [hL] at HLI HGR HLS hln hgb HF
  have HGZ := hide hgb.1
  have HRL : Hid ((resL (numTo o L L.length).1).length ≤ 1000000000) := hide (by
    have h1 := hgb.2
    have h2 : L.length * (65536 + 2022) ≤ 4096 * (65536 + 2022) := Nat.mul_le_mul hln (Nat.le_refl _)
    omega)
  obtain ⟨G, hG⟩ : ∃ G, (numTo o L L.length).1 = G := ⟨_, rfl⟩
  simp only [hG] at HGR HGZ HRL HF
  have HRS := hide (fun (v : Value) W (hv : Strs W v G) => resultOf_any v G W hv HRL.out)
  obtain ⟨TT, hTT⟩ : ∃ TT, mkB (resL G) = TT := ⟨_, rfl⟩
  simp only [hTT] at HF HRS
  have HW1 := hide hW1
  obtain ⟨d0, d1, d2, d3, d4, d5⟩ := n1.cells
  unfold nbV at HF HGR ⊢
  clear hb1 n1 hb ho hL hG hTT hgb hls hW1 hsz hra hra' hfo hnl
  go_enter Tryz.func7, Tryz.ntmps7
  go_wp2_with fail
  (try rw [HW1.out])
  refine (HF.out _ HB1.out).mono ?_
  rintro e w1 ⟨rfl, hb1⟩
  have HB2 := hide (HB1.out.trans (hb1.mono HB1.out.size))
  have HN2 := hide (HN1.out.below hb1 HN1.out.lt)
  clear hb1 d0 d1 d2 d3 d4 d5
  obtain ⟨d0, d1, d2, d3, d4, d5⟩ := HN2.out.cells
  go_wp2_with fail
  refine (HWa.out _).mono ?_
  rintro e w' ⟨rfl, rfl⟩
  go_wp2_with fail
  refine (HWb.out _).mono ?_
  rintro e w' ⟨rfl, rfl⟩
  go_wp2_with fail
  refine (HWc.out _).mono ?_
  rintro e w' ⟨rfl, rfl⟩
  have HH1 : Hid (∀ W, Calls Tryz.prog 11 #[.bool false, .int .i64 3] W fun e w' => e = .returned (.int .i64 0) ∧ W = w') := hide (fun W => when_any false 3 W)
  have HH2 : Hid (∀ W, Calls Tryz.prog 11 #[.bool false, .int .i64 5] W fun e w' => e = .returned (.int .i64 0) ∧ W = w') := hide (fun W => when_any false 5 W)
  have EN : Hid (NEnv 64 w.heap.size o w w1) := hide ⟨HN2.out, HB2.out⟩
  clear d0 d1 d2 d3 d4
  go_wp2_with fail
  go_region_held3 (fun w' => w'.cell? ⟨w.heap.size, 5, none⟩ = some (.string o.sep)) (go_keep)
    (first
      | (go_at_call 11; (with_reducible refine (HH1.out _).mono ?_); rintro e w' ⟨rfl, rfl⟩)
      | (go_at_call 11; (with_reducible refine (HH2.out _).mono ?_); rintro e w' ⟨rfl, rfl⟩)
      | (go_at_call 36; (with_reducible refine (HNL.out _).mono ?_); rintro e w' ⟨rfl, rfl⟩)
      | (go_at_call 12; (with_reducible refine (HLG.out w1).mono ?_); rintro e w3 ⟨rfl, hb3⟩; have EN := hide (NEnv.next EN.out hb3 rfl rfl rfl rfl (Nat.le_refl _)); clear hb3; have q5 := EN.out.un.cells.2.2.2.2.2)
      | (go_at_call 10; (with_reducible refine (firstThreeN_any w3 0 0 0).mono ?_); rintro e w4 ⟨rfl, rfl⟩))
  all_goals
    have e00 : firstNZ [(0 : Int), 0, 0] = 0 := rfl
    rw [e00]
    have hal := (Below.refl w3.heap.size w3).alloc (Nat.le_refl _) (.cells #[.int .i64 0, .int .i64 0, .int .i64 0] 24)
    have HB5 := hide (EN.out.bel.trans (hal.mono EN.out.bel.size))
    have HN5 := hide (EN.out.un.below hal EN.out.un.lt)
    obtain ⟨W3, hW3⟩ : ∃ W3, w3.alloc (.cells #[.int .i64 0, .int .i64 0, .int .i64 0] 24) = W3 := ⟨_, rfl⟩
    rw [hW3] at HB5 HN5 ⊢
    clear hW3 hal e00 d5 q5 EN
    obtain ⟨W4, hW4⟩ : ∃ W4, W3.drewN 0 = W4 := ⟨_, rfl⟩
    clear W4 hW4
    go_wp2_with fail
    refine (briefN_any _ _).mono ?_
    rintro e w' ⟨rfl, rfl⟩
    cases hbr : decide (s.size ≤ 3000)
    · clear hbr
      go_wp2_with fail
      refine (sorts_any _).mono ?_
      rintro e w4 ⟨rfl, hb4⟩
      have HB6 := hide (below_next HB5.out hb4 rfl rfl rfl rfl HB5.out.size)
      clear hb4
      go_wp2_with fail
      refine (outcome_good _ _).mono ?_
      rintro e w' ⟨rfl, rfl⟩
      go_wp2_with fail
      go_ret
      exact ⟨rfl, HB6.out⟩
    · clear hbr
      go_wp2_with fail
      obtain ⟨d0, d1, d2, d3, d4, d5⟩ := HN5.out.cells
      have EN : Hid (NEnv 64 w.heap.size o w W3) := hide ⟨HN5.out, HB5.out⟩
      have HSL : Hid (∀ x ∈ L, x.size ≤ maxLen) := hide (fun x hx => by have := HLS.out x hx; unfold maxLen; omega)
      have HSG : Hid (∀ x ∈ G, x.size ≤ maxLen) := hide (fun x hx => by have := HGZ.out x hx; unfold maxLen; omega)
      go_region_held3 (fun w' => w'.cell? ⟨w.heap.size, 0, none⟩ = some (.int .i64 o.start) ∧ w'.cell? ⟨w.heap.size, 1, none⟩ = some (.int .i64 o.step) ∧ w'.cell? ⟨w.heap.size, 2, none⟩ = some (.int .i64 o.width) ∧ w'.cell? ⟨w.heap.size, 3, none⟩ = some (.bool o.zeros) ∧ w'.cell? ⟨w.heap.size, 4, none⟩ = some (.bool o.empty) ∧ w'.cell? ⟨w.heap.size, 5, none⟩ = some (.string o.sep)) (go_keep)
        (first
          | (go_at_call 14; (with_reducible refine (sorts_any _).mono ?_); rintro e wa ⟨rfl, hba⟩; have EN := hide (NEnv.next EN.out hba rfl rfl rfl rfl (Nat.le_refl _)); clear hba; obtain ⟨q0, q1, q2, q3, q4, q5⟩ := EN.out.un.cells)
          | (go_at_call 18; (with_reducible refine (HLI.out _).mono ?_); rintro e wb ⟨vb, rfl, hob, hbb⟩; have EN := hide (NEnv.next EN.out hbb rfl rfl rfl rfl (Nat.le_refl _)); have HV := hide (hob.strs HSL.out); clear hob hbb; obtain ⟨q0, q1, q2, q3, q4, q5⟩ := EN.out.un.cells)
          | (go_at_call 37; (with_reducible refine (HGR.out _ _ (by exact NEnv.bel (NEnv.like EN.out rfl rfl rfl rfl)) (by exact HV.out)).mono ?_); rintro e wc ⟨vc, rfl, hoc, hbc⟩; have EN := hide (NEnv.next EN.out hbc rfl rfl rfl rfl (Nat.le_refl _)); have HVC := hide (hoc.strs HSG.out); clear hoc hbc; obtain ⟨q0, q1, q2, q3, q4, q5⟩ := EN.out.un.cells)
          | (go_at_call 16; (with_reducible refine (HRS.out _ _ (by exact HVC.out)).mono ?_); rintro e w' ⟨rfl, rfl⟩)
          | (go_at_call 15; (with_reducible refine (outcome_good _ _).mono ?_); rintro e w' ⟨rfl, rfl⟩))
      all_goals
        have HBE := hide EN.out.bel
        go_wp2_with fail
        go_ret
        exact ⟨rfl, HBE.out⟩
theorem numbMatches_any (o : Nb) (s : ByteArray) (w : World) (hsep : o.sep.size ≤ maxLen) (hs : s.size ≤ maxLen) (hT : PowTab w) :
    Calls Tryz.prog 7 #[nbV o, .string s] w fun e w' => e = .returned (.bool true) ∧ Below w.heap.size w w' := by
  by_cases he : nbErr o s = 0
  · unfold nbErr at he
    cases hra : nbRange o
    · rw [hra] at he
      simp [firstNZ] at he
    · cases hfo : nbForm o
      · cases hb : bigB s
        · exact numbMatches_good o s w hra hfo hb hT
        · rw [hra, hfo, hb] at he
          simp [firstNZ] at he
      · rw [hra, hfo] at he
        simp [firstNZ] at he
  · exact numbMatches_bad o s _ w hsep hs he rfl
end Go.Proofs.YtbelbgfigmbobaaGreatDoor
