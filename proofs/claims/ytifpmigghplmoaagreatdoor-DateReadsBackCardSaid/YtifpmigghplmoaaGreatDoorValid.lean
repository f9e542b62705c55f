/- text.valid: the error of an order. -/
import Derived.Test.YtifpmigghplmoaaGreatDoorKeys
set_option linter.unusedVariables false
set_option linter.unusedSimpArgs false
namespace Go.Proofs.YtifpmigghplmoaaGreatDoor
open Go.RowKit Go.Pw
theorem within_any (n lo hi : Int) (w : World) : Calls Tryz.prog 71 #[.int .i64 n, .int .i64 lo, .int .i64 hi] w fun e w' => e = .returned (.bool (decide (lo ≤ n) && decide (n ≤ hi))) ∧ w = w' := by
  by_cases h : lo ≤ n
  · have h1 : decide (lo ≤ n) = true := by simpa using h
    go_enter Tryz.func71, Tryz.ntmps71
    go_wp2
    go_ret
    exact ⟨by simp [h], rfl⟩
  · have h1 : decide (lo ≤ n) = false := by simpa using h
    go_enter Tryz.func71, Tryz.ntmps71
    go_wp2
    go_ret
    exact ⟨by simp [h], rfl⟩
theorem keyErr_eq (f1 f2 l1 l2 : Int) (nu re fo bl b1 b2 b3 b4 b5 : Bool) (h1 : (decide (1 ≤ f1) && decide (f1 ≤ 4096)) = b1) (h2 : (decide (1 ≤ f2) && decide (f2 ≤ 4096)) = b2) (h3 : (decide (0 ≤ l1) && decide (l1 ≤ 4096)) = b3) (h4 : (decide (0 ≤ l2) && decide (l2 ≤ 4096)) = b4) (h5 : ((l1 == 0) && (l2 != 0)) = b5) :
    keyErr ⟨f1, f2, l1, l2, nu, re, fo, bl⟩ = if (b1 && b2 && b3 && b4 && !b5) = true then 0 else 3 := by
  subst h1 h2 h3 h4 h5
  unfold keyErr
  simp only [Bool.and_eq_true, decide_eq_true_eq, Bool.not_eq_true', Bool.and_eq_false_iff, beq_eq_false_iff_ne, bne_eq_false_iff_eq]
  congr 1
  apply propext
  constructor
  · rintro ⟨a, b, c, d, e⟩
    refine ⟨⟨⟨⟨a, b⟩, c⟩, d⟩, ?_⟩
    by_cases h : l1 = 0
    · right
      by_cases h2 : l2 = 0
      · exact h2
      · exact absurd ⟨h, h2⟩ e
    · exact .inl h
  · rintro ⟨⟨⟨⟨a, b⟩, c⟩, d⟩, e⟩
    refine ⟨a, b, c, d, ?_⟩
    rintro ⟨x, y⟩
    rcases e with e | e
    · exact e x
    · exact y e
set_option maxHeartbeats 2000000 in
set_option maxRecDepth 100000 in
theorem valid_any (o : Sp) (kv : Value) (w : World) (hk : KeysIn w kv o.keys) (hsp : o.sep.size ≤ 9223372036854775807) :
    Calls Tryz.prog 64 #[spV o kv] w fun e w' => e = .returned (.int .i64 (ordErr o)) ∧ Below w.heap.size w w' := by
  obtain ⟨sep, keys, rv, st, un⟩ := o
  obtain ⟨_, A, cap, rfl, hcap, hmax, hx⟩ := hk
  unfold maxLen at hmax
  have HX := hide hx
  clear hx
  unfold spV
  dsimp only at HX hcap hmax hsp ⊢
  have HB0 := hide ((Below.refl w.heap.size w).alloc (Nat.le_refl _) (.cells #[.string sep, .slice A keys.length cap, .bool rv, .bool st, .bool un] 73))
  by_cases h1 : 1 < sep.size
  · have HE : Hid (ordErr ⟨sep, keys, rv, st, un⟩ = 5) := hide (by unfold ordErr; rw [if_pos (.inl h1)])
    have hd : decide (1 < sep.size) = true := by simpa using h1
    go_enter Tryz.func64, Tryz.ntmps64
    go_wp2_with fail
    go_ret
    exact ⟨by rw [HE.out]; rfl, HB0.out⟩
  · have hd : ¬ ((1 : Int) < (sep.size : Int)) := by omega
    by_cases h2 : sep = ⟨#[10]⟩
    · subst h2
      have HE : Hid (ordErr ⟨⟨#[10]⟩, keys, rv, st, un⟩ = 5) := hide (by unfold ordErr; rw [if_pos (.inr rfl)])
      go_enter Tryz.func64, Tryz.ntmps64
      go_wp2_with fail
      go_ret
      exact ⟨by rw [HE.out]; rfl, HB0.out⟩
    · have h2' : (sep.toList == [10]) = false := by
        rw [Lib.toList_data, beq_eq_false_iff_ne]
        intro e; exact h2 (of_list e)
      by_cases h3 : 8 < keys.length
      · have HE : Hid (ordErr ⟨sep, keys, rv, st, un⟩ = 2) := hide (by unfold ordErr; rw [if_neg (by intro h; rcases h with h | h; exact h1 h; exact h2 h), if_pos h3])
        clear h2 h1
        go_enter Tryz.func64, Tryz.ntmps64
        go_wp2_with fail
        go_ret
        exact ⟨by rw [HE.out]; rfl, HB0.out⟩
      · have HE : Hid (ordErr ⟨sep, keys, rv, st, un⟩ = firstNZ ((keys.drop 0).map keyErr)) := hide (by unfold ordErr; rw [if_neg (by intro h; rcases h with h | h; exact h1 h; exact h2 h), if_neg h3]; rfl)
        clear h2 h1
        go_enter Tryz.func64, Tryz.ntmps64
        go_wp2_with fail
        obtain ⟨W1, hWW⟩ : ∃ W1, w.alloc (.cells #[.string sep, .slice A keys.length cap, .bool rv, .bool st, .bool un] 73) = W1 := ⟨_, rfl⟩
        have hz1 : W1.heap.size = w.heap.size + 1 := by rw [← hWW]; simp
        rw [hWW] at HB0 ⊢
        have HZ1 := hide hz1
        clear hWW hz1 hd h2'
        go_loopw [21] (fun i wr => ∃ k : Nat, k ≤ keys.length ∧ i = .int .i64 (k : Int) ∧ Below W1.heap.size W1 wr ∧ Hid (ordErr ⟨sep, keys, rv, st, un⟩ = firstNZ ((keys.drop k).map keyErr))) (fun i _ => keys.length - (intOf i).toNat)
        case atStart => exact ⟨0, by omega, rfl, Below.refl _ _, HE⟩
        case round =>
          obtain ⟨k, hkn, rfl, hbw, HV⟩ := hrel
          by_cases hlt : k < keys.length
          · obtain ⟨g, o, rfl, hgl, hj⟩ := HX.out (by omega)
            have hzz := hbw.size
            rw [HZ1.out] at hzz
            have hj' : ∀ j u, (kysCells keys)[j]? = some u → wr.cell? ⟨g, o + j, none⟩ = some u := fun j u hu => (hbw.cell (p := ⟨g, o + j, none⟩) (by rw [HZ1.out]; show g < _; omega)).trans ((HB0.out.cell (p := ⟨g, o + j, none⟩) hgl).trans (hj j u hu))
            have hK := List.getElem?_eq_getElem hlt
            obtain ⟨c0, c1, c2, c3, c4, c5, c6, c7⟩ := KeysIn.cells (n := 0) (cap := 0) hj' hK
            obtain ⟨K, hKK⟩ : ∃ K, keys[k] = K := ⟨_, rfl⟩
            have HM := hide (fun (e : keyErr K = 0) => fnz_miss (f := keyErr) HV hlt (by rw [hKK]; exact e))
            have HH := hide (fun (e : keyErr K = 3) => fnz_hit (f := keyErr) (e := 3) HV hlt (by rw [hKK]; exact e) (by decide))
            rw [hKK] at c0 c1 c2 c3 c4 c5 c6 c7
            clear hj hj' hK hKK
            obtain ⟨f1, f2, l1, l2, nu, re, fo, bl⟩ := K
            dsimp only at c0 c1 c2 c3 c4 c5 c6 c7
            obtain ⟨b1, hb1⟩ : ∃ b, (decide (1 ≤ f1) && decide (f1 ≤ 4096)) = b := ⟨_, rfl⟩
            obtain ⟨b2, hb2⟩ : ∃ b, (decide (1 ≤ f2) && decide (f2 ≤ 4096)) = b := ⟨_, rfl⟩
            obtain ⟨b3, hb3⟩ : ∃ b, (decide (0 ≤ l1) && decide (l1 ≤ 4096)) = b := ⟨_, rfl⟩
            obtain ⟨b4, hb4⟩ : ∃ b, (decide (0 ≤ l2) && decide (l2 ≤ 4096)) = b := ⟨_, rfl⟩
            obtain ⟨b5, hb5⟩ : ∃ b, ((l1 == 0) && (l2 != 0)) = b := ⟨_, rfl⟩
            have HKE := hide (keyErr_eq f1 f2 l1 l2 nu re fo bl b1 b2 b3 b4 b5 hb1 hb2 hb3 hb4 hb5)
            have H1 := hide (fun W => within_any f1 1 4096 W)
            have H2 := hide (fun W => within_any f2 1 4096 W)
            have H3 := hide (fun W => within_any l1 0 4096 W)
            have H4 := hide (fun W => within_any l2 0 4096 W)
            simp only [hb1] at H1
            simp only [hb2] at H2
            simp only [hb3] at H3
            simp only [hb4] at H4
            have H5 := hide hb5
            clear hb1 hb2 hb3 hb4 hb5
            have BN := hide (hbw.alloc (o := .cells #[.int .i64 f1, .int .i64 f2, .int .i64 l1, .int .i64 l2, .bool nu, .bool re, .bool fo, .bool bl] 70) hbw.size)
            cases b1
            · have HQ := hide (HH.out (by rw [HKE.out]; rfl))
              go_wp2_with fail
              refine (H1.out _).mono ?_
              rintro e w' ⟨rfl, rfl⟩
              go_wp2_with fail
              go_ret
              exact ⟨by rw [← HQ.out]; rfl, HB0.out.trans (BN.out.mono (by rw [HZ1.out]; omega))⟩
            · cases b2
              · have HQ := hide (HH.out (by rw [HKE.out]; rfl))
                go_wp2_with fail
                refine (H1.out _).mono ?_
                rintro e w' ⟨rfl, rfl⟩
                go_wp2_with fail
                refine (H2.out _).mono ?_
                rintro e w' ⟨rfl, rfl⟩
                go_wp2_with fail
                go_ret
                exact ⟨by rw [← HQ.out]; rfl, HB0.out.trans (BN.out.mono (by rw [HZ1.out]; omega))⟩
              · cases b3
                · have HQ := hide (HH.out (by rw [HKE.out]; rfl))
                  go_wp2_with fail
                  refine (H1.out _).mono ?_
                  rintro e w' ⟨rfl, rfl⟩
                  go_wp2_with fail
                  refine (H2.out _).mono ?_
                  rintro e w' ⟨rfl, rfl⟩
                  go_wp2_with fail
                  refine (H3.out _).mono ?_
                  rintro e w' ⟨rfl, rfl⟩
                  go_wp2_with fail
                  go_ret
                  exact ⟨by rw [← HQ.out]; rfl, HB0.out.trans (BN.out.mono (by rw [HZ1.out]; omega))⟩
                · cases b4
                  · have HQ := hide (HH.out (by rw [HKE.out]; rfl))
                    go_wp2_with fail
                    refine (H1.out _).mono ?_
                    rintro e w' ⟨rfl, rfl⟩
                    go_wp2_with fail
                    refine (H2.out _).mono ?_
                    rintro e w' ⟨rfl, rfl⟩
                    go_wp2_with fail
                    refine (H3.out _).mono ?_
                    rintro e w' ⟨rfl, rfl⟩
                    go_wp2_with fail
                    refine (H4.out _).mono ?_
                    rintro e w' ⟨rfl, rfl⟩
                    go_wp2_with fail
                    go_ret
                    exact ⟨by rw [← HQ.out]; rfl, HB0.out.trans (BN.out.mono (by rw [HZ1.out]; omega))⟩
                  · cases b5
                    · have HQ := hide (HM.out (by rw [HKE.out]; rfl))
                      go_wp2_with fail
                      refine (H1.out _).mono ?_
                      rintro e w' ⟨rfl, rfl⟩
                      go_wp2_with fail
                      refine (H2.out _).mono ?_
                      rintro e w' ⟨rfl, rfl⟩
                      go_wp2_with fail
                      refine (H3.out _).mono ?_
                      rintro e w' ⟨rfl, rfl⟩
                      go_wp2_with fail
                      refine (H4.out _).mono ?_
                      rintro e w' ⟨rfl, rfl⟩
                      have h5 := H5.out
                      cases e5 : (l1 == 0)
                      · clear h5
                        go_wp2_with fail
                        go_roundw
                        case rel => exact ⟨k + 1, by omega, by go_num, BN.out, HQ.out⟩
                        case measure => simp [intOf]; omega
                      · rw [e5] at h5
                        have h6 : (l2 != 0) = false := by simpa using h5
                        clear h5
                        go_wp2_with fail
                        go_roundw
                        case rel => exact ⟨k + 1, by omega, by go_num, BN.out, HQ.out⟩
                        case measure => simp [intOf]; omega
                    · have HQ := hide (HH.out (by rw [HKE.out]; rfl))
                      have h5 := H5.out
                      simp only [Bool.and_eq_true] at h5
                      obtain ⟨e5, e6⟩ := h5
                      go_wp2_with fail
                      refine (H1.out _).mono ?_
                      rintro e w' ⟨rfl, rfl⟩
                      go_wp2_with fail
                      refine (H2.out _).mono ?_
                      rintro e w' ⟨rfl, rfl⟩
                      go_wp2_with fail
                      refine (H3.out _).mono ?_
                      rintro e w' ⟨rfl, rfl⟩
                      go_wp2_with fail
                      refine (H4.out _).mono ?_
                      rintro e w' ⟨rfl, rfl⟩
                      go_wp2_with fail
                      go_ret
                      exact ⟨by rw [← HQ.out]; rfl, HB0.out.trans (BN.out.mono (by rw [HZ1.out]; omega))⟩
          · have HQ := hide (fnz_end (f := keyErr) HV hlt)
            go_wp2_with fail
            go_ret
            exact ⟨ret_int HQ.out, HB0.out.trans (hbw.mono (by rw [HZ1.out]; omega))⟩
theorem good_of_valid {o : Sp} (h : ordErr o = 0) : ∀ k ∈ o.keys, k.good := by
  unfold ordErr at h
  split at h
  · cases h
  · split at h
    · cases h
    · intro k hk
      have : ∀ (l : List Ky), firstNZ (l.map keyErr) = 0 → ∀ k ∈ l, keyErr k = 0 := by
        intro l
        induction l with
        | nil => intro _ k hk; cases hk
        | cons x l ih =>
          intro h k hk
          rw [List.map_cons, firstNZ] at h
          split at h
          · rename_i h0
            rcases List.mem_cons.1 hk with rfl | hk
            · exact h0
            · exact ih h k hk
          · rename_i h0; exact absurd h h0
      have := this _ h k hk
      unfold keyErr at this
      split at this
      · rename_i hh; exact ⟨hh.1, hh.2.1, hh.2.2.1, hh.2.2.2.1⟩
      · cases this
end Go.Proofs.YtifpmigghplmoaaGreatDoor
