/- The reference's order, fourth part: the error of an order. -/
import Derived.Test.YtkikbejpgfhfoaaGreatDoorRefO1
import Derived.Test.YtkikbejpgfhfoaaGreatDoorValid
set_option linter.unusedVariables false
set_option linter.unusedSimpArgs false
namespace Go.Proofs.YtkikbejpgfhfoaaGreatDoor
open Go.RowKit Go.Pw
set_option maxHeartbeats 2000000 in
set_option maxRecDepth 100000 in
theorem orderError_any (o : Sp) (kv : Value) (w : World) (hk : KeysIn w kv o.keys) (hsp : o.sep.size ≤ 9223372036854775807) :
    Calls Tryz.prog 7 #[spV o kv] w fun e w' => e = .returned (.int .i64 (ordErr o)) ∧ Below w.heap.size w w' := by
  obtain ⟨sep, keys, rv, st, un⟩ := o
  obtain ⟨_, A, cap, rfl, hcap, hmax, hx⟩ := hk
  unfold maxLen at hmax
  have HX := hide hx
  clear hx
  unfold spV
  dsimp only at HX hcap hmax hsp ⊢
  have HB0 := hide ((Below.refl w.heap.size w).alloc (Nat.le_refl _) (.cells #[.string sep, .slice A keys.length cap, .bool rv, .bool st, .bool un] 24))
  by_cases h1 : 1 < sep.size
  · have HE : Hid (ordErr ⟨sep, keys, rv, st, un⟩ = 5) := hide (by unfold ordErr; rw [if_pos (.inl h1)])
    have hd : decide (1 < sep.size) = true := by simpa using h1
    go_enter Tryz.func7, Tryz.ntmps7
    go_wp2_with fail
    go_ret
    exact ⟨by rw [HE.out]; rfl, HB0.out⟩
  · have hd : ¬ ((1 : Int) < (sep.size : Int)) := by omega
    by_cases h2 : sep = ⟨#[10]⟩
    · subst h2
      have HE : Hid (ordErr ⟨⟨#[10]⟩, keys, rv, st, un⟩ = 5) := hide (by unfold ordErr; rw [if_pos (.inr rfl)])
      go_enter Tryz.func7, Tryz.ntmps7
      go_wp2_with fail
      go_ret
      exact ⟨by rw [HE.out]; rfl, HB0.out⟩
    · have h2' : (sep.toList == [10]) = false := by
        rw [Lib.toList_data, beq_eq_false_iff_ne]
        intro e; exact h2 (of_list e)
      by_cases h3 : 8 < keys.length
      · have HE : Hid (ordErr ⟨sep, keys, rv, st, un⟩ = 2) := hide (by unfold ordErr; rw [if_neg (by intro h; rcases h with h | h; exact h1 h; exact h2 h), if_pos h3])
        clear h2 h1
        go_enter Tryz.func7, Tryz.ntmps7
        go_wp2_with fail
        go_ret
        exact ⟨by rw [HE.out]; rfl, HB0.out⟩
      · have HE : Hid (ordErr ⟨sep, keys, rv, st, un⟩ = firstNZ ((keys.drop 0).map keyErr)) := hide (by unfold ordErr; rw [if_neg (by intro h; rcases h with h | h; exact h1 h; exact h2 h), if_neg h3]; rfl)
        clear h2 h1
        go_enter Tryz.func7, Tryz.ntmps7
        go_wp2_with fail
        obtain ⟨W1, hWW⟩ : ∃ W1, w.alloc (.cells #[.string sep, .slice A keys.length cap, .bool rv, .bool st, .bool un] 24) = W1 := ⟨_, rfl⟩
        have hz1 : W1.heap.size = w.heap.size + 1 := by rw [← hWW]; simp
        rw [hWW] at HB0 ⊢
        have HZ1 := hide hz1
        clear hWW hz1 hd h2'
        go_loopw [21] (fun i wr => ∃ k : Nat, k ≤ keys.length ∧ i = .int .i64 (k : Int) ∧ Below W1.heap.size W1 wr ∧ Hid (ordErr ⟨sep, keys, rv, st, un⟩ = firstNZ ((keys.drop k).map keyErr))) (fun i _ => keys.length - (intOf i).toNat)
        case atStart => exact ⟨0, by omega, rfl, Below.refl _ _, HE⟩
        case round =>
          obtain ⟨k, hkn, rfl, hbw, HV⟩ := hrel
          by_cases hlt : k < keys.length
          · obtain ⟨g, o, rfl, hgl, hj⟩ := HX.out (by omega)
            have hzz := hbw.size
            rw [HZ1.out] at hzz
            have hj' : ∀ j u, (kysCells keys)[j]? = some u → wr.cell? ⟨g, o + j, none⟩ = some u := fun j u hu => (hbw.cell (p := ⟨g, o + j, none⟩) (by rw [HZ1.out]; show g < _; omega)).trans ((HB0.out.cell (p := ⟨g, o + j, none⟩) hgl).trans (hj j u hu))
            have hK := List.getElem?_eq_getElem hlt
            obtain ⟨c0, c1, c2, c3, c4, c5, c6, c7⟩ := KeysIn.cells (n := 0) (cap := 0) hj' hK
            obtain ⟨K, hKK⟩ : ∃ K, keys[k] = K := ⟨_, rfl⟩
            have HM := hide (fun (e : keyErr K = 0) => fnz_miss (f := keyErr) HV hlt (by rw [hKK]; exact e))
            have HH := hide (fun (e : keyErr K = 3) => fnz_hit (f := keyErr) (e := 3) HV hlt (by rw [hKK]; exact e) (by decide))
            rw [hKK] at c0 c1 c2 c3 c4 c5 c6 c7
            clear hj hj' hK hKK
            obtain ⟨f1, f2, l1, l2, nu, re, fo, bl⟩ := K
            dsimp only at c0 c1 c2 c3 c4 c5 c6 c7
            have BN := hide (hbw.alloc (o := .cells #[.int .i64 f1, .int .i64 f2, .int .i64 l1, .int .i64 l2, .bool nu, .bool re, .bool fo, .bool bl] 60) hbw.size)
            have HBAD := hide (fun (h : ¬ ((1 ≤ f1 ∧ f1 ≤ 4096) ∧ (1 ≤ f2 ∧ f2 ≤ 4096) ∧ (0 ≤ l1 ∧ l1 ≤ 4096) ∧ (0 ≤ l2 ∧ l2 ≤ 4096) ∧ ¬ (l1 = 0 ∧ l2 ≠ 0))) => HH.out (by unfold keyErr; exact if_neg h))
            have HOK := hide (fun (h : (1 ≤ f1 ∧ f1 ≤ 4096) ∧ (1 ≤ f2 ∧ f2 ≤ 4096) ∧ (0 ≤ l1 ∧ l1 ≤ 4096) ∧ (0 ≤ l2 ∧ l2 ≤ 4096) ∧ ¬ (l1 = 0 ∧ l2 ≠ 0)) => HM.out (by unfold keyErr; exact if_pos h))
            clear HM HH
            by_cases t0 : f1 < 1
            · have HQ := hide (HBAD.out (by omega))
              have u0 : decide (f1 < 1) = true := by simpa using t0
              go_wp2_with fail
              go_ret
              exact ⟨by rw [← HQ.out]; rfl, HB0.out.trans (BN.out.mono (by rw [HZ1.out]; omega))⟩
            · have u0 : decide (f1 < 1) = false := by simpa using t0
              by_cases t1 : 4096 < f1
              · have HQ := hide (HBAD.out (by omega))
                have u1 : decide (4096 < f1) = true := by simpa using t1
                go_wp2_with fail
                go_ret
                exact ⟨by rw [← HQ.out]; rfl, HB0.out.trans (BN.out.mono (by rw [HZ1.out]; omega))⟩
              · have u1 : decide (4096 < f1) = false := by simpa using t1
                by_cases t2 : f2 < 1
                · have HQ := hide (HBAD.out (by omega))
                  have u2 : decide (f2 < 1) = true := by simpa using t2
                  go_wp2_with fail
                  go_ret
                  exact ⟨by rw [← HQ.out]; rfl, HB0.out.trans (BN.out.mono (by rw [HZ1.out]; omega))⟩
                · have u2 : decide (f2 < 1) = false := by simpa using t2
                  by_cases t3 : 4096 < f2
                  · have HQ := hide (HBAD.out (by omega))
                    have u3 : decide (4096 < f2) = true := by simpa using t3
                    go_wp2_with fail
                    go_ret
                    exact ⟨by rw [← HQ.out]; rfl, HB0.out.trans (BN.out.mono (by rw [HZ1.out]; omega))⟩
                  · have u3 : decide (4096 < f2) = false := by simpa using t3
                    by_cases t4 : l1 < 0
                    · have HQ := hide (HBAD.out (by omega))
                      have u4 : decide (l1 < 0) = true := by simpa using t4
                      go_wp2_with fail
                      go_ret
                      exact ⟨by rw [← HQ.out]; rfl, HB0.out.trans (BN.out.mono (by rw [HZ1.out]; omega))⟩
                    · have u4 : decide (l1 < 0) = false := by simpa using t4
                      by_cases t5 : 4096 < l1
                      · have HQ := hide (HBAD.out (by omega))
                        have u5 : decide (4096 < l1) = true := by simpa using t5
                        go_wp2_with fail
                        go_ret
                        exact ⟨by rw [← HQ.out]; rfl, HB0.out.trans (BN.out.mono (by rw [HZ1.out]; omega))⟩
                      · have u5 : decide (4096 < l1) = false := by simpa using t5
                        by_cases t6 : l2 < 0
                        · have HQ := hide (HBAD.out (by omega))
                          have u6 : decide (l2 < 0) = true := by simpa using t6
                          go_wp2_with fail
                          go_ret
                          exact ⟨by rw [← HQ.out]; rfl, HB0.out.trans (BN.out.mono (by rw [HZ1.out]; omega))⟩
                        · have u6 : decide (l2 < 0) = false := by simpa using t6
                          by_cases t7 : 4096 < l2
                          · have HQ := hide (HBAD.out (by omega))
                            have u7 : decide (4096 < l2) = true := by simpa using t7
                            go_wp2_with fail
                            go_ret
                            exact ⟨by rw [← HQ.out]; rfl, HB0.out.trans (BN.out.mono (by rw [HZ1.out]; omega))⟩
                          · have u7 : decide (4096 < l2) = false := by simpa using t7
                            by_cases t8 : l1 = 0
                            · have u8 : (l1 == 0) = true := by simpa using t8
                              by_cases t9 : l2 = 0
                              · have HQ := hide (HOK.out (by omega))
                                have u9 : (l2 != 0) = false := by simpa using t9
                                clear t8 t9
                                go_wp2_with fail
                                go_roundw
                                case rel => exact ⟨k + 1, by omega, by go_num, BN.out, HQ.out⟩
                                case measure => simp [intOf]; omega
                              · have HQ := hide (HBAD.out (by omega))
                                have u9 : (l2 != 0) = true := by simpa using t9
                                clear t8 t9
                                go_wp2_with fail
                                go_ret
                                exact ⟨by rw [← HQ.out]; rfl, HB0.out.trans (BN.out.mono (by rw [HZ1.out]; omega))⟩
                            · have HQ := hide (HOK.out (by omega))
                              have u8 : (l1 == 0) = false := by simpa using t8
                              clear t8
                              go_wp2_with fail
                              go_roundw
                              case rel => exact ⟨k + 1, by omega, by go_num, BN.out, HQ.out⟩
                              case measure => simp [intOf]; omega
          · have HQ := hide (fnz_end (f := keyErr) HV hlt)
            go_wp2_with fail
            go_ret
            exact ⟨ret_int HQ.out, HB0.out.trans (hbw.mono (by rw [HZ1.out]; omega))⟩
end Go.Proofs.YtkikbejpgfhfoaaGreatDoor
