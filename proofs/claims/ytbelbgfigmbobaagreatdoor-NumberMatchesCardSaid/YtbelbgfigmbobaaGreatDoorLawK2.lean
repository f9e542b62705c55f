/- More of the laws' small functions: large, and the reference's ResultOf. -/
import Derived.Test.YtbelbgfigmbobaaGreatDoorRefL
set_option linter.unusedVariables false
set_option linter.unusedSimpArgs false
namespace Go.Pw
open Go.RowKit
theorem resL_snoc (l : List ByteArray) (x : ByteArray) : mkB (resL (l ++ [x])) = mkB (resL l) ++ (x ++ (⟨#[10]⟩ : ByteArray)) := by
  rw [resL_append]
  simp only [resL]
  rw [← mkB_list (mkB (resL l) ++ (x ++ (⟨#[10]⟩ : ByteArray)))]
  congr 1
theorem strs_two (w : World) (s t : ByteArray) (ty : TypeId) (hs : s.size ≤ maxLen) (ht : t.size ≤ maxLen) : Strs (w.alloc (.cells #[.string s, .string t] ty)) (.slice (some ⟨w.heap.size, 0, none⟩) 2 2) [s, t] := by
  refine ⟨⟨rfl, _, _, rfl, Nat.le_refl _, by unfold maxLen; omega, fun _ => ⟨w.heap.size, 0, rfl, by simp, fun j u hu => ?_⟩⟩, by simp; exact ⟨hs, ht⟩⟩
  rw [World.cell?_alloc_new]
  simpa using hu
end Go.Pw
namespace Go.Proofs.YtbelbgfigmbobaaGreatDoor
open Go.RowKit Go.Pw
set_option maxHeartbeats 1000000 in
theorem indexTooLarge_any (v : Value) (l : List ByteArray) (w : World) (h : Strs w v l) :
    Calls Tryz.prog 100 #[v, .func (.func 45) #[] #[]] w fun e w' => (∃ n : Int, e = .returned (.int .i64 n) ∧ (l.any bigB = decide (0 ≤ n))) ∧ Below w.heap.size w w' := by
  obtain ⟨⟨_, A, cap, rfl, hcap, hmax, hx⟩, hsz⟩ := h
  unfold maxLen at hmax
  have HX := hide hx
  have HSZ := hide hsz
  clear hx hsz
  go_enter Tryz.func100, Tryz.ntmps100
  go_wp2_with fail
  go_loopw [8] (fun i wr => ∃ k : Nat, k ≤ l.length ∧ i = .int .i64 (k : Int) ∧ Hid ((l.take k).any bigB = false) ∧ Below w.heap.size w wr) (fun i _ => l.length - (intOf i).toNat)
  case atStart => exact ⟨0, by omega, rfl, hide rfl, Below.refl _ _⟩
  case round =>
    obtain ⟨k, hk, rfl, HK, hb⟩ := hrel
    by_cases hlt : k < l.length
    · obtain ⟨bb, o, rfl, hbb, hj⟩ := HX.out (by omega)
      have hc : wr.cell? ⟨bb, o + k, none⟩ = some (.string l[k]) := (hb.cell (p := ⟨bb, o + k, none⟩) hbb).trans (hj k _ (by simp [hlt]))
      have hz := HSZ.out _ (List.getElem_mem hlt)
      unfold maxLen at hz
      have HT : Hid ((l.take (k + 1)).any bigB = bigB l[k]) := hide (by rw [List.take_succ_eq_append_getElem hlt, List.any_append, HK.out]; simp)
      have HA : Hid (bigB l[k] = true → l.any bigB = true) := hide (fun e => List.any_eq_true.2 ⟨_, List.getElem_mem hlt, e⟩)
      clear hj
      obtain ⟨x, hxx⟩ : ∃ x, l[k] = x := ⟨_, rfl⟩
      rw [hxx] at hc hz HT HA
      clear hxx
      go_wp2_with fail
      refine (tooLarge_any x _ (by omega)).mono ?_
      rintro e w2 ⟨rfl, hb2⟩
      have hb3 := hb.trans (hb2.mono hb.size)
      have HB3 := hide hb3
      clear hb2 hb3 hc
      cases hbig : bigB x
      · rw [hbig] at HT
        go_wp2_with fail
        go_roundw
        case rel => exact ⟨k + 1, by omega, by go_num, HT, HB3.out⟩
        case measure => simp [intOf]; omega
      · have HQ := hide (HA.out hbig)
        clear hbig HA
        go_wp2_with fail
        go_ret
        exact ⟨⟨_, rfl, by rw [HQ.out]; simp⟩, HB3.out⟩
    · obtain rfl : k = l.length := by omega
      rw [List.take_length] at HK
      go_wp2_with fail
      go_ret
      exact ⟨⟨_, rfl, by rw [HK.out]; rfl⟩, hb⟩
theorem containsTooLarge_any (v : Value) (l : List ByteArray) (w : World) (h : Strs w v l) :
    Calls Tryz.prog 44 #[v, .func (.func 45) #[] #[]] w fun e w' => e = .returned (.bool (l.any bigB)) ∧ Below w.heap.size w w' := by
  have HI := hide (indexTooLarge_any v l w h)
  clear h
  go_enter Tryz.func44, Tryz.ntmps44
  go_wp2_with fail
  refine HI.out.mono ?_
  rintro e w1 ⟨⟨n, rfl, hn⟩, hb⟩
  have HN := hide hn
  clear hn
  go_wp2_with fail
  go_ret
  exact ⟨by rw [HN.out]; rfl, hb⟩
theorem largeL_any (v : Value) (l : List ByteArray) (w : World) (h : Strs w v l) :
    Calls Tryz.prog 12 #[v] w fun e w' => e = .returned (.int .i64 (if l.any bigB then 2 else 0)) ∧ Below w.heap.size w w' := by
  have HI := hide (containsTooLarge_any v l w h)
  clear h
  obtain ⟨c, hc⟩ : ∃ c, l.any bigB = c := ⟨_, rfl⟩
  rw [hc] at HI ⊢
  clear hc
  cases c
  all_goals
    go_enter Tryz.func12, Tryz.ntmps12
    go_wp2_with fail
    refine HI.out.mono ?_
    rintro e w1 ⟨rfl, hb⟩
    go_wp2_with fail
    go_ret
    exact ⟨rfl, hb⟩
theorem resultOf_any (v : Value) (l : List ByteArray) (w : World) (h : Strs w v l) (hlen : (resL l).length ≤ 1000000000) :
    Calls Tryz.prog 16 #[v] w fun e w' => e = .returned (.string (mkB (resL l))) ∧ w = w' := by
  obtain ⟨⟨_, A, cap, rfl, hcap, hmax, hx⟩, hsz⟩ := h
  unfold maxLen at hmax
  have HX := hide hx
  have HLEN := hide hlen
  clear hx hsz hlen
  go_enter Tryz.func16, Tryz.ntmps16
  go_wp2
  go_loop [3, 8] (fun s i => ∃ k : Nat, k ≤ l.length ∧ i = .int .i64 (k : Int) ∧ s = .string (mkB (resL (l.take k)))) (fun _ i => l.length - (intOf i).toNat)
  case atStart => exact ⟨0, by omega, rfl, rfl⟩
  case round =>
    obtain ⟨k, hk, rfl, rfl⟩ := hrel
    by_cases hlt : k < l.length
    · obtain ⟨b, o, rfl, hb, hj⟩ := HX.out (by omega)
      have hc : w.cell? ⟨b, o + k, none⟩ = some (.string l[k]) := hj k _ (by simp [hlt])
      have HN : Hid (mkB (resL (l.take (k + 1))) = mkB (resL (l.take k)) ++ (l[k] ++ (⟨#[10]⟩ : ByteArray))) := hide (by rw [List.take_succ_eq_append_getElem hlt, resL_snoc])
      have hz : (mkB (resL (l.take k))).size + l[k].size + 1 ≤ 1000000000 := by
        have h1 := resL_take_le l (k + 1)
        have h2 := congrArg ByteArray.size HN.out
        have h3 : ((⟨#[10]⟩ : ByteArray)).size = 1 := rfl
        rw [ByteArray.size_append, ByteArray.size_append, h3, mkB_size, mkB_size] at h2
        have := HLEN.out
        rw [mkB_size]; omega
      obtain ⟨x, hx⟩ : ∃ x, mkB (resL (l.take k)) = x := ⟨_, rfl⟩
      rw [hx] at hz HN ⊢
      clear hx hj
      go_wp2_with fail
      go_round
      case rel => exact ⟨k + 1, by omega, by go_num, by rw [HN.out]⟩
      case measure => simp [intOf]; omega
    · obtain rfl : k = l.length := by omega
      rw [List.take_length]
      go_wp2_with fail
      go_ret
      exact ⟨rfl, rfl⟩
end Go.Proofs.YtbelbgfigmbobaaGreatDoor
