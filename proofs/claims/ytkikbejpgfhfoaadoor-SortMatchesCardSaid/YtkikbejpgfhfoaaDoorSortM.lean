/- The law SortMatches: the walk. -/
import Derived.Test.YtkikbejpgfhfoaaDoorSortG
import Derived.Test.YtkikbejpgfhfoaaDoorSortR
import Derived.Test.YtkikbejpgfhfoaaDoorRefO4
import Derived.Test.YtkikbejpgfhfoaaDoorCommM
set_option linter.unusedVariables false
set_option linter.unusedSimpArgs false
namespace Go.Proofs.YtkikbejpgfhfoaaDoor
open Go.RowKit Go.Pw
theorem brief_any (s : ByteArray) (w : World) : Calls Tryd.prog 23 #[.string s] w fun e w' => e = .returned (.bool (decide (s.size ≤ 3000))) ∧ w = w' := by
  go_enter Tryd.func23, Tryd.ntmps23
  go_wp2_with fail
  go_ret
  exact ⟨ret_bool (decide_eq_decide.2 (by omega)), rfl⟩
theorem sortL_ref (o : Sp) (s : ByteArray) : sortR (ordCmp o) o.unique (linesOf s) = sortL o s := by
  unfold sortL toldL
  cases o.unique
  · exact sortR_plain (ordCmp_cmp3 o) _
  · exact sortR_unique (ordCmp_cmp3 o) _
theorem largeOne_any (s : ByteArray) (w : World) (hs : s.size ≤ maxLen) : Calls Tryd.prog 22 #[.slice (some ⟨w.heap.size, 0, none⟩) 1 1] (w.alloc (.cells #[.string s] 9)) fun e w' => e = .returned (.int .i64 (if bigB s then 2 else 0)) ∧ Below w.heap.size w w' :=
  (largeL_any _ [s] _ (strs_one w s 9 hs)).mono fun e w' ⟨h1, h2⟩ => ⟨by rw [h1]; simp, ((Below.refl _ _).alloc (Nat.le_refl _) _).trans (h2.mono (by simp))⟩
set_option maxHeartbeats 2000000 in
set_option maxRecDepth 100000 in
theorem sortMatches_bad (o : Sp) (kv : Value) (s : ByteArray) (n : Int) (w : World) (hk : KeysIn w kv o.keys) (hsep : o.sep.size ≤ maxLen) (hs : s.size ≤ maxLen) (hn : n ≠ 0) (hsp : specErr o s = n) :
    Calls Tryd.prog 4 #[spV o kv, .string s] w fun e w' => e = .returned (.bool true) ∧ Below w.heap.size w w' := by
  unfold maxLen at hsep
  have hsep' : o.sep.size ≤ 9223372036854775807 := by omega
  obtain ⟨A, cap, rfl⟩ : ∃ A cap, kv = .slice A o.keys.length cap := by
    obtain ⟨_, A, cap, h, _⟩ := hk
    exact ⟨A, cap, h⟩
  have hB0 := ((Below.refl w.heap.size w).alloc (Nat.le_refl _) (.cells #[.string o.sep, (.slice A o.keys.length cap), .bool o.reverse, .bool o.stable, .bool o.unique] 24))
  have HN0 : Hid (SpIn (w.alloc (.cells #[.string o.sep, (.slice A o.keys.length cap), .bool o.reverse, .bool o.stable, .bool o.unique] 24)) w.heap.size 24 o (.slice A o.keys.length cap)) := hide (heap_alloc_new _ _)
  have HB0 := hide hB0
  have HK := hide hk
  have HSO := hide (fun W h => sort_bad o (.slice A o.keys.length cap) s n W h hsep' hs hn hsp)
  have HOO := hide (fun W h => ordered_bad o (.slice A o.keys.length cap) s n W h hsep' hs hn hsp)
  have HOE := hide (fun W h => orderError_any o (.slice A o.keys.length cap) W h hsep')
  have HLG := hide (fun W => largeOne_any s W hs)
  have HSP := hide hsp
  have hnb : (n != 0) = true := by simpa using hn
  have hnn : (n == n) = true := by simp
  unfold specErr at HSP
  obtain ⟨x, hx⟩ : ∃ x, ordErr o = x := ⟨_, rfl⟩
  obtain ⟨y, hy⟩ : ∃ y : Int, (if bigB s then (2 : Int) else 0) = y := ⟨_, rfl⟩
  simp only [hx] at HOE HSP
  simp only [hy] at HLG HSP
  clear hx hy hk hB0 hsp hn
  unfold spV at HSO HOO HOE ⊢
  go_enter Tryd.func4, Tryd.ntmps4
  go_wp2_with fail
  refine (HSO.out _ (HK.out.below HB0.out)).mono ?_
  rintro e w1 ⟨rfl, hb1⟩
  have HB1 := hide (HB0.out.trans (hb1.mono (by simp)))
  have HN1 := hide (HN0.out.below hb1 (by simp))
  clear hb1
  obtain ⟨c0, c1, c2, c3, c4⟩ := HN1.out.cells
  go_wp2_with fail
  refine (HOO.out _ (HK.out.below HB1.out)).mono ?_
  rintro e w2 ⟨rfl, hb2⟩
  have HB2 := hide (HB1.out.trans (hb2.mono HB1.out.size))
  have HN2 := hide (HN1.out.below hb2 HN1.out.lt)
  clear hb2 c0 c1 c2 c3 c4
  obtain ⟨c0, c1, c2, c3, c4⟩ := HN2.out.cells
  go_wp2_with fail
  refine (HOE.out _ (HK.out.below HB2.out)).mono ?_
  rintro e w3 ⟨rfl, hb3⟩
  have HB3 := hide (HB2.out.trans (hb3.mono HB2.out.size))
  clear hb3 c0 c1 c2 c3 c4
  go_wp2_with fail
  refine (HLG.out _).mono ?_
  rintro e w4 ⟨rfl, hb4⟩
  have HB4 := hide (HB3.out.trans (hb4.mono HB3.out.size))
  clear hb4
  go_wp2_with fail
  refine (firstTwo_any _ _ _).mono ?_
  rintro e w5 ⟨rfl, rfl⟩
  rw [HSP.out]
  have HB5 := hide (HB4.out.alloc HB4.out.size (.cells #[.int .i64 x, .int .i64 y] 25))
  go_wp2_with fail
  refine (sorts_any _).mono ?_
  rintro e w6 ⟨rfl, hb6⟩
  have HB6 := hide (HB5.out.trans (hb6.mono HB5.out.size))
  clear hb6
  go_wp2_with fail
  refine (sorts_any _).mono ?_
  rintro e w7 ⟨rfl, hb7⟩
  have HB7 := hide (HB6.out.trans (hb7.mono HB6.out.size))
  clear hb7
  go_wp2_with fail
  go_ret
  exact ⟨ret_bool (by simp), HB7.out⟩
set_option maxHeartbeats 2000000 in
set_option maxRecDepth 100000 in
theorem sortMatches_good (o : Sp) (kv : Value) (s : ByteArray) (w : World) (hk : KeysIn w kv o.keys) (he : ordErr o = 0) (hb : bigB s = false) :
    Calls Tryd.prog 4 #[spV o kv, .string s] w fun e w' => e = .returned (.bool true) ∧ Below w.heap.size w w' := by
  obtain ⟨r, hr⟩ := unord_exists (ordCmp o) o.unique (linesOf s)
  obtain ⟨hsz, hln, hls⟩ := bigB_false hb
  obtain ⟨A, cap, rfl⟩ : ∃ A cap, kv = .slice A o.keys.length cap := by
    obtain ⟨_, A, cap, h, _⟩ := hk
    exact ⟨A, cap, h⟩
  have hB0 := ((Below.refl w.heap.size w).alloc (Nat.le_refl _) (.cells #[.string o.sep, (.slice A o.keys.length cap), .bool o.reverse, .bool o.stable, .bool o.unique] 24))
  have HN0 : Hid (SpIn (w.alloc (.cells #[.string o.sep, (.slice A o.keys.length cap), .bool o.reverse, .bool o.stable, .bool o.unique] 24)) w.heap.size 24 o (.slice A o.keys.length cap)) := hide (heap_alloc_new _ _)
  have HB0 := hide hB0
  have HK := hide hk
  have HGD := hide (good_of_valid he)
  have HR := hide hr
  have HLS := hide hls
  have HSO := hide (fun W h => sort_good o (.slice A o.keys.length cap) s W h he hb)
  have HOO := hide (fun W h => ordered_good o (.slice A o.keys.length cap) s r W h he hb HR)
  have HOE := hide (fun W h => orderError_any o (.slice A o.keys.length cap) W h (sep_size he))
  have HLG := hide (fun W => largeOne_any s W (by unfold maxLen; omega))
  obtain ⟨T, hT⟩ : ∃ T, mkB (resL (sortL o s)) = T := ⟨_, rfl⟩
  have HT := hide hT
  simp only [he] at HOE
  simp only [hb] at HLG
  simp only [hT] at HSO
  have hbd := sortR_bound (ordCmp o) o.unique (linesOf s) (linesOf s).length (Nat.le_refl _)
  rw [List.take_length] at hbd
  have HBD : Hid ((sortR (ordCmp o) o.unique (linesOf s)).length ≤ (linesOf s).length ∧ ∀ z ∈ sortR (ordCmp o) o.unique (linesOf s), z.size ≤ 65536) := hide ⟨hbd.1, fun z hz => hls z (hbd.2 z hz)⟩
  clear hk hB0 he hb hr hls hT hbd
  unfold spV at HSO HOO HOE ⊢
  go_enter Tryd.func4, Tryd.ntmps4
  go_wp2_with fail
  refine (HSO.out _ (HK.out.below HB0.out)).mono ?_
  rintro e w1 ⟨rfl, hb1⟩
  have HB1 := hide (HB0.out.trans (hb1.mono (by simp)))
  have HN1 := hide (HN0.out.below hb1 (by simp))
  clear hb1
  obtain ⟨c0, c1, c2, c3, c4⟩ := HN1.out.cells
  go_wp2_with fail
  refine (HOO.out _ (HK.out.below HB1.out)).mono ?_
  rintro e w2 ⟨rfl, hb2⟩
  have HB2 := hide (HB1.out.trans (hb2.mono HB1.out.size))
  have HN2 := hide (HN1.out.below hb2 HN1.out.lt)
  clear hb2 c0 c1 c2 c3 c4
  obtain ⟨c0, c1, c2, c3, c4⟩ := HN2.out.cells
  go_wp2_with fail
  refine (HOE.out _ (HK.out.below HB2.out)).mono ?_
  rintro e w3 ⟨rfl, hb3⟩
  have HB3 := hide (HB2.out.trans (hb3.mono HB2.out.size))
  have HN3 := hide (HN2.out.below hb3 HN2.out.lt)
  clear hb3 c0 c1 c2 c3 c4
  go_wp2_with fail
  refine (HLG.out _).mono ?_
  rintro e w4 ⟨rfl, hb4⟩
  have HB4 := hide (HB3.out.trans (hb4.mono HB3.out.size))
  have HN4 := hide (HN3.out.below hb4 HN3.out.lt)
  clear hb4
  go_wp2_with fail
  refine (firstTwo_any _ _ _).mono ?_
  rintro e w5 ⟨rfl, rfl⟩
  have hal := (Below.refl w4.heap.size w4).alloc (Nat.le_refl _) (.cells #[.int .i64 0, .int .i64 0] 25)
  have HB5 := hide (HB4.out.trans (hal.mono HB4.out.size))
  have HN5 := hide (HN4.out.below hal HN4.out.lt)
  obtain ⟨w5, hw5⟩ : ∃ w5, w4.alloc (.cells #[.int .i64 0, .int .i64 0] 25) = w5 := ⟨_, rfl⟩
  rw [hw5] at HB5 HN5 ⊢
  clear hw5 hal
  have hf0 : firstNZ [(0 : Int), 0] = 0 := rfl
  rw [hf0]
  go_wp2_with fail
  refine (sorts_any _).mono ?_
  rintro e w6 ⟨rfl, hb6⟩
  have HB6 := hide (HB5.out.trans (hb6.mono HB5.out.size))
  have HN6 := hide (HN5.out.below hb6 HN5.out.lt)
  clear hb6
  go_wp2_with fail
  refine (brief_any _ _).mono ?_
  rintro e w' ⟨rfl, rfl⟩
  cases hbr : decide (s.size ≤ 3000)
  · clear hbr
    go_wp2_with fail
    go_ret
    exact ⟨ret_bool (by simp), HB6.out⟩
  · clear hbr
    go_wp2_with fail
    refine (linesOf_any s _ (by omega)).mono ?_
    rintro e w7 ⟨v, rfl, ho, hb7⟩
    have HB7 := hide (HB6.out.trans (hb7.mono HB6.out.size))
    have HN7 := hide (HN6.out.below hb7 HN6.out.lt)
    have HV7 := hide (ho.strs (fun x hx => by have := HLS.out x hx; unfold maxLen; omega))
    clear hb7 ho
    obtain ⟨c0, c1, c2, c3, c4⟩ := HN7.out.cells
    go_wp2_with fail
    have hsr := sortedR_any o (.slice A o.keys.length cap) v (linesOf s) w7 (HK.out.below HB7.out) HGD.out HV7.out (fun x hx => by have := HLS.out x hx; omega) (by omega)
    unfold spV at hsr
    refine hsr.mono ?_
    rintro e w8 ⟨v2, rfl, ho2, hb8⟩
    have HB8 := hide (HB7.out.trans (hb8.mono HB7.out.size))
    have HN8 := hide (HN7.out.below hb8 HN7.out.lt)
    have HV8 := hide (HV7.out.below hb8)
    have hst2 := OwnS.strs ho2 (fun x hx => by have := HBD.out.2 x hx; unfold maxLen; omega)
    have hrl := resL_le HBD.out.2
    have hrm : (sortR (ordCmp o) o.unique (linesOf s)).length * (65536 + 1) ≤ 4096 * 65537 := Nat.mul_le_mul (by have := HBD.out.1; omega) (Nat.le_refl _)
    have HRS := hide (resultOf_any v2 _ w8 hst2 (by omega))
    rw [sortL_ref, HT.out] at HRS
    clear hsr ho2 hb8 hst2 hrl hrm c0 c1 c2 c3 c4
    obtain ⟨c0, c1, c2, c3, c4⟩ := HN8.out.cells
    go_wp2_with fail
    refine HRS.out.mono ?_
    rintro e w' ⟨rfl, rfl⟩
    have HUN := hide (unorderedR_any o (.slice A o.keys.length cap) v (linesOf s) r w8 (HK.out.below HB8.out) HGD.out HV8.out (fun x hx => by have := HLS.out x hx; omega) (by omega) HR)
    unfold spV at HUN
    go_wp2_with fail
    refine HUN.out.mono ?_
    rintro e w9 ⟨rfl, hb9⟩
    have HB9 := hide (HB8.out.trans (hb9.mono HB8.out.size))
    clear hb9
    go_wp2_with fail
    go_ret
    exact ⟨ret_bool (by simp), HB9.out⟩
theorem sortMatches_any (o : Sp) (kv : Value) (s : ByteArray) (w : World) (hk : KeysIn w kv o.keys) (hsep : o.sep.size ≤ maxLen) (hs : s.size ≤ maxLen) :
    Calls Tryd.prog 4 #[spV o kv, .string s] w fun e w' => e = .returned (.bool true) ∧ Below w.heap.size w w' := by
  by_cases h : specErr o s = 0
  · have h' := h
    unfold specErr at h'
    simp only [firstNZ] at h'
    by_cases he : ordErr o = 0
    · cases hb : bigB s
      · exact sortMatches_good o kv s w hk he hb
      · rw [he, hb] at h'; simp at h'
    · rw [if_neg he] at h'; exact absurd h' he
  · exact sortMatches_bad o kv s _ w hk hsep hs h rfl
end Go.Proofs.YtkikbejpgfhfoaaDoor
