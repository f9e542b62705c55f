/- text.Sort and text.Ordered. -/
import Derived.Test.YtkikbejpgfhfoaaGreatDoorTold
import Derived.Test.YtkikbejpgfhfoaaGreatDoorSortedP
set_option linter.unusedVariables false
set_option linter.unusedSimpArgs false
namespace Go.Pw
open Go.RowKit
theorem bigB_false {s : ByteArray} (h : bigB s = false) : s.size ≤ 65536 ∧ (linesOf s).length ≤ 4096 ∧ ∀ x ∈ linesOf s, x.size ≤ 65536 := by
  have h1 := (linesOf_bound s).2
  unfold bigB at h
  simp at h
  exact ⟨by omega, by omega, fun x hx => by have := h1 x hx; omega⟩
end Go.Pw
namespace Go.Proofs.YtkikbejpgfhfoaaGreatDoor
open Go.RowKit Go.Pw
/-- the lines of a text in order -/
def sortL (o : Sp) (s : ByteArray) : List ByteArray := toldL o (isrt (ltOf (ordCmp o)) (linesOf s))
/-- what text.Sort and text.Ordered say first -/
def specErr (o : Sp) (s : ByteArray) : Int := firstNZ [ordErr o, if bigB s then 2 else 0]
theorem sep_size {o : Sp} (he : ordErr o = 0) : o.sep.size ≤ 9223372036854775807 := by
  unfold ordErr at he
  split at he
  · cases he
  · rename_i h; omega
theorem insertionNil_any (fv : Value) (w : World) : Calls Tryz.prog 94 #[.slice none 0 0, .int .i64 0, .int .i64 0, fv] w fun e w' => e = .returned (.tuple #[]) ∧ w = w' := by
  go_enter Tryz.func94, Tryz.ntmps94
  go_wp2_with fail
  go_loop [8] (fun i => i = .int .i64 1) (fun _ => 0)
  case atStart => rfl
  case round =>
    obtain rfl := hrel
    go_wp2_with fail
    go_end0
    exact ⟨rfl, rfl⟩
theorem stableNil_any (fv : Value) (w : World) : Calls Tryz.prog 76 #[.slice none 0 0, .int .i64 0, fv] w fun e w' => e = .returned (.tuple #[]) ∧ w = w' := by
  go_enter Tryz.func76, Tryz.ntmps76
  go_wp2_with fail
  go_loop [7, 8] (fun x y => x = .int .i64 0 ∧ y = .int .i64 20) (fun _ _ => 0)
  case atStart => exact ⟨rfl, rfl⟩
  case round =>
    obtain ⟨rfl, rfl⟩ := hrel
    go_wp2_with fail
    refine (insertionNil_any _ _).mono ?_
    rintro e w' ⟨rfl, rfl⟩
    go_wp2_with fail
    go_loop [6] (fun x => x = .int .i64 20) (fun _ => 0)
    case atStart => rfl
    case round =>
      obtain rfl := hrel
      go_wp2_with fail
      go_end0
      exact ⟨rfl, rfl⟩
theorem sortStableNil_any (fv : Value) (w : World) : Calls Tryz.prog 58 #[.slice none 0 0, fv] w fun e w' => e = .returned (.tuple #[]) ∧ w = w' := by
  go_enter Tryz.func58, Tryz.ntmps58
  go_wp2_with fail
  refine (stableNil_any _ _).mono ?_
  rintro e w' ⟨rfl, rfl⟩
  go_wp2_with fail
  go_end0
  exact ⟨rfl, rfl⟩
set_option maxHeartbeats 2000000 in
set_option maxRecDepth 100000 in
theorem sort_good (o : Sp) (kv : Value) (s : ByteArray) (w : World) (hk : KeysIn w kv o.keys) (he : ordErr o = 0) (hb : bigB s = false) :
    Calls Tryz.prog 33 #[spV o kv, .string s] w fun e w' => e = .returned (.tuple #[.string (mkB (resL (sortL o s))), .int .i64 0]) ∧ Below w.heap.size w w' := by
  obtain ⟨A, cap, rfl⟩ : ∃ A cap, kv = .slice A o.keys.length cap := by
    obtain ⟨_, A, cap, h, _⟩ := hk
    exact ⟨A, cap, h⟩
  obtain ⟨hsz, hln, hls⟩ := bigB_false hb
  have hB0 := ((Below.refl w.heap.size w).alloc (Nat.le_refl _) (.cells #[.string o.sep, (.slice A o.keys.length cap), .bool o.reverse, .bool o.stable, .bool o.unique] 24))
  have HN0 : Hid (SpIn (w.alloc (.cells #[.string o.sep, (.slice A o.keys.length cap), .bool o.reverse, .bool o.stable, .bool o.unique] 24)) w.heap.size 24 o (.slice A o.keys.length cap)) := hide (heap_alloc_new _ _)
  have HV := hide (valid_any o (.slice A o.keys.length cap) _ (hk.below hB0) (sep_size he))
  have HGD := hide (good_of_valid he)
  have HK := hide hk
  have HB0 := hide hB0
  rw [he] at HV
  have HBIG := hide hb
  have HLS := hide hls
  clear hk hB0 he hb hls
  unfold spV at HV ⊢
  go_enter Tryz.func33, Tryz.ntmps33
  go_wp2_with fail
  obtain ⟨W1, hW1⟩ : ∃ W1, w.alloc (.cells #[.string o.sep, (.slice A o.keys.length cap), .bool o.reverse, .bool o.stable, .bool o.unique] 24) = W1 := ⟨_, rfl⟩
  have hz1 : W1.heap.size = w.heap.size + 1 := by rw [← hW1]; simp
  rw [hW1] at HV HB0 HN0 ⊢
  have HZ1 := hide hz1
  clear hW1 hz1
  refine HV.out.mono ?_
  rintro e w1 ⟨rfl, hb1⟩
  have n1 := HN0.out.below hb1 (by rw [HZ1.out]; omega)
  have HB1 := hide (HB0.out.trans (hb1.mono (by rw [HZ1.out]; omega)))
  have HN1 := hide n1
  clear hb1 n1 HV
  have HST := hide (sized_any _ [s] _ (strs_one w1 s 9 (by unfold maxLen; omega)))
  have e0 : ([s].any bigB) = false := by simp [HBIG.out]
  rw [e0] at HST
  clear e0
  go_wp2_with fail
  refine HST.out.mono ?_
  rintro e w2 ⟨rfl, hb2⟩
  have hb2' : Below w1.heap.size w1 w2 := ((Below.refl w1.heap.size w1).alloc (Nat.le_refl _) _).trans (hb2.mono (by simp))
  have n2 := HN1.out.below hb2' HN1.out.lt
  obtain ⟨c0, c1, c2, c3, c4⟩ := n2.cells
  have HB2 := hide (HB1.out.trans (hb2'.mono HB1.out.size))
  clear hb2 hb2' n2 HST
  have HN3 : Hid (SpIn (w2.alloc (.cells #[.string o.sep, (.slice A o.keys.length cap), .bool o.reverse, .bool o.stable, .bool o.unique] 52)) w2.heap.size 52 o (.slice A o.keys.length cap)) := hide (heap_alloc_new _ _)
  have HB3 := hide (HB2.out.alloc HB2.out.size (.cells #[.string o.sep, (.slice A o.keys.length cap), .bool o.reverse, .bool o.stable, .bool o.unique] 52))
  go_wp2_with fail
  obtain ⟨W3, hW3⟩ : ∃ W3, w2.alloc (.cells #[.string o.sep, (.slice A o.keys.length cap), .bool o.reverse, .bool o.stable, .bool o.unique] 52) = W3 := ⟨_, rfl⟩
  have hz3 : W3.heap.size = w2.heap.size + 1 := by rw [← hW3]; simp
  rw [hW3] at HN3 HB3 ⊢
  have HZ3 := hide hz3
  clear hW3 hz3 c0 c1 c2 c3 c4
  refine (lines_any s _ (by omega)).mono ?_
  rintro e w4 ⟨v, rfl, hr⟩
  have hb4 := linesRes_below hr
  have hwz : w.heap.size ≤ W3.heap.size := HB3.out.size
  have HB4 := hide (HB3.out.trans (hb4.mono hwz))
  have HN4 := hide (HN3.out.below hb4 (by rw [HZ3.out]; omega))
  obtain ⟨c0, c1, c2, c3, c4⟩ := HN4.out.cells
  have HKW := hide (HK.out.below HB4.out)
  have HST4 := hide (linesRes_strs hr (fun x hx => by have := HLS.out x hx; unfold maxLen; omega) (by unfold maxLen; omega))
  have hn4 := HN4.out.lt
  by_cases h0 : 0 < (linesOf s).length
  · obtain ⟨rfl, hrow⟩ := linesRes_row hr h0
    have HSS := hide (sortStable_any (ordCmp o) (spV o (.slice A o.keys.length cap)) w4.heap.size W3.heap.size 0 (linesOf s).length (linesOf s).length (linesOf s) w4 hrow.1 (Nat.le_refl _) hrow rfl (Nat.le_refl _) (by omega) HLS.out (ordCmp_cmp3 o).swo (fun x y w5 z1 z2 hb5 =>
      compare_any o (.slice A o.keys.length cap) x y w5 (Rd.keep HK.out (Nat.le_trans HB4.out.size hb5.size) fun p hp => (hb5.cell (by have := HB4.out.size; omega) (by omega)).trans (HB4.out.cell hp)) HGD.out (by omega) (by omega)))
    unfold spV at HSS
    clear hr hrow hb4
    go_wp2_with fail
    refine HSS.out.mono ?_
    rintro e w5 ⟨rfl, hr5, hb5⟩
    have n5 := HN4.out.but hb5 HN4.out.lt (by rw [HZ3.out]; omega)
    have HB5 := hide (HB4.out.trans (hb5.below HB4.out.size hwz))
    obtain ⟨d0, d1, d2, d3, d4⟩ := n5.cells
    have hil := isrt_len (ltOf (ordCmp o)) (linesOf s)
    have him : ∀ x ∈ isrt (ltOf (ordCmp o)) (linesOf s), x.size ≤ 65536 := fun x hx => HLS.out x (isrt_mem _ hx)
    have hst := strs_of_row (n := 0) (cap := (linesOf s).length) hr5 (by omega) (by unfold maxLen; omega) (fun x hx => by have := him x hx; unfold maxLen; omega)
    rw [hil] at hst
    have HTD := hide (told_any o (.slice A o.keys.length cap) _ (isrt (ltOf (ordCmp o)) (linesOf s)) w5 (HK.out.below HB5.out) HGD.out hst him (by omega))
    unfold spV at HTD
    clear c0 c1 c2 c3 c4 n5 hr5 hb5 hst hil him HSS HB4 HN4 HKW
    go_wp2_with fail
    refine HTD.out.mono ?_
    rintro e w6 ⟨rfl, hb6⟩
    have HB6 := hide (HB5.out.trans (hb6.mono HB5.out.size))
    clear hb6 d0 d1 d2 d3 d4 HTD
    go_wp2_with fail
    go_ret2
    exact ⟨rfl, HB6.out⟩
  · have hl0 : linesOf s = [] := List.eq_nil_of_length_eq_zero (by omega)
    have HL0 : Hid (sortL o s = toldL o []) := hide (by unfold sortL; rw [hl0]; rfl)
    rcases hr with ⟨_, rfl, rfl⟩ | ⟨h1, _⟩
    · have HTD := hide (told_any o (.slice A o.keys.length cap) (.slice none 0 0) [] w4 (HK.out.below HB3.out) HGD.out ⟨Rd.nil _ _, by simp⟩ (by simp) (by simp))
      unfold spV at HTD
      clear hl0 hb4 h0
      go_wp2_with fail
      refine (sortStableNil_any _ _).mono ?_
      rintro e w' ⟨rfl, rfl⟩
      go_wp2_with fail
      refine HTD.out.mono ?_
      rintro e w6 ⟨rfl, hb6⟩
      have HB6 := hide (HB3.out.trans (hb6.mono HB3.out.size))
      clear hb6 HTD
      go_wp2_with fail
      go_ret2
      exact ⟨by rw [HL0.out]; rfl, HB6.out⟩
    · exact absurd h1 h0
set_option maxHeartbeats 1000000 in
set_option maxRecDepth 100000 in
theorem sort_bad (o : Sp) (kv : Value) (s : ByteArray) (n : Int) (w : World) (hk : KeysIn w kv o.keys) (hsep : o.sep.size ≤ 9223372036854775807) (hs : s.size ≤ maxLen) (hn : n ≠ 0) (hsp : specErr o s = n) :
    Calls Tryz.prog 33 #[spV o kv, .string s] w fun e w' => e = .returned (.tuple #[.string ⟨#[]⟩, .int .i64 n]) ∧ Below w.heap.size w w' := by
  obtain ⟨A, cap, rfl⟩ : ∃ A cap, kv = .slice A o.keys.length cap := by
    obtain ⟨_, A, cap, h, _⟩ := hk
    exact ⟨A, cap, h⟩
  have hB0 := ((Below.refl w.heap.size w).alloc (Nat.le_refl _) (.cells #[.string o.sep, (.slice A o.keys.length cap), .bool o.reverse, .bool o.stable, .bool o.unique] 24))
  have HV := hide (valid_any o (.slice A o.keys.length cap) _ (hk.below hB0) hsep)
  have HB0 := hide hB0
  have hne : (n != 0) = true := by simpa using hn
  unfold specErr at hsp
  clear hk hB0
  unfold spV at HV ⊢
  by_cases he : ordErr o = 0
  · have hbg : bigB s = true ∧ n = 2 := by
      rw [he] at hsp
      cases hb : bigB s
      · rw [hb] at hsp; simp [firstNZ] at hsp; omega
      · rw [hb] at hsp; simp [firstNZ] at hsp; exact ⟨rfl, hsp.symm⟩
    obtain ⟨hbig, rfl⟩ := hbg
    have HBIG := hide hbig
    rw [he] at HV
    clear hsp he hbig hn
    go_enter Tryz.func33, Tryz.ntmps33
    go_wp2_with fail
    refine HV.out.mono ?_
    rintro e w1 ⟨rfl, hb1⟩
    have HB1 := hide (HB0.out.trans (hb1.mono (by simp)))
    have HST := hide (sized_any _ [s] _ (strs_one w1 s 9 hs))
    have e0 : ([s].any bigB) = true := by simp [HBIG.out]
    rw [e0] at HST
    clear e0 hb1
    go_wp2_with fail
    refine HST.out.mono ?_
    rintro e w2 ⟨rfl, hb2⟩
    have HB2 := hide (HB1.out.trans ((((Below.refl w1.heap.size w1).alloc (Nat.le_refl _) _).trans (hb2.mono (by simp)) : Below w1.heap.size w1 w2).mono HB1.out.size))
    clear hb2
    go_wp2_with fail
    go_ret2
    exact ⟨rfl, HB2.out⟩
  · have hn2 : ordErr o = n := by rw [firstNZ, if_neg he] at hsp; exact hsp
    rw [hn2] at HV
    clear hsp he hn2
    go_enter Tryz.func33, Tryz.ntmps33
    go_wp2_with fail
    refine HV.out.mono ?_
    rintro e w1 ⟨rfl, hb1⟩
    have HB1 := hide (HB0.out.trans (hb1.mono (by simp)))
    clear hb1
    go_wp2_with fail
    go_ret2
    exact ⟨rfl, HB1.out⟩
end Go.Proofs.YtkikbejpgfhfoaaGreatDoor
