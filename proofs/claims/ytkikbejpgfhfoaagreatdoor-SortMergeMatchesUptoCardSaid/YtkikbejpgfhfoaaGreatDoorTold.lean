/- told, of any order. -/
import Derived.Test.YtkikbejpgfhfoaaGreatDoorCompact
import Derived.Test.YtkikbejpgfhfoaaGreatDoorRefL
import Derived.Test.YtkikbejpgfhfoaaGreatDoorTell
set_option linter.unusedVariables false
set_option linter.unusedSimpArgs false
namespace Go.Proofs.YtkikbejpgfhfoaaGreatDoor
open Go.RowKit Go.Pw
set_option maxHeartbeats 1000000 in
theorem told1_any (o : Sp) (B : Option Addr) (cb : Nat) (a b : ByteArray) (bx : Nat) (w : World) (hk : KeysIn w (.slice B o.keys.length cb) o.keys) (hg : ∀ k ∈ o.keys, k.good) (hs : SpIn w bx 52 o (.slice B o.keys.length cb)) (ha : a.size ≤ 65536) (hb : b.size ≤ 65536) :
    Calls Tryz.prog 52 #[.string a, .string b, .pointer (some ⟨bx, 0, none⟩)] w fun e w2 => e = .returned (.bool (ordCmp o a b == 0)) ∧ Below w.heap.size w w2 := by
  have HC := hide (compare_any o (.slice B o.keys.length cb) a b w hk hg (by omega) (by omega))
  obtain ⟨d0, d1, d2, d3, d4⟩ := hs.cells
  unfold spV at HC
  clear hk hg hs
  go_enter Tryz.func52, Tryz.ntmps52
  go_wp2_with fail
  refine HC.out.mono ?_
  rintro e w2 ⟨rfl, hb2⟩
  go_wp2_with fail
  go_ret
  exact ⟨rfl, hb2⟩
theorem cloneS_any (A : Option Addr) (cap : Nat) (l : List ByteArray) (w : World) (h : Strs w (.slice A l.length cap) l) (h0 : 0 < l.length) (hl : l.length * 16 ≤ 140737488355328) :
    Calls Tryz.prog 51 #[.slice A l.length cap] w fun e w' => ∃ g c, e = .returned (.slice (some ⟨g, 0, none⟩) l.length c) ∧ RowS w' g 0 l ∧ w.heap.size ≤ g ∧ l.length ≤ c ∧ c ≤ maxLen ∧ Below w.heap.size w w' := by
  obtain ⟨⟨_, A', cap', e, hcap, hmax, hx⟩, hsz⟩ := h
  injection e with e1 _ e3
  subst e1 e3
  obtain ⟨b, o, rfl, hb, hj⟩ := hx h0
  refine (Tryz.slices_Clone_string b o l.length cap l w (Nat.le_refl _) hl (fun j hj' => hj j _ (by simp [hj']))).mono ?_
  rintro e w' ⟨v', rfl, hown, _, hbl⟩
  rw [List.take_length] at hown
  obtain ⟨_, A2, c, e, h1, h2, _⟩ := Rd.of_own hown
  obtain ⟨g, c2, e2, hg, hg2⟩ := World.ownsRow.form hown h0
  subst e2
  injection e with e1 _ e3
  subst e1 e3
  refine ⟨g, c2, rfl, ⟨hg2, fun i s hi => ?_⟩, hg, h1, h2, hbl⟩
  have hil := (List.getElem?_eq_some_iff.1 hi).1
  rw [Nat.zero_add]
  refine ⟨?_, World.ownsRow.frozenAt hown i⟩
  rw [World.ownsRow.cellAt hown i (by omega), List.getElem?_map, hi]; rfl
theorem compactNil_any (A : Option Addr) (n cap : Nat) (fv : Value) (w : World) (hn : n < 2) : Calls Tryz.prog 50 #[.slice A n cap, fv] w fun e w' => e = .returned (.slice A n cap) ∧ w = w' := by
  have hd : (n : Int) < 2 := by omega
  go_enter Tryz.func50, Tryz.ntmps50
  go_wp2_with fail
  go_ret
  exact ⟨rfl, rfl⟩
theorem cloneNil_any (A : Option Addr) (cap : Nat) (w : World) : Calls Tryz.prog 51 #[.slice A 0 cap] w fun e w' => ∃ A' c, e = .returned (.slice A' 0 c) ∧ c ≤ maxLen ∧ Below w.heap.size w w' := by
  cases A with
  | none =>
    refine (Tryz.slices_Clone_string_nil 0 cap w).mono ?_
    rintro e w' ⟨rfl, rfl⟩
    exact ⟨none, 0, rfl, Nat.zero_le _, Below.refl _ _⟩
  | some a =>
    refine (Tryz.slices_Clone_string_zero a cap w).mono ?_
    rintro e w' ⟨v', rfl, hown, _, hbl⟩
    obtain ⟨_, A', c, rfl, _, h2, _⟩ := Rd.of_own hown
    exact ⟨A', c, rfl, h2, hbl⟩
/-- what is told of lines in order -/
def toldL (o : Sp) (l : List ByteArray) : List ByteArray := if o.unique then cpt (ordCmp o) l else l
theorem toldL_len (o : Sp) (l : List ByteArray) : (toldL o l).length ≤ l.length := by
  unfold toldL; split
  · exact cpt_len l
  · exact Nat.le_refl _
theorem toldL_mem {o : Sp} {l : List ByteArray} {z : ByteArray} (h : z ∈ toldL o l) : z ∈ l := by
  unfold toldL at h; split at h
  · exact cpt_mem h
  · exact h
set_option maxHeartbeats 2000000 in
set_option maxRecDepth 100000 in
theorem told_any (o : Sp) (kv v : Value) (l : List ByteArray) (w : World) (hk : KeysIn w kv o.keys) (hg : ∀ k ∈ o.keys, k.good) (h : Strs w v l) (hsz : ∀ s ∈ l, s.size ≤ 65536) (hlen : l.length ≤ 8192) :
    Calls Tryz.prog 28 #[spV o kv, v] w fun e w' => e = .returned (.string (mkB (resL (toldL o l)))) ∧ Below w.heap.size w w' := by
  have hrl : (resL (toldL o l)).length ≤ 1000000000 := by
    have h1 := resL_le (m := 65536) (l := toldL o l) (fun s hs => hsz s (toldL_mem hs))
    have h2 : (toldL o l).length * (65536 + 1) ≤ 8192 * 65537 := Nat.mul_le_mul (by have := toldL_len o l; omega) (Nat.le_refl _)
    omega
  cases hu : o.unique
  · have e : toldL o l = l := by unfold toldL; rw [hu]; rfl
    rw [e] at hrl ⊢
    exact told_plain o kv v l w hu h hrl
  · have e : toldL o l = cpt (ordCmp o) l := by unfold toldL; rw [hu]; rfl
    rw [e] at hrl ⊢
    clear e
    obtain ⟨B, cb, rfl⟩ : ∃ B cb, kv = .slice B o.keys.length cb := by
      obtain ⟨_, A, cap, h, _⟩ := hk
      exact ⟨A, cap, h⟩
    have h' := h
    obtain ⟨⟨_, A, cap, rfl, _⟩, _⟩ := h'
    have hB0 := ((Below.refl w.heap.size w).alloc (Nat.le_refl _) (.cells #[.string o.sep, .slice B o.keys.length cb, .bool o.reverse, .bool o.stable, .bool o.unique] 52))
    have HN0 : Hid (SpIn (w.alloc (.cells #[.string o.sep, .slice B o.keys.length cb, .bool o.reverse, .bool o.stable, .bool o.unique] 52)) w.heap.size 52 o (.slice B o.keys.length cb)) := hide (heap_alloc_new _ _)
    obtain ⟨w1, hw1⟩ : ∃ w1, w.alloc (.cells #[.string o.sep, .slice B o.keys.length cb, .bool o.reverse, .bool o.stable, .bool o.unique] 52) = w1 := ⟨_, rfl⟩
    have hz1 : w1.heap.size = w.heap.size + 1 := by rw [← hw1]; simp
    rw [hw1] at hB0 HN0
    have HS1 := hide (h.below hB0)
    have HK1 := hide (hk.below hB0)
    have HB0 := hide hB0
    have HG := hide hg
    have HZ := hide hsz
    have HU := hide hu
    have HRL := hide hrl
    obtain ⟨d0, d1, d2, d3, d4⟩ := HN0.out.cells
    rw [hu] at d4
    clear h hk hg hB0 hu hsz hrl
    unfold spV
    go_enter Tryz.func28, Tryz.ntmps28
    by_cases h0 : 0 < l.length
    · go_wp2_with fail
      refine (cloneS_any A cap l w1 HS1.out h0 (by omega)).mono ?_
      rintro e w2 ⟨g, c, rfl, hr2, hg2, hc1, hc2, hb2⟩
      have HN2 := hide (HN0.out.below hb2 (by omega))
      have HK2 := hide (HK1.out.below hb2)
      have HB2 := hide (HB0.out.trans (hb2.mono (by omega)))
      have hz2 := hb2.size
      unfold maxLen at hc2
      have hcall := compactFunc_any (ordCmp o) (.pointer (some ⟨w.heap.size, 0, none⟩)) w2.heap.size g c l.length l w2 hr2.1 (Nat.le_refl _) hr2 rfl hc1 (by omega) (by omega) HZ.out (fun x y w3 q1 q2 q3 =>
        told1_any o B cb x y w.heap.size w3 (HK1.out.keep (by have := q3.size; omega) (fun p hp => (q3.cell (by omega) (by omega)).trans (hb2.cell hp))) HG.out (HN2.out.but q3 (by omega) (by omega)) q1 q2)
      have HCALL := hide hcall
      clear hcall hr2 hb2
      go_wp2_with fail
      refine HCALL.out.mono ?_
      rintro e w3 ⟨rfl, hr3, hb3⟩
      have hst := strs_of_row (n := 0) (cap := c) hr3 (by have := cpt_len (f := ordCmp o) l; omega) (by unfold maxLen; omega) (fun s hs => by have := HZ.out s (cpt_mem hs); unfold maxLen; omega)
      have HR := hide (result_any _ (cpt (ordCmp o) l) w3 hst HRL.out)
      have HB3 := hide (HB2.out.trans (hb3.below (by omega) (by omega) : Below w.heap.size w2 w3))
      clear hst hr3 hb3
      go_wp2_with fail
      refine HR.out.mono ?_
      rintro e w4 ⟨rfl, hb4⟩
      have HB4 := hide (HB3.out.trans (hb4.mono HB3.out.size))
      go_wp2_with fail
      go_ret
      exact ⟨rfl, HB4.out⟩
    · obtain rfl : l = [] := List.eq_nil_of_length_eq_zero (by omega)
      simp only [List.length_nil]
      go_wp2_with fail
      refine (cloneNil_any A cap w1).mono ?_
      rintro e w2 ⟨A2, c2, rfl, hcm2, hb2⟩
      have HB2 := hide (HB0.out.trans (hb2.mono (by omega)))
      clear hb2
      go_wp2_with fail
      refine (compactNil_any A2 0 c2 _ w2 (by omega)).mono ?_
      rintro e w' ⟨rfl, rfl⟩
      have HR := hide (result_any (.slice A2 0 c2) [] w2 ⟨⟨rfl, A2, c2, rfl, Nat.zero_le _, hcm2, fun h => absurd h (by simp)⟩, by simp⟩ (by simp [resL]))
      go_wp2_with fail
      refine HR.out.mono ?_
      rintro e w4 ⟨rfl, hb4⟩
      have HB4 := hide (HB2.out.trans (hb4.mono HB2.out.size))
      go_wp2_with fail
      go_ret
      exact ⟨rfl, HB4.out⟩
end Go.Proofs.YtkikbejpgfhfoaaGreatDoor
