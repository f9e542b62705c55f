/- The reference's head. -/
import Derived.Test.YtinpgnekjebipaaDoorUrV
import Derived.Laws.ResultCell
import Derived.Laws.Rows
set_option linter.unusedSimpArgs false
set_option linter.unusedVariables false
namespace Go.Pw
open Go.RowKit
theorem half_pre {sg l : List UInt8} (h : sg.isPrefixOf l = false) : halfR sg l = none := by unfold halfR; rw [if_neg (by simp [h])]
theorem half_no {sg l : List UInt8} (h : sg.isPrefixOf l = true) (hn : numR (l.drop sg.length) = none) : halfR sg l = none := by unfold halfR; rw [if_pos h, hn]
theorem half_one {sg l r : List UInt8} {n : Nat} (h : sg.isPrefixOf l = true) (hn : numR (l.drop sg.length) = some (n, r)) (hr : r.headD 0 ≠ 44) : halfR sg l = some (n, 1, r) := by unfold halfR; rw [if_pos h, hn]; dsimp only; rw [if_neg hr]
theorem half_two_no {sg l r : List UInt8} {n : Nat} (h : sg.isPrefixOf l = true) (hn : numR (l.drop sg.length) = some (n, r)) (hr : r.headD 0 = 44) (hm : numR (r.drop 1) = none) : halfR sg l = none := by unfold halfR; rw [if_pos h, hn]; dsimp only; rw [if_pos hr, hm]
theorem half_two {sg l r r2 : List UInt8} {n m : Nat} (h : sg.isPrefixOf l = true) (hn : numR (l.drop sg.length) = some (n, r)) (hr : r.headD 0 = 44) (hm : numR (r.drop 1) = some (m, r2)) : halfR sg l = some (n, m, r2) := by unfold halfR; rw [if_pos h, hn]; dsimp only; rw [if_pos hr, hm]
theorem num_rest {l r : List UInt8} {n : Nat} (h : numR l = some (n, r)) : r.length ≤ l.length ∧ l.drop (l.length - r.length) = r := by
  obtain ⟨d, rfl, _, _⟩ := numR_some h
  refine ⟨by simp, ?_⟩
  rw [List.length_append, Nat.add_sub_cancel]
  exact List.drop_left
/-- where a number ends -/
theorem num_at {s : ByteArray} {a n : Nat} {r : List UInt8} (ha : a ≤ s.size) (h : numR (s.data.toList.drop a) = some (n, r)) : a ≤ s.size - r.length ∧ s.size - r.length ≤ s.size ∧ s.data.toList.drop (s.size - r.length) = r ∧ n ≤ 999999 := by
  obtain ⟨h1, h2⟩ := num_rest h
  obtain ⟨d, _, hd, _⟩ := numR_some h
  have hl : (s.data.toList.drop a).length = s.size - a := by rw [List.length_drop, len_size]
  rw [hl] at h1 h2
  rw [List.drop_drop] at h2
  have e : a + (s.size - a - r.length) = s.size - r.length := by omega
  rw [e] at h2
  exact ⟨by omega, by omega, h2, hd.le⟩
theorem pre_iff {s : ByteArray} {a : Nat} {sg : List UInt8} (ha : a ≤ s.size) : sg.isPrefixOf (s.data.toList.drop a) = true ↔ a + sg.length ≤ s.size ∧ (s.extract a (a + sg.length)).data.toList = sg := by
  rw [Lib.extract_data, Nat.add_sub_cancel_left, List.isPrefixOf_iff_prefix]
  have hl : (s.data.toList.drop a).length = s.size - a := by rw [List.length_drop, len_size]
  constructor
  · rintro ⟨t, ht⟩
    rw [← ht] at hl
    simp at hl
    refine ⟨by omega, ?_⟩
    rw [← ht]; simp
  · rintro ⟨h1, h2⟩
    exact ⟨(s.data.toList.drop a).drop sg.length, by
      conv => lhs; lhs; rw [← h2]
      exact List.take_append_drop _ _⟩
theorem head44 {s : ByteArray} {k : Nat} {r : List UInt8} (hk : k ≤ s.size) (hr : s.data.toList.drop k = r) : (r.headD 0 = 44 ↔ ∃ h : k < s.size, s[k] = 44) ∧ ∀ h : k < s.size, s.data.toList.drop (k + 1) = r.drop 1 := by
  refine ⟨⟨fun h => ?_, fun ⟨h, e⟩ => ?_⟩, fun h => ?_⟩
  · by_cases hlt : k < s.size
    · refine ⟨hlt, ?_⟩
      rw [← hr, drop_byte s k hlt] at h
      exact h
    · rw [← hr, List.drop_of_length_le (by rw [len_size]; omega)] at h
      cases h
  · rw [← hr, drop_byte s k h]
    exact e
  · rw [← hr, List.drop_drop, Nat.add_comm]
/-- how far a head is read: i of the two halves, up to a -/
def HdAt (l : List UInt8) (i a : Nat) (c0 c1 c2 c3 : Nat) : Prop :=
  (i = 0 ∧ a = 0 ∧ c0 = 0 ∧ c1 = 0 ∧ c2 = 0 ∧ c3 = 0) ∨ (i = 1 ∧ halfR [64, 64, 32, 45] l = some (c0, c1, l.drop a) ∧ c2 = 0 ∧ c3 = 0) ∨
    (i = 2 ∧ ∃ r, halfR [64, 64, 32, 45] l = some (c0, c1, r) ∧ halfR [32, 43] r = some (c2, c3, l.drop a))
end Go.Pw
namespace Go.Proofs.YtinpgnekjebipaaDoor
open Go.RowKit Go.Pw
theorem info_quadU : (Tryd.prog.info? 58).map (·.size) = some 4 := by kernel_rfl
def Quad (w : World) (b : Nat) (x y z t : Value) : Prop := w.heap[b]? = some (.cells #[x, y, z, t] 58 (0, 0))
theorem Quad.cells {w : World} {b : Nat} {x y z t : Value} (h : Quad w b x y z t) : w.cell? ⟨b, 0, none⟩ = some x ∧ w.cell? ⟨b, 1, none⟩ = some y ∧ w.cell? ⟨b, 2, none⟩ = some z ∧ w.cell? ⟨b, 3, none⟩ = some t := by
  unfold Quad at h
  simp [World.cell?, h]
theorem Quad.frozen {w : World} {b : Nat} {x y z t : Value} (h : Quad w b x y z t) (j : Nat) : w.frozen? ⟨b, j, none⟩ = false := by
  unfold Quad at h
  simp [World.frozen?, h]
theorem Quad.set {w : World} {b : Nat} {x y z t : Value} (h : Quad w b x y z t) (u : Value) : Quad (w.setCell ⟨b, 0, none⟩ u) b u y z t ∧ Quad (w.setCell ⟨b, 1, none⟩ u) b x u z t ∧ Quad (w.setCell ⟨b, 2, none⟩ u) b x y u t ∧ Quad (w.setCell ⟨b, 3, none⟩ u) b x y z u := by
  unfold Quad at h ⊢
  simp [World.setCell, Array.getElem?_modify, h]
theorem Quad.other {w : World} {b c j : Nat} {x y z t : Value} (h : Quad w b x y z t) (hne : b ≠ c) (u : Value) : Quad (w.setCell ⟨c, j, none⟩ u) b x y z t := (Below.heap_setCell _ _ _ _ hne).trans h
theorem results_quadU {fn : Func} {p u : Tmp} (h : fn.results = #[.cell p 58, .tmp u]) (tmps : Array Value) (w : World) (g : Nat) (a0 a1 a2 a3 : Value)
    (hp : tmps.getD p undef = .pointer (some ⟨g, 0, none⟩)) (hg : Quad w g a0 a1 a2 a3) : (results fn tmps).run Tryd.prog w = .ok (.tuple #[.agg #[a0, a1, a2, a3], tmps.getD u undef]) w := by
  rw [results_cell_tmp h, hp]
  simp [asAddr, run_loadVar_row w g 58 58 #[a0, a1, a2, a3] (0, 0) _ hg Tryd.underlying58 rfl info_quadU, Result.andThen]
theorem Quad.set4 {w : World} {b : Nat} {x y z t : Value} (h : Quad w b x y z t) (x' y' z' t' : Value) : Quad ((((w.setCell ⟨b, 0, none⟩ x').setCell ⟨b, 1, none⟩ y').setCell ⟨b, 2, none⟩ z').setCell ⟨b, 3, none⟩ t') b x' y' z' t' :=
  (((((h.set x').1).set y').2.1.set z').2.2.1.set t').2.2.2
theorem Quad.bel4 {w0 w : World} {M b : Nat} (h : Below M w0 w) (hb : M ≤ b) (x' y' z' t' : Value) : Below M w0 ((((w.setCell ⟨b, 0, none⟩ x').setCell ⟨b, 1, none⟩ y').setCell ⟨b, 2, none⟩ z').setCell ⟨b, 3, none⟩ t') :=
  (((h.setCell (p := ⟨b, 0, none⟩) hb x').setCell (p := ⟨b, 1, none⟩) hb y').setCell (p := ⟨b, 2, none⟩) hb z').setCell (p := ⟨b, 3, none⟩) hb t'
theorem hd_none0 {l : List UInt8} {k c0 c1 c2 c3 : Nat} (h : HdAt l 0 k c0 c1 c2 c3) (hn : halfR [64, 64, 32, 45] (l.drop k) = none) : hdR l = none := by
  rcases h with ⟨_, rfl, _⟩ | ⟨e, _⟩ | ⟨e, _⟩
  · rw [List.drop_zero] at hn; unfold hdR; rw [hn]
  · cases e
  · cases e
theorem hd_none1 {l : List UInt8} {k c0 c1 c2 c3 : Nat} (h : HdAt l 1 k c0 c1 c2 c3) (hn : halfR [32, 43] (l.drop k) = none) : hdR l = none := by
  rcases h with ⟨e, _⟩ | ⟨_, h, _⟩ | ⟨e, _⟩
  · cases e
  · unfold hdR; rw [h]; dsimp only; rw [hn]
  · cases e
theorem hd_next0 {l r : List UInt8} {k K n m c0 c1 c2 c3 : Nat} (h : HdAt l 0 k c0 c1 c2 c3) (hn : halfR [64, 64, 32, 45] (l.drop k) = some (n, m, r)) (hr : l.drop K = r) : HdAt l 1 K n m c2 c3 := by
  rcases h with ⟨_, rfl, _, _, h2, h3⟩ | ⟨e, _⟩ | ⟨e, _⟩
  · rw [List.drop_zero] at hn
    exact .inr (.inl ⟨rfl, by rw [hn, hr], h2, h3⟩)
  · cases e
  · cases e
theorem hd_next1 {l r : List UInt8} {k K n m c0 c1 c2 c3 : Nat} (h : HdAt l 1 k c0 c1 c2 c3) (hn : halfR [32, 43] (l.drop k) = some (n, m, r)) (hr : l.drop K = r) : HdAt l 2 K c0 c1 n m := by
  rcases h with ⟨e, _⟩ | ⟨_, h, _⟩ | ⟨e, _⟩
  · cases e
  · exact .inr (.inr ⟨rfl, _, h, by rw [hn, hr]⟩)
  · cases e
def HeadRPost (s : ByteArray) (w : World) (e : Ending) (w' : World) : Prop :=
  Below w.heap.size w w' ∧ ((hdR s.data.toList = none ∧ ∃ c0 c1 c2 c3 : Int, e = .returned (.tuple #[.agg #[.int .i64 c0, .int .i64 c1, .int .i64 c2, .int .i64 c3], .bool false])) ∨
    ∃ n m n' m' : Nat, hdR s.data.toList = some ⟨atH n m, m, atH n' m', m'⟩ ∧ (n ≤ 999999 ∧ m ≤ 999999 ∧ n' ≤ 999999 ∧ m' ≤ 999999) ∧ e = .returned (.tuple #[.agg #[.int .i64 (n : Int), .int .i64 (m : Int), .int .i64 (n' : Int), .int .i64 (m' : Int)], .bool true]))
theorem HeadRPost.bad {s : ByteArray} {w w' : World} (hn : hdR s.data.toList = none) (hb : Below w.heap.size w w') (c0 c1 c2 c3 : Int) : HeadRPost s w (.returned (.tuple #[.agg #[.int .i64 c0, .int .i64 c1, .int .i64 c2, .int .i64 c3], .bool false])) w' := ⟨hb, .inl ⟨hn, c0, c1, c2, c3, rfl⟩⟩
theorem headR_start (w : World) {N : Nat} (hN : w.heap.size = N) : ∀ W, W = ((w.alloc (.cells #[.int .i64 0, .int .i64 0, .int .i64 0, .int .i64 0] 58)).alloc (.cells #[.int .i64 0, .int .i64 0, .int .i64 0, .int .i64 0] 58)).alloc (.cells #[.string ⟨#[64, 64, 32, 45]⟩, .string ⟨#[32, 43]⟩] 9) →
    Below w.heap.size w W ∧ Quad W N (.int .i64 0) (.int .i64 0) (.int .i64 0) (.int .i64 0) ∧ Quad W (N + 1) (.int .i64 0) (.int .i64 0) (.int .i64 0) (.int .i64 0) ∧ W.heap[N + 2]? = some (.cells #[.string ⟨#[64, 64, 32, 45]⟩, .string ⟨#[32, 43]⟩] 9 (0, 0)) := by
  rintro W rfl
  subst hN
  refine ⟨(((Below.refl _ _).alloc (Nat.le_refl _) _).alloc (by simp) _).alloc (by simp; omega) _, ?_, ?_, ?_⟩
  · exact (heap_alloc_old _ _ (by simp; omega)).trans ((heap_alloc_old _ _ (by simp)).trans (heap_alloc_new _ _))
  · refine (heap_alloc_old _ _ (by simp)).trans ?_
    have := heap_alloc_new (w.alloc (.cells #[.int .i64 0, .int .i64 0, .int .i64 0, .int .i64 0] 58)) (.cells #[.int .i64 0, .int .i64 0, .int .i64 0, .int .i64 0] 58)
    simpa using this
  · have := heap_alloc_new ((w.alloc (.cells #[.int .i64 0, .int .i64 0, .int .i64 0, .int .i64 0] 58)).alloc (.cells #[.int .i64 0, .int .i64 0, .int .i64 0, .int .i64 0] 58)) (.cells #[.string ⟨#[64, 64, 32, 45]⟩, .string ⟨#[32, 43]⟩] 9)
    simpa using this
set_option maxHeartbeats 8000000 in
set_option maxRecDepth 100000 in
theorem headR_any (s : ByteArray) (w : World) (hs : s.size ≤ 1000000) :
    Calls Tryd.prog 32 #[.string s] w (HeadRPost s w) := by
  obtain ⟨N, hN⟩ : ∃ N, w.heap.size = N := ⟨_, rfl⟩
  have HNW := hide hN
  have HST := hide (headR_start w hN)
  obtain ⟨PST, hPST⟩ : ∃ P, HeadRPost s w = P := ⟨_, rfl⟩
  have HPST := hide hPST
  rw [hPST]
  clear hPST
  go_enter Tryd.func32, Tryd.ntmps32
  go_wp2_with fail
  obtain ⟨W, hW⟩ : ∃ W, W = ((w.alloc (.cells #[.int .i64 0, .int .i64 0, .int .i64 0, .int .i64 0] 58)).alloc (.cells #[.int .i64 0, .int .i64 0, .int .i64 0, .int .i64 0] 58)).alloc (.cells #[.string ⟨#[64, 64, 32, 45]⟩, .string ⟨#[32, 43]⟩] 9) := ⟨_, rfl⟩
  rw [← hW]
  obtain ⟨hb0, hq0, hq1, hs0⟩ := HST.out W hW
  have HB0 := hide hb0
  have HQ00 := hide hq0
  have HQ10 := hide hq1
  have HS0 := hide hs0
  clear hb0 hq0 hq1 hs0 hW HST hN
  go_loopw [5, 13] (fun a i wr => ∃ (k j c0 c1 c2 c3 : Nat), j ≤ 2 ∧ a = .int .i64 (k : Int) ∧ i = .int .i64 (j : Int) ∧ k ≤ s.size ∧ Hid (HdAt s.data.toList j k c0 c1 c2 c3) ∧ c0 ≤ 999999 ∧ c1 ≤ 999999 ∧ c2 ≤ 999999 ∧ c3 ≤ 999999 ∧
      Hid (Quad wr N (.int .i64 0) (.int .i64 0) (.int .i64 0) (.int .i64 0)) ∧ Hid (Quad wr (N + 1) (.int .i64 (c0 : Int)) (.int .i64 (c1 : Int)) (.int .i64 (c2 : Int)) (.int .i64 (c3 : Int))) ∧
      Hid (wr.heap[N + 2]? = some (.cells #[.string ⟨#[64, 64, 32, 45]⟩, .string ⟨#[32, 43]⟩] 9 (0, 0))) ∧ Hid (Below w.heap.size w wr)) (fun _ i _ => 2 - (intOf i).toNat)
  case atStart => exact ⟨0, 0, 0, 0, 0, 0, by omega, rfl, rfl, by omega, hide (.inl ⟨rfl, rfl, rfl, rfl, rfl, rfl⟩), by omega, by omega, by omega, by omega, HQ00, HQ10, HS0, HB0⟩
  case round =>
    obtain ⟨k, j, c0, c1, c2, c3, hj, rfl, rfl, hk, HAT, d0, d1, d2, d3, HQ0, HQ1, HS, HBW⟩ := hrel
    clear HQ00 HQ10 HS0 HB0
    obtain ⟨a0, a1, a2, a3⟩ := HQ0.out.cells
    have az0 := HQ0.out.frozen 0
    have az1 := HQ0.out.frozen 1
    have az2 := HQ0.out.frozen 2
    have az3 := HQ0.out.frozen 3
    obtain ⟨b0, b1, b2, b3⟩ := HQ1.out.cells
    have bz0 := HQ1.out.frozen 0
    have bz1 := HQ1.out.frozen 1
    have bz2 := HQ1.out.frozen 2
    have bz3 := HQ1.out.frozen 3
    have hcase : j = 0 ∨ j = 1 ∨ j = 2 := by omega
    rcases hcase with rfl | rfl | rfl
    ·
      have p0 : wr.cell? ⟨N + 2, 0, none⟩ = some (.string ⟨#[64, 64, 32, 45]⟩) := by simp [World.cell?, HS.out]
      by_cases hl : k + 4 ≤ s.size
      · have hl' : ¬ (s.size : Int) < (k : Int) + 4 := by omega
        have hpi := pre_iff (s := s) (a := k) (sg := [64, 64, 32, 45]) hk
        cases hpre : List.isPrefixOf [64, 64, 32, 45] (s.data.toList.drop k) with
        | false =>
          have heq : ((s.extract k (k + 4)).toList == [64, 64, 32, 45]) = false := by
            cases hq : ((s.extract k (k + 4)).toList == [64, 64, 32, 45]) with
            | false => rfl
            | true =>
              have h1 := eq_of_beq hq
              rw [Lib.toList_data] at h1
              have := hpi.2 ⟨hl, h1⟩
              rw [hpre] at this; cases this
          have HNONE : Hid (hdR s.data.toList = none) := hide (hd_none0 HAT.out (half_pre hpre))
          clear hpi hpre
          go_wp2_with fail
          refine bodyPost_ret (results_quadU rfl _ _ N _ _ _ _ rfl (Quad.set4 HQ0.out _ _ _ _)) rfl ?_
          rw [← HPST.out]
          exact HeadRPost.bad HNONE.out (Quad.bel4 HBW.out (by rw [← HNW.out]; exact Nat.le_refl _) _ _ _ _) _ _ _ _
        | true =>
          have heq : ((s.extract k (k + 4)).toList == [64, 64, 32, 45]) = true := by
            have := (hpi.1 hpre).2
            rw [Lib.toList_data]
            exact beq_iff_eq.2 this
          have HPRE := hide hpre
          clear hpi hpre
          have hnp := number_any s (k + 4) wr hs hl
          rw [Int.natCast_add] at hnp
          have HNP := hide hnp
          clear hnp
          go_wp2_with fail
          refine HNP.out.mono ?_
          rintro e w2 ⟨rfl, hm⟩
          cases hnum : numR (s.data.toList.drop (k + 4)) with
          | none =>
            rw [hnum] at hm
            obtain ⟨x, y, rfl⟩ := hm
            have HNONE : Hid (hdR s.data.toList = none) := hide (hd_none0 HAT.out (half_no HPRE.out (by rw [List.drop_drop]; exact hnum)))
            clear hnum HNP
            go_wp2_with fail
            refine bodyPost_ret (results_quadU rfl _ _ N _ _ _ _ rfl (Quad.set4 HQ0.out _ _ _ _)) rfl ?_
            rw [← HPST.out]
            exact HeadRPost.bad HNONE.out (Quad.bel4 HBW.out (by rw [← HNW.out]; exact Nat.le_refl _) _ _ _ _) _ _ _ _
          | some nr =>
            obtain ⟨n, r⟩ := nr
            rw [hnum] at hm
            subst hm
            obtain ⟨k1, k2, k3, k4⟩ := num_at hl hnum
            obtain ⟨K, hK⟩ : ∃ K, s.size - r.length = K := ⟨_, rfl⟩
            rw [hK] at k1 k2 k3 ⊢
            have h44 := head44 k2 k3
            have HNUM : Hid (numR ((s.data.toList.drop k).drop ([64, 64, 32, 45] : List UInt8).length) = some (n, r)) := hide (by rw [List.drop_drop]; exact hnum)
            have HK3 := hide k3
            have HQS := hide (HQ1.out.set (.int .i64 (n : Int)))
            have QA := HQS.out.1
            have QB := QA.set (.int .i64 1)
            have HQB : Hid (Quad ((wr.setCell ⟨N + 1, 0, none⟩ (.int .i64 (n : Int))).setCell ⟨N + 1, 1, none⟩ (.int .i64 1)) (N + 1) (.int .i64 (n : Int)) (.int .i64 1) (.int .i64 (c2 : Int)) (.int .i64 (c3 : Int))) := hide QB.2.1
            have HQ0B : Hid (Quad ((wr.setCell ⟨N + 1, 0, none⟩ (.int .i64 (n : Int))).setCell ⟨N + 1, 1, none⟩ (.int .i64 1)) N (.int .i64 0) (.int .i64 0) (.int .i64 0) (.int .i64 0)) := hide ((HQ0.out.other (by omega) _).other (by omega) _)
            have HSB : Hid (((wr.setCell ⟨N + 1, 0, none⟩ (.int .i64 (n : Int))).setCell ⟨N + 1, 1, none⟩ (.int .i64 1)).heap[N + 2]? = some (.cells #[.string ⟨#[64, 64, 32, 45]⟩, .string ⟨#[32, 43]⟩] 9 (0, 0))) := hide ((Below.heap_setCell _ _ _ _ (by simp)).trans ((Below.heap_setCell _ _ _ _ (by simp)).trans HS.out))
            have HBB : Hid (Below w.heap.size w ((wr.setCell ⟨N + 1, 0, none⟩ (.int .i64 (n : Int))).setCell ⟨N + 1, 1, none⟩ (.int .i64 1))) := hide ((HBW.out.setCell (p := ⟨N + 1, 0, none⟩) (show w.heap.size ≤ N + 1 by rw [HNW.out]; omega) _).setCell (p := ⟨N + 1, 1, none⟩) (show w.heap.size ≤ N + 1 by rw [HNW.out]; omega) _)
            have f1 := (HQ1.out.set (.int .i64 (n : Int))).1.frozen 1
            have g1 := (HQ1.out.set (.int .i64 (n : Int))).1.cells.2.1
            clear QA QB hnum k3 HNP hK
            by_cases hc : r.headD 0 = 44
            · obtain ⟨hlt, h44c⟩ := h44.1.1 hc
              have hnx := h44.2 hlt
              have hlt' : (K : Int) < (s.size : Int) := by omega
              have hcm : ((s[K].toNat : Int) == 44) = true := by rw [h44c]; rfl
              have hnp := number_any s (K + 1) ((wr.setCell ⟨N + 1, 0, none⟩ (.int .i64 (n : Int))).setCell ⟨N + 1, 1, none⟩ (.int .i64 1)) hs (by omega)
              rw [Int.natCast_add] at hnp
              have HNP := hide hnp
              have HHC := hide hc
              have HNX := hide hnx
              clear h44 h44c hnx hnp hc
              go_wp2_with fail
              refine HNP.out.mono ?_
              rintro e w2 ⟨hw2, hm⟩
              subst hw2
              clear HNP HQ0 HQ1 HQS HS HBW f1 g1 a0 a1 a2 a3 b0 b1 b2 b3 az0 az1 az2 az3 bz0 bz1 bz2 bz3 p0
              generalize (wr.setCell ⟨N + 1, 0, none⟩ (.int .i64 (n : Int))).setCell ⟨N + 1, 1, none⟩ (.int .i64 1) = wq at *
              obtain ⟨a0, a1, a2, a3⟩ := HQ0B.out.cells
              have az0 := HQ0B.out.frozen 0
              have az1 := HQ0B.out.frozen 1
              have az2 := HQ0B.out.frozen 2
              have az3 := HQ0B.out.frozen 3
              obtain ⟨b0, b1, b2, b3⟩ := HQB.out.cells
              have bz0 := HQB.out.frozen 1
              cases hnum : numR (s.data.toList.drop (K + 1)) with
              | none =>
                rw [hnum] at hm
                obtain ⟨x, y, rfl⟩ := hm
                have HNONE : Hid (hdR s.data.toList = none) := hide (hd_none0 HAT.out (half_two_no HPRE.out HNUM.out HHC.out (by rw [← HNX.out]; exact hnum)))
                clear hnum
                go_wp2_with fail
                refine bodyPost_ret (results_quadU rfl _ _ N _ _ _ _ rfl (Quad.set4 HQ0B.out _ _ _ _)) rfl ?_
                rw [← HPST.out]
                exact HeadRPost.bad HNONE.out (Quad.bel4 HBB.out (by rw [← HNW.out]; exact Nat.le_refl _) _ _ _ _) _ _ _ _
              | some mr =>
                obtain ⟨m, r2⟩ := mr
                rw [hnum] at hm
                subst hm
                obtain ⟨m1, m2, m3, m4⟩ := num_at (show K + 1 ≤ s.size by omega) hnum
                obtain ⟨M, hM⟩ : ∃ M, s.size - r2.length = M := ⟨_, rfl⟩
                rw [hM] at m1 m2 m3 ⊢
                have HATN := hide (hd_next0 HAT.out (half_two HPRE.out HNUM.out HHC.out (by rw [← HNX.out]; exact hnum)) m3)
                have HQC := hide ((HQB.out.set (.int .i64 (m : Int))).2.1)
                have HQ0C := hide (HQ0B.out.other (c := N + 1) (j := 1) (by omega) (.int .i64 (m : Int)))
                have HSC : Hid ((wq.setCell ⟨N + 1, 1, none⟩ (.int .i64 (m : Int))).heap[N + 2]? = _) := hide ((Below.heap_setCell _ _ _ _ (by simp)).trans HSB.out)
                have HBC := hide (HBB.out.setCell (p := ⟨N + 1, 1, none⟩) (show w.heap.size ≤ N + 1 by rw [HNW.out]; omega) (.int .i64 (m : Int)))
                clear hnum m3 hM
                go_wp2_with fail
                go_roundw
                case rel => exact ⟨M, 1, n, m, c2, c3, by omega, by go_num, by go_num, by omega, HATN, by omega, by omega, by omega, by omega, HQ0C, HQC, HSC, HBC⟩
                case measure => simp [intOf]
            · have HATN := hide (hd_next0 HAT.out (half_one HPRE.out HNUM.out hc) HK3.out)
              by_cases hlt : K < s.size
              · have hne : ((s[K].toNat : Int) == 44) = false := by
                  simp only [beq_eq_false_iff_ne, ne_eq]
                  intro e
                  exact hc (h44.1.2 ⟨hlt, by apply UInt8.toNat_inj.1; show _ = 44; omega⟩)
                have hlt' : (K : Int) < (s.size : Int) := by omega
                clear h44 hc
                go_wp2_with fail
                go_roundw
                case rel => exact ⟨K, 1, n, 1, c2, c3, by omega, by go_num, by go_num, by omega, HATN, by omega, by omega, by omega, by omega, HQ0B, HQB, HSB, HBB⟩
                case measure => simp [intOf]
              · have hlt' : ¬ (K : Int) < (s.size : Int) := by omega
                clear h44 hc
                go_wp2_with fail
                go_roundw
                case rel => exact ⟨K, 1, n, 1, c2, c3, by omega, by go_num, by go_num, by omega, HATN, by omega, by omega, by omega, by omega, HQ0B, HQB, HSB, HBB⟩
                case measure => simp [intOf]
      · have hl' : (s.size : Int) < (k : Int) + 4 := by omega
        have HNONE : Hid (hdR s.data.toList = none) := hide (hd_none0 HAT.out (half_pre (by
          cases hpre : List.isPrefixOf [64, 64, 32, 45] (s.data.toList.drop k) with
          | false => rfl
          | true => exact absurd ((pre_iff hk).1 hpre).1 hl)))
        go_wp2_with fail
        refine bodyPost_ret (results_quadU rfl _ _ N _ _ _ _ rfl (Quad.set4 HQ0.out _ _ _ _)) rfl ?_
        rw [← HPST.out]
        exact HeadRPost.bad HNONE.out (Quad.bel4 HBW.out (by rw [← HNW.out]; exact Nat.le_refl _) _ _ _ _) _ _ _ _
    ·
      have p1 : wr.cell? ⟨N + 2, 1, none⟩ = some (.string ⟨#[32, 43]⟩) := by simp [World.cell?, HS.out]
      by_cases hl : k + 2 ≤ s.size
      · have hl' : ¬ (s.size : Int) < (k : Int) + 2 := by omega
        have hpi := pre_iff (s := s) (a := k) (sg := [32, 43]) hk
        cases hpre : List.isPrefixOf [32, 43] (s.data.toList.drop k) with
        | false =>
          have heq : ((s.extract k (k + 2)).toList == [32, 43]) = false := by
            cases hq : ((s.extract k (k + 2)).toList == [32, 43]) with
            | false => rfl
            | true =>
              have h1 := eq_of_beq hq
              rw [Lib.toList_data] at h1
              have := hpi.2 ⟨hl, h1⟩
              rw [hpre] at this; cases this
          have HNONE : Hid (hdR s.data.toList = none) := hide (hd_none1 HAT.out (half_pre hpre))
          clear hpi hpre
          go_wp2_with fail
          refine bodyPost_ret (results_quadU rfl _ _ N _ _ _ _ rfl (Quad.set4 HQ0.out _ _ _ _)) rfl ?_
          rw [← HPST.out]
          exact HeadRPost.bad HNONE.out (Quad.bel4 HBW.out (by rw [← HNW.out]; exact Nat.le_refl _) _ _ _ _) _ _ _ _
        | true =>
          have heq : ((s.extract k (k + 2)).toList == [32, 43]) = true := by
            have := (hpi.1 hpre).2
            rw [Lib.toList_data]
            exact beq_iff_eq.2 this
          have HPRE := hide hpre
          clear hpi hpre
          have hnp := number_any s (k + 2) wr hs hl
          rw [Int.natCast_add] at hnp
          have HNP := hide hnp
          clear hnp
          go_wp2_with fail
          refine HNP.out.mono ?_
          rintro e w2 ⟨rfl, hm⟩
          cases hnum : numR (s.data.toList.drop (k + 2)) with
          | none =>
            rw [hnum] at hm
            obtain ⟨x, y, rfl⟩ := hm
            have HNONE : Hid (hdR s.data.toList = none) := hide (hd_none1 HAT.out (half_no HPRE.out (by rw [List.drop_drop]; exact hnum)))
            clear hnum HNP
            go_wp2_with fail
            refine bodyPost_ret (results_quadU rfl _ _ N _ _ _ _ rfl (Quad.set4 HQ0.out _ _ _ _)) rfl ?_
            rw [← HPST.out]
            exact HeadRPost.bad HNONE.out (Quad.bel4 HBW.out (by rw [← HNW.out]; exact Nat.le_refl _) _ _ _ _) _ _ _ _
          | some nr =>
            obtain ⟨n, r⟩ := nr
            rw [hnum] at hm
            subst hm
            obtain ⟨k1, k2, k3, k4⟩ := num_at hl hnum
            obtain ⟨K, hK⟩ : ∃ K, s.size - r.length = K := ⟨_, rfl⟩
            rw [hK] at k1 k2 k3 ⊢
            have h44 := head44 k2 k3
            have HNUM : Hid (numR ((s.data.toList.drop k).drop ([32, 43] : List UInt8).length) = some (n, r)) := hide (by rw [List.drop_drop]; exact hnum)
            have HK3 := hide k3
            have HQS := hide (HQ1.out.set (.int .i64 (n : Int)))
            have QA := HQS.out.2.2.1
            have QB := QA.set (.int .i64 1)
            have HQB : Hid (Quad ((wr.setCell ⟨N + 1, 2, none⟩ (.int .i64 (n : Int))).setCell ⟨N + 1, 3, none⟩ (.int .i64 1)) (N + 1) (.int .i64 (c0 : Int)) (.int .i64 (c1 : Int)) (.int .i64 (n : Int)) (.int .i64 1)) := hide QB.2.2.2
            have HQ0B : Hid (Quad ((wr.setCell ⟨N + 1, 2, none⟩ (.int .i64 (n : Int))).setCell ⟨N + 1, 3, none⟩ (.int .i64 1)) N (.int .i64 0) (.int .i64 0) (.int .i64 0) (.int .i64 0)) := hide ((HQ0.out.other (by omega) _).other (by omega) _)
            have HSB : Hid (((wr.setCell ⟨N + 1, 2, none⟩ (.int .i64 (n : Int))).setCell ⟨N + 1, 3, none⟩ (.int .i64 1)).heap[N + 2]? = some (.cells #[.string ⟨#[64, 64, 32, 45]⟩, .string ⟨#[32, 43]⟩] 9 (0, 0))) := hide ((Below.heap_setCell _ _ _ _ (by simp)).trans ((Below.heap_setCell _ _ _ _ (by simp)).trans HS.out))
            have HBB : Hid (Below w.heap.size w ((wr.setCell ⟨N + 1, 2, none⟩ (.int .i64 (n : Int))).setCell ⟨N + 1, 3, none⟩ (.int .i64 1))) := hide ((HBW.out.setCell (p := ⟨N + 1, 2, none⟩) (show w.heap.size ≤ N + 1 by rw [HNW.out]; omega) _).setCell (p := ⟨N + 1, 3, none⟩) (show w.heap.size ≤ N + 1 by rw [HNW.out]; omega) _)
            have f3 := (HQ1.out.set (.int .i64 (n : Int))).2.2.1.frozen 3
            have g3 := (HQ1.out.set (.int .i64 (n : Int))).2.2.1.cells.2.2.2
            clear QA QB hnum k3 HNP hK
            by_cases hc : r.headD 0 = 44
            · obtain ⟨hlt, h44c⟩ := h44.1.1 hc
              have hnx := h44.2 hlt
              have hlt' : (K : Int) < (s.size : Int) := by omega
              have hcm : ((s[K].toNat : Int) == 44) = true := by rw [h44c]; rfl
              have hnp := number_any s (K + 1) ((wr.setCell ⟨N + 1, 2, none⟩ (.int .i64 (n : Int))).setCell ⟨N + 1, 3, none⟩ (.int .i64 1)) hs (by omega)
              rw [Int.natCast_add] at hnp
              have HNP := hide hnp
              have HHC := hide hc
              have HNX := hide hnx
              clear h44 h44c hnx hnp hc
              go_wp2_with fail
              refine HNP.out.mono ?_
              rintro e w2 ⟨hw2, hm⟩
              subst hw2
              clear HNP HQ0 HQ1 HQS HS HBW f3 g3 a0 a1 a2 a3 b0 b1 b2 b3 az0 az1 az2 az3 bz0 bz1 bz2 bz3 p1
              generalize (wr.setCell ⟨N + 1, 2, none⟩ (.int .i64 (n : Int))).setCell ⟨N + 1, 3, none⟩ (.int .i64 1) = wq at *
              obtain ⟨a0, a1, a2, a3⟩ := HQ0B.out.cells
              have az0 := HQ0B.out.frozen 0
              have az1 := HQ0B.out.frozen 1
              have az2 := HQ0B.out.frozen 2
              have az3 := HQ0B.out.frozen 3
              obtain ⟨b0, b1, b2, b3⟩ := HQB.out.cells
              have bz0 := HQB.out.frozen 3
              cases hnum : numR (s.data.toList.drop (K + 1)) with
              | none =>
                rw [hnum] at hm
                obtain ⟨x, y, rfl⟩ := hm
                have HNONE : Hid (hdR s.data.toList = none) := hide (hd_none1 HAT.out (half_two_no HPRE.out HNUM.out HHC.out (by rw [← HNX.out]; exact hnum)))
                clear hnum
                go_wp2_with fail
                refine bodyPost_ret (results_quadU rfl _ _ N _ _ _ _ rfl (Quad.set4 HQ0B.out _ _ _ _)) rfl ?_
                rw [← HPST.out]
                exact HeadRPost.bad HNONE.out (Quad.bel4 HBB.out (by rw [← HNW.out]; exact Nat.le_refl _) _ _ _ _) _ _ _ _
              | some mr =>
                obtain ⟨m, r2⟩ := mr
                rw [hnum] at hm
                subst hm
                obtain ⟨m1, m2, m3, m4⟩ := num_at (show K + 1 ≤ s.size by omega) hnum
                obtain ⟨M, hM⟩ : ∃ M, s.size - r2.length = M := ⟨_, rfl⟩
                rw [hM] at m1 m2 m3 ⊢
                have HATN := hide (hd_next1 HAT.out (half_two HPRE.out HNUM.out HHC.out (by rw [← HNX.out]; exact hnum)) m3)
                have HQC := hide ((HQB.out.set (.int .i64 (m : Int))).2.2.2)
                have HQ0C := hide (HQ0B.out.other (c := N + 1) (j := 3) (by omega) (.int .i64 (m : Int)))
                have HSC : Hid ((wq.setCell ⟨N + 1, 3, none⟩ (.int .i64 (m : Int))).heap[N + 2]? = _) := hide ((Below.heap_setCell _ _ _ _ (by simp)).trans HSB.out)
                have HBC := hide (HBB.out.setCell (p := ⟨N + 1, 3, none⟩) (show w.heap.size ≤ N + 1 by rw [HNW.out]; omega) (.int .i64 (m : Int)))
                clear hnum m3 hM
                go_wp2_with fail
                go_roundw
                case rel => exact ⟨M, 2, c0, c1, n, m, by omega, by go_num, by go_num, by omega, HATN, by omega, by omega, by omega, by omega, HQ0C, HQC, HSC, HBC⟩
                case measure => simp [intOf]
            · have HATN := hide (hd_next1 HAT.out (half_one HPRE.out HNUM.out hc) HK3.out)
              by_cases hlt : K < s.size
              · have hne : ((s[K].toNat : Int) == 44) = false := by
                  simp only [beq_eq_false_iff_ne, ne_eq]
                  intro e
                  exact hc (h44.1.2 ⟨hlt, by apply UInt8.toNat_inj.1; show _ = 44; omega⟩)
                have hlt' : (K : Int) < (s.size : Int) := by omega
                clear h44 hc
                go_wp2_with fail
                go_roundw
                case rel => exact ⟨K, 2, c0, c1, n, 1, by omega, by go_num, by go_num, by omega, HATN, by omega, by omega, by omega, by omega, HQ0B, HQB, HSB, HBB⟩
                case measure => simp [intOf]
              · have hlt' : ¬ (K : Int) < (s.size : Int) := by omega
                clear h44 hc
                go_wp2_with fail
                go_roundw
                case rel => exact ⟨K, 2, c0, c1, n, 1, by omega, by go_num, by go_num, by omega, HATN, by omega, by omega, by omega, by omega, HQ0B, HQB, HSB, HBB⟩
                case measure => simp [intOf]
      · have hl' : (s.size : Int) < (k : Int) + 2 := by omega
        have HNONE : Hid (hdR s.data.toList = none) := hide (hd_none1 HAT.out (half_pre (by
          cases hpre : List.isPrefixOf [32, 43] (s.data.toList.drop k) with
          | false => rfl
          | true => exact absurd ((pre_iff hk).1 hpre).1 hl)))
        go_wp2_with fail
        refine bodyPost_ret (results_quadU rfl _ _ N _ _ _ _ rfl (Quad.set4 HQ0.out _ _ _ _)) rfl ?_
        rw [← HPST.out]
        exact HeadRPost.bad HNONE.out (Quad.bel4 HBW.out (by rw [← HNW.out]; exact Nat.le_refl _) _ _ _ _) _ _ _ _
    · have hex : ∃ r, halfR [64, 64, 32, 45] s.data.toList = some (c0, c1, r) ∧ halfR [32, 43] r = some (c2, c3, s.data.toList.drop k) := by
        rcases HAT.out with ⟨e, _⟩ | ⟨e, _⟩ | ⟨_, h⟩
        · cases e
        · cases e
        · exact h
      have hrest : (s.extract k s.size).data.toList = s.data.toList.drop k := by
        rw [Lib.extract_data]
        exact List.take_of_length_le (by rw [List.length_drop, len_size]; omega)
      have HQF : Hid (Quad ((((wr.setCell ⟨N, 0, none⟩ (.int .i64 (c0 : Int))).setCell ⟨N, 1, none⟩ (.int .i64 (c1 : Int))).setCell ⟨N, 2, none⟩ (.int .i64 (c2 : Int))).setCell ⟨N, 3, none⟩ (.int .i64 (c3 : Int))).drew N (.int .i64 (c0 : Int)) (.int .i64 (c1 : Int)) (.int .i64 (c2 : Int)) (.int .i64 (c3 : Int))) := hide (Quad.set4 HQ0.out _ _ _ _)
      have HBF : Hid (Below w.heap.size w ((((wr.setCell ⟨N, 0, none⟩ (.int .i64 (c0 : Int))).setCell ⟨N, 1, none⟩ (.int .i64 (c1 : Int))).setCell ⟨N, 2, none⟩ (.int .i64 (c2 : Int))).setCell ⟨N, 3, none⟩ (.int .i64 (c3 : Int))).drew) := hide (Quad.bel4 HBW.out (by rw [← HNW.out]; exact Nat.le_refl _) _ _ _ _).drew
      by_cases hr : s.data.toList.drop k = [32, 64, 64]
      · have heq : ((s.extract k s.size).toList == [32, 64, 64]) = true := by rw [Lib.toList_data, hrest, hr]; rfl
        have HGOOD : Hid (hdR s.data.toList = some ⟨atH c0 c1, c1, atH c2 c3, c3⟩) := hide (by
          obtain ⟨r, h1, h2⟩ := hex
          unfold hdR; rw [h1]; dsimp only; rw [h2]; dsimp only; rw [if_pos hr])
        have HD := hide (And.intro d0 (And.intro d1 (And.intro d2 d3)))
        clear hex hrest hr
        go_wp2_with fail
        go_region
        go_wp2_with fail
        refine bodyPost_ret (results_quadU rfl _ _ N _ _ _ _ rfl HQF.out) rfl ?_
        rw [← HPST.out]
        exact ⟨HBF.out, .inr ⟨c0, c1, c2, c3, HGOOD.out, HD.out, rfl⟩⟩
      · have heq : ((s.extract k s.size).toList == [32, 64, 64]) = false := by
          cases hq : ((s.extract k s.size).toList == [32, 64, 64]) with
          | false => rfl
          | true =>
            have h1 := eq_of_beq hq
            rw [Lib.toList_data, hrest] at h1
            exact absurd h1 hr
        have HNONE : Hid (hdR s.data.toList = none) := hide (by
          obtain ⟨r, h1, h2⟩ := hex
          unfold hdR; rw [h1]; dsimp only; rw [h2]; dsimp only; rw [if_neg hr])
        clear hex hrest hr
        go_wp2_with fail
        go_region
        go_wp2_with fail
        refine bodyPost_ret (results_quadU rfl _ _ N _ _ _ _ rfl HQF.out) rfl ?_
        rw [← HPST.out]
        exact HeadRPost.bad HNONE.out HBF.out _ _ _ _
end Go.Proofs.YtinpgnekjebipaaDoor
