/- The walks of an order, second part: begin, key. -/
import Derived.Test.YtifpmigghplmoaaGreatDoorZPrA
import Derived.Test.YtifpmigghplmoaaGreatDoorZHunk
import Derived.Deep.RegionHeld3
set_option linter.unusedVariables false
set_option linter.unusedSimpArgs false
namespace Go.Proofs.YtifpmigghplmoaaGreatDoor
open Go.RowKit Go.Pw

theorem skip_go {s : ByteArray} {n i : Nat} (hi : i < s.size) (hn : 0 < n) (hb : blankB s[i] = true) : skipF s n i = skipF s (n - 1) (i + 1) := by
  obtain ⟨m, rfl⟩ : ∃ m, n = m + 1 := ⟨n - 1, by omega⟩
  rw [skipF, bt_eq hi, if_pos hb]; rfl
theorem skip_stop {s : ByteArray} {n i : Nat} (hi : i < s.size) (hb : blankB s[i] = false) : skipF s n i = i := by
  cases n with
  | zero => rfl
  | succ m => rw [skipF, bt_eq hi, if_neg (by simp [hb])]

set_option maxHeartbeats 1000000 in
set_option maxRecDepth 100000 in
theorem begin_any (line : ByteArray) (f : Nat × Nat) (b : Bool) (w : World) (h1 : f.1 ≤ f.2) (h2 : f.2 ≤ line.size) (hl : line.size ≤ 1000000) :
    Calls Tryz.prog 170 #[.string line, .agg #[.int .i64 (f.1 : Int), .int .i64 (f.2 : Int)], .bool b] w fun e w' => e = .returned (.int .i64 (begAt line b f : Int)) ∧ Below w.heap.size w w' := by
  have hbb : Below w.heap.size w (w.alloc (.cells #[.int .i64 (f.1 : Int), .int .i64 (f.2 : Int)] 211)) := (Below.refl _ _).alloc (Nat.le_refl _) _
  have HB := hide hbb
  clear hbb
  cases b
  · have HR : Hid (begAt line false f = f.1) := rfl
    go_enter Tryz.func170, Tryz.ntmps170
    go_wp2_with fail
    refine wp_loop_rounds 1 ?_
    rw [rounds_succ]
    go_wp2_with fail
    go_ret
    exact ⟨by rw [HR.out]; rfl, HB.out⟩
  · have HR : Hid (begAt line true f = skipF line (f.2 - f.1) f.1) := rfl
    go_enter Tryz.func170, Tryz.ntmps170
    go_wp2_with fail
    go_loop [7] (fun i => ∃ k : Nat, f.1 ≤ k ∧ k ≤ f.2 ∧ i = .int .i64 (k : Int) ∧ Hid (begAt line true f = skipF line (f.2 - k) k)) (fun i => f.2 - (intOf i).toNat)
    case atStart => exact ⟨f.1, by omega, by omega, rfl, HR⟩
    case round =>
      obtain ⟨k, hk1, hk2, rfl, HK⟩ := hrel
      by_cases hlt : k < f.2
      · have hls : k < line.size := by omega
        have hd : decide (k < f.2) = true := by simpa using hlt
        cases hb1 : blankB line[k]
        · have HN := hide (HK.out.trans (skip_stop hls hb1))
          go_wp2_with (go_at_call 173; refine (blank_any _ _).mono ?_; rintro e w' ⟨rfl, rfl⟩)
          go_ret
          exact ⟨by rw [HN.out]; rfl, HB.out⟩
        · have HN := hide (HK.out.trans (skip_go hls (by omega) hb1))
          go_wp2_with (go_at_call 173; refine (blank_any _ _).mono ?_; rintro e w' ⟨rfl, rfl⟩)
          go_round
          case rel => exact ⟨k + 1, by omega, by omega, by go_num, by rw [show f.2 - (k + 1) = f.2 - k - 1 by omega]; exact HN⟩
          case measure => simp [intOf]; omega
      · have hd : decide (k < f.2) = false := by simpa using hlt
        have HN : Hid (begAt line true f = k) := by
          show _ = _
          rw [HK.out, show f.2 - k = 0 by omega]; rfl
        go_wp2_with fail
        go_ret
        exact ⟨by rw [HN.out]; rfl, HB.out⟩

theorem pairCells_at : ∀ (l : List (Nat × Nat)) (i : Nat) (p : Nat × Nat), l[i]? = some p → (pairCells l)[i * 2]? = some (.int .i64 (p.1 : Int)) ∧ (pairCells l)[i * 2 + 1]? = some (.int .i64 (p.2 : Int))
  | x :: l, 0, p, h => by simp at h; subst h; simp [pairCells]
  | x :: l, i + 1, p, h => by
    have := pairCells_at l i p (by simpa using h)
    rw [show (i + 1) * 2 = i * 2 + 1 + 1 by omega]
    simpa [pairCells] using this
  | [], i, p, h => by simp at h
/-- a key as a value -/
def kyV (k : Ky) : Value := .agg #[.int .i64 k.first, .int .i64 k.firstB, .int .i64 k.last, .int .i64 k.lastB, .bool k.numeric, .bool k.reverse, .bool k.fold, .bool k.blanks]
/-- a key in memory -/
def KyAt (w : World) (b : Nat) (k : Ky) : Prop := w.heap[b]? = some (.cells #[.int .i64 k.first, .int .i64 k.firstB, .int .i64 k.last, .int .i64 k.lastB, .bool k.numeric, .bool k.reverse, .bool k.fold, .bool k.blanks] 70 (0, 0))
theorem KyAt.lt {w : World} {b : Nat} {k : Ky} (h : KyAt w b k) : b < w.heap.size := by
  rcases Nat.lt_or_ge b w.heap.size with h' | h'
  · exact h'
  · simp [KyAt, Array.getElem?_eq_none h'] at h
theorem KyAt.below {w w' : World} {b M : Nat} {k : Ky} (h : KyAt w b k) (hb : Below M w w') (hM : b < M) : KyAt w' b k := (hb.block b hM).trans h

theorem drew_below {M : Nat} {w w' : World} (h : Below M w.drew w') : Below M w w' := ⟨h.os, h.tape, h.output, h.size, h.block⟩

set_option maxHeartbeats 2000000 in
set_option maxRecDepth 100000 in
theorem key_any (k : Ky) (line sep : ByteArray) (w : World) (hk : k.good) (hl : line.size ≤ 1000000) :
    Calls Tryz.prog 142 #[kyV k, .string line, .string sep] w fun e w' => e = .returned (.string (Pw.keyOf k line sep)) ∧ Below w.heap.size w w' := by
  obtain ⟨hk1, hk2, hk3, hk4⟩ := hk
  obtain ⟨hf1, hf2, hf3⟩ := fldL_ok line sep
  have hbb : Below w.heap.size w (w.alloc (.cells #[.int .i64 k.first, .int .i64 k.firstB, .int .i64 k.last, .int .i64 k.lastB, .bool k.numeric, .bool k.reverse, .bool k.fold, .bool k.blanks] 70)) := (Below.refl _ _).alloc (Nat.le_refl _) _
  have hka : KyAt (w.alloc (.cells #[.int .i64 k.first, .int .i64 k.firstB, .int .i64 k.last, .int .i64 k.lastB, .bool k.numeric, .bool k.reverse, .bool k.fold, .bool k.blanks] 70)) w.heap.size k := heap_alloc_new _ _
  have HB := hide hbb
  have HKA := hide hka
  have HF3 := hide hf3
  clear hbb hka hf3
  obtain ⟨L, hL⟩ : ∃ L, fldL line sep = L := ⟨_, rfl⟩
  have HFA := hide (fields_any line sep (w.alloc (.cells #[.int .i64 k.first, .int .i64 k.firstB, .int .i64 k.last, .int .i64 k.lastB, .bool k.numeric, .bool k.reverse, .bool k.fold, .bool k.blanks] 70)) hl)
  rw [hL] at hf1 hf2 HF3 HFA
  have HL := hide hL
  clear hL
  unfold kyV
  go_enter Tryz.func142, Tryz.ntmps142
  go_wp2_with fail
  refine HFA.out.mono ?_
  rintro e w1 ⟨v, rfl, hown, hb1⟩
  have hka := HKA.out.below hb1 (by simp)
  have hbw := HB.out.trans (hb1.mono (by simp))
  obtain ⟨g, cap, rfl, hg, hcells⟩ : ∃ g cap, v = .slice (some ⟨g, 0, none⟩) L.length cap ∧ g < w1.heap.size ∧ ∀ (i : Nat) (p : Nat × Nat), L[i]? = some p → w1.cell? ⟨g, i * 2, none⟩ = some (.int .i64 (p.1 : Int)) ∧ w1.cell? ⟨g, i * 2 + 1, none⟩ = some (.int .i64 (p.2 : Int)) := by
    obtain ⟨_, A, cap, hv, _, _, hx⟩ := Rd.of_own hown
    obtain ⟨b, o, rfl, hb, hj⟩ := hx hf2
    rcases hown.2 with ⟨_, h0⟩ | ⟨g, cap', cur, hv', _⟩
    · omega
    · rw [hv] at hv'
      injection hv' with e1 e2 e3
      injection e1 with e1
      injection e1 with e1 e4 e5
      subst e1 e4
      refine ⟨b, cap, hv, hb, fun i p hp => ?_⟩
      have := pairCells_at L i p hp
      have h1 := hj _ _ this.1
      have h2 := hj _ _ this.2
      simp only [Nat.zero_add] at h1 h2
      exact ⟨h1, h2⟩
  have HC := hide hcells
  have HBW := hide hbw
  have HK1 := hide hka
  clear hcells hbw hown hb1
  have c0 : w1.cell? ⟨w.heap.size, 0, none⟩ = some (.int .i64 k.first) := by rw [Lib.cell_of_heap hka]; rfl
  have c1 : w1.cell? ⟨w.heap.size, 1, none⟩ = some (.int .i64 k.firstB) := by rw [Lib.cell_of_heap hka]; rfl
  have c2 : w1.cell? ⟨w.heap.size, 2, none⟩ = some (.int .i64 k.last) := by rw [Lib.cell_of_heap hka]; rfl
  have c3 : w1.cell? ⟨w.heap.size, 3, none⟩ = some (.int .i64 k.lastB) := by rw [Lib.cell_of_heap hka]; rfl
  have c7 : w1.cell? ⟨w.heap.size, 7, none⟩ = some (.bool k.blanks) := by rw [Lib.cell_of_heap hka]; rfl
  have hlt := hka.lt
  clear hka
  by_cases h1 : k.first ≤ L.length
  case pos =>
    obtain ⟨a, ha⟩ : ∃ a : Nat, k.first = (a : Int) + 1 := ⟨(k.first - 1).toNat, by omega⟩
    have hd : decide (k.first ≤ (L.length : Int)) = true := by simpa using h1
    have hal : a < L.length := by omega
    have d := HC.out a L[a] (List.getElem?_eq_getElem hal)
    have hp := HF3.out L[a] (List.getElem_mem hal)
    obtain ⟨p, hpp⟩ : ∃ p, L[a] = p := ⟨_, rfl⟩
    rw [hpp] at d hp
    obtain ⟨d0, d1⟩ := d
    obtain ⟨hp1, hp2⟩ := hp
    have HF : Hid (keyFrom k line sep = min (begAt line k.blanks p + k.firstB.toNat - 1) p.2) := by
      show _ = _
      unfold keyFrom
      rw [HL.out, if_pos h1, List.getD_eq_getElem?_getD, show k.first.toNat - 1 = a by omega, List.getElem?_eq_getElem hal, hpp]; rfl
    clear hpp
    have hbg := begAt_ok line k.blanks p hp1
    have HBG := hide (fun W => begin_any line p k.blanks W hp1 hp2 hl)
    obtain ⟨B, hB⟩ : ∃ B, begAt line k.blanks p = B := ⟨_, rfl⟩
    rw [hB] at hbg HF
    simp only [hB] at HBG
    clear hB
    have hw1 : IntKind.i64.wrap ((B : Int) + k.firstB) = (B : Int) + k.firstB := IntWalk.i64_in _ (by omega)
    have hw2 : IntKind.i64.wrap ((B : Int) + k.firstB - 1) = (B : Int) + k.firstB - 1 := IntWalk.i64_in _ (by omega)
    have hne : w.heap.size ≠ w1.heap.size := by omega
    go_wp2_with fail
    have e1 : (w1.alloc (.cells #[.int .i64 (p.1 : Int), .int .i64 (p.2 : Int)] 211)).cell? ⟨w.heap.size, 1, none⟩ = some (.int .i64 k.firstB) := (((Below.refl w1.heap.size w1).alloc (Nat.le_refl _) _).cell (p := ⟨w.heap.size, 1, none⟩) hlt).trans c1
    have e7 : (w1.alloc (.cells #[.int .i64 (p.1 : Int), .int .i64 (p.2 : Int)] 211)).cell? ⟨w.heap.size, 7, none⟩ = some (.bool k.blanks) := (((Below.refl w1.heap.size w1).alloc (Nat.le_refl _) _).cell (p := ⟨w.heap.size, 7, none⟩) hlt).trans c7
    go_region_held3 (fun w' => w'.cell? ⟨w.heap.size, 1, none⟩ = some (.int .i64 k.firstB) ∧ w'.cell? ⟨w.heap.size, 7, none⟩ = some (.bool k.blanks) ∧ w'.cell? ⟨w1.heap.size, 0, none⟩ = some (.int .i64 (p.1 : Int)) ∧ w'.cell? ⟨w1.heap.size, 1, none⟩ = some (.int .i64 (p.2 : Int))) (go_keep) ((go_at_call 170; (with_reducible refine (HBG.out _).mono ?_); rintro e w2 ⟨rfl, hbl⟩; have hbl' : Below (w1.heap.size + 1) (w1.alloc (.cells #[.int .i64 (p.1 : Int), .int .i64 (p.2 : Int)] 211)) w2 := ⟨hbl.os, hbl.tape, hbl.output, by simpa using hbl.size, fun k hk => hbl.block k (by simpa using hk)⟩; have q1 : w2.cell? ⟨w.heap.size, 1, none⟩ = some (.int .i64 k.firstB) := (hbl'.cell (by simp; omega)).trans e1; have q2 : w2.cell? ⟨w.heap.size, 7, none⟩ = some (.bool k.blanks) := (hbl'.cell (by simp; omega)).trans e7; have q3 : w2.cell? ⟨w1.heap.size, 0, none⟩ = some (.int .i64 (p.1 : Int)) := (hbl'.cell (by simp)).trans (by simp); have q4 : w2.cell? ⟨w1.heap.size, 1, none⟩ = some (.int .i64 (p.2 : Int)) := (hbl'.cell (by simp)).trans (by simp)))
    have hb2 : Below w1.heap.size w1 w2 := ((Below.refl w1.heap.size w1).alloc (Nat.le_refl _) _).trans (hbl'.mono (by omega))
    have HBW2 := hide (HBW.out.trans (hb2.mono HBW.out.size))
    have HK2 := hide (HK1.out.below hb2 hlt)
    have HC2 : Hid (∀ (i : Nat) (p : Nat × Nat), L[i]? = some p → w2.cell? ⟨g, i * 2, none⟩ = some (.int .i64 (p.1 : Int)) ∧ w2.cell? ⟨g, i * 2 + 1, none⟩ = some (.int .i64 (p.2 : Int))) := hide (fun i p hp => ⟨(hb2.cell hg).trans (HC.out i p hp).1, (hb2.cell hg).trans (HC.out i p hp).2⟩)
    have hz2 := hb2.size
    clear hbl hbl' hb2 q1 q2 q3 q4 e1 e7 c0 c1 c2 c3 c7 d0 d1 hw1 hw2
    obtain ⟨fr, hfr, hfe⟩ : ∃ fr : Nat, (if (p.2 : Int) < (B : Int) + k.firstB - 1 then (p.2 : Int) else (B : Int) + k.firstB - 1) = (fr : Int) ∧ fr = min (B + k.firstB.toNat - 1) p.2 := by
      refine ⟨min (B + k.firstB.toNat - 1) p.2, ?_, rfl⟩
      split <;> omega
    rw [hfr]
    have hfl : fr ≤ line.size := by omega
    rw [← hfe] at HF
    clear hfr hfe HBG hbg hp1 hp2 h1 hd ha hal HBW HK1 HC
    have c2 : w2.cell? ⟨w.heap.size, 2, none⟩ = some (.int .i64 k.last) := by rw [Lib.cell_of_heap HK2.out]; rfl
    have c3 : w2.cell? ⟨w.heap.size, 3, none⟩ = some (.int .i64 k.lastB) := by rw [Lib.cell_of_heap HK2.out]; rfl
    have c7 : w2.cell? ⟨w.heap.size, 7, none⟩ = some (.bool k.blanks) := by rw [Lib.cell_of_heap HK2.out]; rfl
    have hlt2 := HK2.out.lt
    by_cases hla : 0 < k.last
    · have hda : decide (0 < k.last) = true := by simpa using hla
      by_cases hlb : k.last ≤ L.length
      · have hdb : decide (k.last ≤ (L.length : Int)) = true := by simpa using hlb
        obtain ⟨z, hz⟩ : ∃ z : Nat, k.last = (z : Int) + 1 := ⟨(k.last - 1).toNat, by omega⟩
        have hzl : z < L.length := by omega
        have d := HC2.out z L[z] (List.getElem?_eq_getElem hzl)
        have hp := HF3.out L[z] (List.getElem_mem hzl)
        obtain ⟨r, hrr⟩ : ∃ r, L[z] = r := ⟨_, rfl⟩
        rw [hrr] at d hp
        obtain ⟨d0, d1⟩ := d
        obtain ⟨hp1, hp2⟩ := hp
        have HT0 : Hid (keyTo k line sep = if 0 < k.lastB then min (begAt line k.blanks r + k.lastB.toNat) r.2 else r.2) := by
          show _ = _
          unfold keyTo
          rw [HL.out, if_pos ⟨hla, hlb⟩, List.getD_eq_getElem?_getD, show k.last.toNat - 1 = z by omega, List.getElem?_eq_getElem hzl, hrr]; rfl
        clear hrr
        have hbn := ((Below.refl w2.heap.size w2).alloc (Nat.le_refl _) (.cells #[.int .i64 (r.1 : Int), .int .i64 (r.2 : Int)] 211))
        have HBN := hide hbn
        clear hbn
        by_cases hlc : 0 < k.lastB
        · have hdc : decide (0 < k.lastB) = true := by simpa using hlc
          have HT1 : Hid (keyTo k line sep = min (begAt line k.blanks r + k.lastB.toNat) r.2) := by
            show _ = _
            rw [HT0.out, if_pos hlc]
          have hbg := begAt_ok line k.blanks r hp1
          have HBG := hide (fun W => begin_any line r k.blanks W hp1 hp2 hl)
          obtain ⟨B2, hB2⟩ : ∃ B2, begAt line k.blanks r = B2 := ⟨_, rfl⟩
          rw [hB2] at hbg HT1
          simp only [hB2] at HBG
          clear hB2
          have hw1 : IntKind.i64.wrap ((B2 : Int) + k.lastB) = (B2 : Int) + k.lastB := IntWalk.i64_in _ (by omega)
          have hne : w.heap.size ≠ w2.heap.size := by omega
          go_wp2_with fail
          have e1 := (HBN.out.cell (p := ⟨w.heap.size, 3, none⟩) hlt2).trans c3
          have e7 := (HBN.out.cell (p := ⟨w.heap.size, 7, none⟩) hlt2).trans c7
          go_region_held3 (fun w' => w'.cell? ⟨w.heap.size, 3, none⟩ = some (.int .i64 k.lastB) ∧ w'.cell? ⟨w.heap.size, 7, none⟩ = some (.bool k.blanks) ∧ w'.cell? ⟨w2.heap.size, 0, none⟩ = some (.int .i64 (r.1 : Int)) ∧ w'.cell? ⟨w2.heap.size, 1, none⟩ = some (.int .i64 (r.2 : Int))) (go_keep) ((go_at_call 170; (with_reducible refine (HBG.out _).mono ?_); rintro e w3 ⟨rfl, hbl⟩; have hbl' : Below (w2.heap.size + 1) (w2.alloc (.cells #[.int .i64 (r.1 : Int), .int .i64 (r.2 : Int)] 211)) w3 := ⟨hbl.os, hbl.tape, hbl.output, by simpa using hbl.size, fun k hk => hbl.block k (by simpa using hk)⟩; have q1 : w3.cell? ⟨w.heap.size, 3, none⟩ = some (.int .i64 k.lastB) := (hbl'.cell (by simp; omega)).trans e1; have q2 : w3.cell? ⟨w.heap.size, 7, none⟩ = some (.bool k.blanks) := (hbl'.cell (by simp; omega)).trans e7; have q3 : w3.cell? ⟨w2.heap.size, 0, none⟩ = some (.int .i64 (r.1 : Int)) := (hbl'.cell (by simp)).trans (by simp); have q4 : w3.cell? ⟨w2.heap.size, 1, none⟩ = some (.int .i64 (r.2 : Int)) := (hbl'.cell (by simp)).trans (by simp)))
          have hb3 : Below w2.heap.size w2 w3 := HBN.out.trans (hbl'.mono (by omega))
          have HB3 := hide (HBW2.out.trans (hb3.mono HBW2.out.size))
          obtain ⟨to, hto, hte⟩ : ∃ to : Nat, (if (r.2 : Int) < (B2 : Int) + k.lastB then (r.2 : Int) else (B2 : Int) + k.lastB) = (to : Int) ∧ to = min (B2 + k.lastB.toNat) r.2 := by
            refine ⟨min (B2 + k.lastB.toNat) r.2, ?_, rfl⟩
            split <;> omega
          rw [hto]
          have HT : Hid (keyTo k line sep = to) := by show _ = _; rw [HT1.out, hte]
          have htl : to ≤ line.size := by omega
          clear hbl hbl' hb3 q1 q2 q3 q4 e1 e7 hw1 hto hte
          by_cases hcut : to < fr
          · have HR : Hid (Pw.keyOf k line sep = ⟨#[]⟩) := by
              show _ = _
              unfold Pw.keyOf
              rw [HF.out, HT.out, if_pos hcut]
            have hcd : decide (to < fr) = true := by simpa using hcut
            go_wp2_with fail
            go_ret
            exact ⟨by rw [HR.out]; rfl, HB3.out⟩
          · have HR : Hid (Pw.keyOf k line sep = line.extract fr to) := by
              show _ = _
              unfold Pw.keyOf
              rw [HF.out, HT.out, if_neg hcut]
            have hcd : decide (to < fr) = false := by simpa using hcut
            have hc2 : fr ≤ to := by omega
            go_wp2_with fail
            go_ret
            exact ⟨by rw [HR.out]; rfl, HB3.out⟩
        · have hdc : decide (0 < k.lastB) = false := by simpa using hlc
          have HT : Hid (keyTo k line sep = r.2) := by
            show _ = _
            rw [HT0.out, if_neg hlc]
          have HB3 := hide (HBW2.out.trans (HBN.out.mono HBW2.out.size))
          by_cases hcut : r.2 < fr
          · have HR : Hid (Pw.keyOf k line sep = ⟨#[]⟩) := by
              show _ = _
              unfold Pw.keyOf
              rw [HF.out, HT.out, if_pos hcut]
            have hcd : decide (r.2 < fr) = true := by simpa using hcut
            go_wp2_with fail
            go_ret
            exact ⟨by rw [HR.out]; rfl, HB3.out⟩
          · have HR : Hid (Pw.keyOf k line sep = line.extract fr r.2) := by
              show _ = _
              unfold Pw.keyOf
              rw [HF.out, HT.out, if_neg hcut]
            have hcd : decide (r.2 < fr) = false := by simpa using hcut
            have hc2 : fr ≤ r.2 := by omega
            go_wp2_with fail
            go_ret
            exact ⟨by rw [HR.out]; rfl, HB3.out⟩
      · have hdb : decide (k.last ≤ (L.length : Int)) = false := by simpa using hlb
        have HT : Hid (keyTo k line sep = line.size) := by
          show _ = _
          unfold keyTo
          rw [HL.out, if_neg (fun h => hlb h.2)]
        by_cases hcut : line.size < fr
        · exact absurd hcut (by omega)
        · have HR : Hid (Pw.keyOf k line sep = line.extract fr line.size) := by
            show _ = _
            unfold Pw.keyOf
            rw [HF.out, HT.out, if_neg hcut]
          have hcd : decide (line.size < fr) = false := by simpa using hcut
          have hc2 : fr ≤ line.size := by omega
          go_wp2_with fail
          go_ret
          exact ⟨by rw [HR.out]; rfl, HBW2.out⟩
    · have hda : decide (0 < k.last) = false := by simpa using hla
      have HT : Hid (keyTo k line sep = line.size) := by
        show _ = _
        unfold keyTo
        rw [HL.out, if_neg (fun h => hla h.1)]
      by_cases hcut : line.size < fr
      · exact absurd hcut (by omega)
      · have HR : Hid (Pw.keyOf k line sep = line.extract fr line.size) := by
          show _ = _
          unfold Pw.keyOf
          rw [HF.out, HT.out, if_neg hcut]
        have hcd : decide (line.size < fr) = false := by simpa using hcut
        have hc2 : fr ≤ line.size := by omega
        go_wp2_with fail
        go_ret
        exact ⟨by rw [HR.out]; rfl, HBW2.out⟩
  case neg =>
    have hd : decide (k.first ≤ (L.length : Int)) = false := by simpa using h1
    have HF : Hid (keyFrom k line sep = line.size) := by
      show _ = _
      unfold keyFrom
      rw [HL.out, if_neg h1]
    obtain ⟨w2, hw2⟩ : ∃ w2, w2 = w1 := ⟨_, rfl⟩
    rw [← hw2]
    have HBW2 := HBW
    have HK2 := HK1
    have HC2 := HC
    have hz2 := Nat.le_refl w1.heap.size
    rw [← hw2] at HBW2 HK2 HC2 hg hlt
    clear c1 c2 c3 c7 h1 HBW HK1 HC
    rw [← hw2] at c0
    clear hw2
    have c2 : w2.cell? ⟨w.heap.size, 2, none⟩ = some (.int .i64 k.last) := by rw [Lib.cell_of_heap HK2.out]; rfl
    have c3 : w2.cell? ⟨w.heap.size, 3, none⟩ = some (.int .i64 k.lastB) := by rw [Lib.cell_of_heap HK2.out]; rfl
    have c7 : w2.cell? ⟨w.heap.size, 7, none⟩ = some (.bool k.blanks) := by rw [Lib.cell_of_heap HK2.out]; rfl
    have hlt2 := HK2.out.lt
    by_cases hla : 0 < k.last
    · have hda : decide (0 < k.last) = true := by simpa using hla
      by_cases hlb : k.last ≤ L.length
      · have hdb : decide (k.last ≤ (L.length : Int)) = true := by simpa using hlb
        obtain ⟨z, hz⟩ : ∃ z : Nat, k.last = (z : Int) + 1 := ⟨(k.last - 1).toNat, by omega⟩
        have hzl : z < L.length := by omega
        have d := HC2.out z L[z] (List.getElem?_eq_getElem hzl)
        have hp := HF3.out L[z] (List.getElem_mem hzl)
        obtain ⟨r, hrr⟩ : ∃ r, L[z] = r := ⟨_, rfl⟩
        rw [hrr] at d hp
        obtain ⟨d0, d1⟩ := d
        obtain ⟨hp1, hp2⟩ := hp
        have HT0 : Hid (keyTo k line sep = if 0 < k.lastB then min (begAt line k.blanks r + k.lastB.toNat) r.2 else r.2) := by
          show _ = _
          unfold keyTo
          rw [HL.out, if_pos ⟨hla, hlb⟩, List.getD_eq_getElem?_getD, show k.last.toNat - 1 = z by omega, List.getElem?_eq_getElem hzl, hrr]; rfl
        clear hrr
        have hbn := ((Below.refl w2.heap.size w2).alloc (Nat.le_refl _) (.cells #[.int .i64 (r.1 : Int), .int .i64 (r.2 : Int)] 211))
        have HBN := hide hbn
        clear hbn
        by_cases hlc : 0 < k.lastB
        · have hdc : decide (0 < k.lastB) = true := by simpa using hlc
          have HT1 : Hid (keyTo k line sep = min (begAt line k.blanks r + k.lastB.toNat) r.2) := by
            show _ = _
            rw [HT0.out, if_pos hlc]
          have hbg := begAt_ok line k.blanks r hp1
          have HBG := hide (fun W => begin_any line r k.blanks W hp1 hp2 hl)
          obtain ⟨B2, hB2⟩ : ∃ B2, begAt line k.blanks r = B2 := ⟨_, rfl⟩
          rw [hB2] at hbg HT1
          simp only [hB2] at HBG
          clear hB2
          have hw1 : IntKind.i64.wrap ((B2 : Int) + k.lastB) = (B2 : Int) + k.lastB := IntWalk.i64_in _ (by omega)
          have hne : w.heap.size ≠ w2.heap.size := by omega
          go_wp2_with fail
          have e1 := (HBN.out.cell (p := ⟨w.heap.size, 3, none⟩) hlt2).trans c3
          have e7 := (HBN.out.cell (p := ⟨w.heap.size, 7, none⟩) hlt2).trans c7
          go_region_held3 (fun w' => w'.cell? ⟨w.heap.size, 3, none⟩ = some (.int .i64 k.lastB) ∧ w'.cell? ⟨w.heap.size, 7, none⟩ = some (.bool k.blanks) ∧ w'.cell? ⟨w2.heap.size, 0, none⟩ = some (.int .i64 (r.1 : Int)) ∧ w'.cell? ⟨w2.heap.size, 1, none⟩ = some (.int .i64 (r.2 : Int))) (go_keep) ((go_at_call 170; (with_reducible refine (HBG.out _).mono ?_); rintro e w3 ⟨rfl, hbl⟩; have hbl' : Below (w2.heap.size + 1) (w2.alloc (.cells #[.int .i64 (r.1 : Int), .int .i64 (r.2 : Int)] 211)) w3 := ⟨hbl.os, hbl.tape, hbl.output, by simpa using hbl.size, fun k hk => hbl.block k (by simpa using hk)⟩; have q1 : w3.cell? ⟨w.heap.size, 3, none⟩ = some (.int .i64 k.lastB) := (hbl'.cell (by simp; omega)).trans e1; have q2 : w3.cell? ⟨w.heap.size, 7, none⟩ = some (.bool k.blanks) := (hbl'.cell (by simp; omega)).trans e7; have q3 : w3.cell? ⟨w2.heap.size, 0, none⟩ = some (.int .i64 (r.1 : Int)) := (hbl'.cell (by simp)).trans (by simp); have q4 : w3.cell? ⟨w2.heap.size, 1, none⟩ = some (.int .i64 (r.2 : Int)) := (hbl'.cell (by simp)).trans (by simp)))
          have hb3 : Below w2.heap.size w2 w3 := HBN.out.trans (hbl'.mono (by omega))
          have HB3 := hide (HBW2.out.trans (hb3.mono HBW2.out.size))
          obtain ⟨to, hto, hte⟩ : ∃ to : Nat, (if (r.2 : Int) < (B2 : Int) + k.lastB then (r.2 : Int) else (B2 : Int) + k.lastB) = (to : Int) ∧ to = min (B2 + k.lastB.toNat) r.2 := by
            refine ⟨min (B2 + k.lastB.toNat) r.2, ?_, rfl⟩
            split <;> omega
          rw [hto]
          have HT : Hid (keyTo k line sep = to) := by show _ = _; rw [HT1.out, hte]
          have htl : to ≤ line.size := by omega
          clear hbl hbl' hb3 q1 q2 q3 q4 e1 e7 hw1 hto hte
          by_cases hcut : to < line.size
          · have HR : Hid (Pw.keyOf k line sep = ⟨#[]⟩) := by
              show _ = _
              unfold Pw.keyOf
              rw [HF.out, HT.out, if_pos hcut]
            have hcd : decide (to < line.size) = true := by simpa using hcut
            go_wp2_with fail
            go_ret
            exact ⟨by rw [HR.out]; rfl, HB3.out⟩
          · have HR : Hid (Pw.keyOf k line sep = line.extract line.size to) := by
              show _ = _
              unfold Pw.keyOf
              rw [HF.out, HT.out, if_neg hcut]
            have hcd : decide (to < line.size) = false := by simpa using hcut
            have hc2 : line.size ≤ to := by omega
            go_wp2_with fail
            go_ret
            exact ⟨by rw [HR.out]; rfl, HB3.out⟩
        · have hdc : decide (0 < k.lastB) = false := by simpa using hlc
          have HT : Hid (keyTo k line sep = r.2) := by
            show _ = _
            rw [HT0.out, if_neg hlc]
          have HB3 := hide (HBW2.out.trans (HBN.out.mono HBW2.out.size))
          by_cases hcut : r.2 < line.size
          · have HR : Hid (Pw.keyOf k line sep = ⟨#[]⟩) := by
              show _ = _
              unfold Pw.keyOf
              rw [HF.out, HT.out, if_pos hcut]
            have hcd : decide (r.2 < line.size) = true := by simpa using hcut
            go_wp2_with fail
            go_ret
            exact ⟨by rw [HR.out]; rfl, HB3.out⟩
          · have HR : Hid (Pw.keyOf k line sep = line.extract line.size r.2) := by
              show _ = _
              unfold Pw.keyOf
              rw [HF.out, HT.out, if_neg hcut]
            have hcd : decide (r.2 < line.size) = false := by simpa using hcut
            have hc2 : line.size ≤ r.2 := by omega
            go_wp2_with fail
            go_ret
            exact ⟨by rw [HR.out]; rfl, HB3.out⟩
      · have hdb : decide (k.last ≤ (L.length : Int)) = false := by simpa using hlb
        have HT : Hid (keyTo k line sep = line.size) := by
          show _ = _
          unfold keyTo
          rw [HL.out, if_neg (fun h => hlb h.2)]
        by_cases hcut : line.size < line.size
        · exact absurd hcut (Nat.lt_irrefl _)
        · have HR : Hid (Pw.keyOf k line sep = line.extract line.size line.size) := by
            show _ = _
            unfold Pw.keyOf
            rw [HF.out, HT.out, if_neg hcut]
          have hcd : decide (line.size < line.size) = false := by simp
          have hc2 : line.size ≤ line.size := by omega
          go_wp2_with fail
          go_ret
          exact ⟨by rw [HR.out]; first | rfl | (simp; done), HBW2.out⟩
    · have hda : decide (0 < k.last) = false := by simpa using hla
      have HT : Hid (keyTo k line sep = line.size) := by
        show _ = _
        unfold keyTo
        rw [HL.out, if_neg (fun h => hla h.1)]
      by_cases hcut : line.size < line.size
      · exact absurd hcut (Nat.lt_irrefl _)
      · have HR : Hid (Pw.keyOf k line sep = line.extract line.size line.size) := by
          show _ = _
          unfold Pw.keyOf
          rw [HF.out, HT.out, if_neg hcut]
        have hcd : decide (line.size < line.size) = false := by simp
        have hc2 : line.size ≤ line.size := by omega
        go_wp2_with fail
        go_ret
        exact ⟨by rw [HR.out]; first | rfl | (simp; done), HBW2.out⟩
end Go.Proofs.YtifpmigghplmoaaGreatDoor
