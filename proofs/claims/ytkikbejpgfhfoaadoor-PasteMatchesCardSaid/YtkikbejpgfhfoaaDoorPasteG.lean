/- text.Paste. -/
import Derived.Test.YtkikbejpgfhfoaaDoorPastedW
set_option linter.unusedVariables false
set_option linter.unusedSimpArgs false
namespace Go.Pw
open Go.RowKit
theorem bigB_parts {s : ByteArray} (h : bigB s = false) : s.size ≤ 65536 ∧ (linesOf s).length ≤ 4096 ∧ ∀ x ∈ linesOf s, x.size ≤ 65536 := by
  have h1 := (linesOf_bound s).2
  unfold bigB at h
  simp at h
  exact ⟨by omega, by omega, fun x hx => by have := h1 x hx; omega⟩
def nlP (s : ByteArray) : Bool := decide (0 ≤ Lib.indexByte s.data.toList 10)
def pasteErr (l : List ByteArray) (bt : ByteArray) : Int := firstNZ [if l.length = 0 then 23 else 0, if 16 < l.length then 2 else 0, if nlP bt || decide (16 < bt.size) then 5 else 0, if l.any bigB then 2 else 0]
theorem RowsR.strsL {tSS : TypeId} {w : World} {base : Nat} {v : Value} {vs : List Value} {rs : List (List ByteArray)} (h : RowsR tSS w base v vs rs) : StrsL w v rs :=
  ⟨vs, h.len, Rd.of_own h.own, fun i u l hu hl => (h.el i u l hu hl).1⟩
theorem rowN_length (ls : List (List ByteArray)) (n : Nat) : (rowN ls n).length = ls.length := by unfold rowN; rw [List.length_map]
theorem altP_bound {bt : ByteArray} {l : List ByteArray} {M L : Nat} (h : ∀ s ∈ l, s.size ≤ M) (hl : l.length ≤ L) : (altP bt l l.length).length ≤ L * (M + 1) :=
  Nat.le_trans (altP_le h _ (Nat.le_refl _)) (Nat.mul_le_mul hl (Nat.le_refl _))
theorem pstOk_of {bt : ByteArray} {ls : List (List ByteArray)} (h1 : ls.length ≤ 16) (h2 : ∀ l ∈ ls, l.length ≤ 4096 ∧ ∀ s ∈ l, s.size ≤ 65536) (hb : bt.size ≤ 16) : PstOk bt ls := by
  refine ⟨by omega, fun l hl => by have := (h2 l hl).1; omega, fun l hl => ?_, fun n => ?_, by omega, fun l hl s hs => ?_⟩
  · have := altP_bound (bt := bt) (h2 l hl).2 (h2 l hl).1
    omega
  · have := altP_bound (bt := bt) (rowN_sz (fun l hl => (h2 l hl).2) n) (by rw [rowN_length]; exact h1)
    omega
  · have := (h2 l hl).2 s hs
    unfold maxLen; omega
theorem pasteL_bound {bt : ByteArray} {ls : List (List ByteArray)} {M L : Nat} (sr : Bool) (h1 : ls.length ≤ 16) (h2 : ∀ l ∈ ls, l.length ≤ L ∧ ∀ s ∈ l, s.size ≤ M) :
    (resL (pasteL bt sr ls)).length ≤ 16 * (L * (M + 1) + 1) + L * (16 * (M + 1) + 1) ∧ ∀ s ∈ pasteL bt sr ls, s.size ≤ L * (M + 1) + 16 * (M + 1) := by
  have hH : highN ls ≤ L := highN_bound fun l hl => (h2 l hl).1
  have a1 : ∀ l ∈ ls, (altB bt l).size ≤ L * (M + 1) := fun l hl => by
    unfold altB; rw [mkB_size]; exact altP_bound (h2 l hl).2 (h2 l hl).1
  have a2 : ∀ n, (altB bt (rowN ls n)).size ≤ 16 * (M + 1) := fun n => by
    unfold altB; rw [mkB_size]; exact altP_bound (rowN_sz (fun l hl => (h2 l hl).2) n) (by rw [rowN_length]; exact h1)
  unfold pasteL
  cases sr
  · have e : ∀ s ∈ (List.range (highN ls)).map (fun n => altB bt (rowN ls n)), s.size ≤ 16 * (M + 1) := fun s hs => by
      obtain ⟨n, _, rfl⟩ := List.mem_map.1 hs
      exact a2 n
    refine ⟨?_, fun s hs => Nat.le_trans (e s hs) (Nat.le_add_left _ _)⟩
    have h := resL_le e
    rw [List.length_map, List.length_range] at h
    refine Nat.le_trans h (Nat.le_trans (Nat.mul_le_mul hH (Nat.le_refl _)) (Nat.le_add_left _ _))
  · have e : ∀ s ∈ ls.map (altB bt), s.size ≤ L * (M + 1) := fun s hs => by
      obtain ⟨n, hn, rfl⟩ := List.mem_map.1 hs
      exact a1 n hn
    refine ⟨?_, fun s hs => Nat.le_trans (e s hs) (Nat.le_add_right _ _)⟩
    have h := resL_le e
    rw [List.length_map] at h
    refine Nat.le_trans h (Nat.le_trans (Nat.mul_le_mul h1 (Nat.le_refl _)) (Nat.le_add_right _ _))
end Go.Pw
namespace Go.Proofs.YtkikbejpgfhfoaaDoor
open Go.RowKit Go.Pw
theorem containsNl_any (s : ByteArray) (w : World) : Calls Tryd.prog 17 #[.string s, .string ⟨#[10]⟩] w fun e w' => e = .returned (.bool (nlP s)) ∧ w = w' :=
  (Tryd.strings_Contains_one s 10 w).mono fun e w' ⟨h1, h2⟩ => ⟨h1, h2.symm⟩
set_option maxHeartbeats 1000000 in
set_option maxRecDepth 100000 in
theorem paste_bad (v : Value) (l : List ByteArray) (bt : ByteArray) (sr : Bool) (n : Int) (w : World) (h : Strs w v l) (hbt : bt.size ≤ maxLen) (hn : n ≠ 0) (he : pasteErr l bt = n) :
    Calls Tryd.prog 47 #[v, .string bt, .bool sr] w fun e w' => e = .returned (.tuple #[.string ⟨#[]⟩, .int .i64 n]) ∧ Below w.heap.size w w' := by
  have HS := hide (sized_any v l w h)
  have HC := hide (containsNl_any bt w)
  obtain ⟨⟨_, A, cap, rfl, hcap, hmax, hx⟩, hsz⟩ := h
  unfold maxLen at hmax hbt
  clear hx hsz
  unfold pasteErr at he
  by_cases h0 : l.length = 0
  · obtain rfl : l = [] := List.eq_nil_of_length_eq_zero h0
    obtain rfl : n = 23 := by simpa [firstNZ] using he.symm
    clear HS HC he h0 hcap
    go_enter Tryd.func47, Tryd.ntmps47
    go_wp2_with fail
    go_ret2
    exact ⟨rfl, Below.refl _ _⟩
  · rw [if_neg h0] at he
    have hne0 : ((l.length : Int) == 0) = false := beq_eq_false_iff_ne.2 (by omega)
    by_cases h1 : 16 < l.length
    · rw [if_pos h1] at he
      obtain rfl : n = 2 := by simpa [firstNZ] using he.symm
      have hd : (16 : Int) < (l.length : Int) := by omega
      clear HS HC he
      go_enter Tryd.func47, Tryd.ntmps47
      go_wp2_with fail
      go_ret2
      exact ⟨rfl, Below.refl _ _⟩
    · rw [if_neg h1] at he
      have hd : ¬ ((16 : Int) < (l.length : Int)) := by omega
      cases hnl : nlP bt
      · rw [hnl] at HC he
        by_cases h2 : 16 < bt.size
        · obtain rfl : n = 5 := by simpa [firstNZ, h2] using he.symm
          have hd2 : (16 : Int) < (bt.size : Int) := by omega
          clear HS he
          go_enter Tryd.func47, Tryd.ntmps47
          go_wp2_with fail
          refine HC.out.mono ?_
          rintro e w' ⟨rfl, rfl⟩
          go_wp2_with fail
          go_ret2
          exact ⟨rfl, Below.refl _ _⟩
        · have hd2 : ¬ ((16 : Int) < (bt.size : Int)) := by omega
          cases hb : l.any bigB
          · rw [hb] at he
            simp [firstNZ, h2] at he
            exact absurd he.symm hn
          · rw [hb] at HS he
            obtain rfl : n = 2 := by simpa [firstNZ, h2] using he.symm
            clear he hb
            go_enter Tryd.func47, Tryd.ntmps47
            go_wp2_with fail
            refine HC.out.mono ?_
            rintro e w' ⟨rfl, rfl⟩
            go_wp2_with fail
            refine HS.out.mono ?_
            rintro e w1 ⟨rfl, hb1⟩
            have HB1 := hide hb1
            clear hb1
            go_wp2_with fail
            go_ret2
            exact ⟨rfl, HB1.out⟩
      · rw [hnl] at HC he
        obtain rfl : n = 5 := by simpa [firstNZ] using he.symm
        clear HS he
        go_enter Tryd.func47, Tryd.ntmps47
        go_wp2_with fail
        refine HC.out.mono ?_
        rintro e w' ⟨rfl, rfl⟩
        go_wp2_with fail
        go_ret2
        exact ⟨rfl, Below.refl _ _⟩
theorem map_lines_ok {l : List ByteArray} (h : l.any bigB = false) : ∀ x ∈ l.map linesOf, x.length ≤ 4096 ∧ ∀ s ∈ x, s.size ≤ 65536 := by
  intro x hx
  obtain ⟨s, hs, rfl⟩ := List.mem_map.1 hx
  have hb : bigB s = false := by
    cases e : bigB s
    · rfl
    · exact absurd (List.any_eq_true.2 ⟨s, hs, e⟩) (by rw [h]; simp)
  obtain ⟨h1, h2, h3⟩ := bigB_parts hb
  exact ⟨h2, h3⟩
set_option maxHeartbeats 4000000 in
set_option maxRecDepth 100000 in
theorem paste_good (v : Value) (l : List ByteArray) (bt : ByteArray) (sr : Bool) (w : World) (h : Strs w v l) (he : pasteErr l bt = 0) :
    Calls Tryd.prog 47 #[v, .string bt, .bool sr] w fun e w' => e = .returned (.tuple #[.string (mkB (resL (pasteL bt sr (l.map linesOf)))), .int .i64 0]) ∧ Below w.heap.size w w' := by
  have HS := hide (sized_any v l w h)
  have HC := hide (containsNl_any bt w)
  have H0 := hide h
  have hp : l.length ≠ 0 ∧ l.length ≤ 16 ∧ nlP bt = false ∧ bt.size ≤ 16 ∧ l.any bigB = false := by
    unfold pasteErr at he
    simp only [firstNZ] at he
    by_cases a : l.length = 0
    · simp [a] at he
    · by_cases b : 16 < l.length
      · simp [a, b] at he
      · cases c : nlP bt
        · by_cases d : 16 < bt.size
          · simp [a, b, c, d] at he
          · cases e : l.any bigB
            · exact ⟨a, by omega, rfl, by omega, rfl⟩
            · simp [a, b, c, d, e] at he
        · simp [a, b, c] at he
  obtain ⟨p1, p2, p3, p4, p5⟩ := hp
  rw [p3] at HC
  rw [p5] at HS
  have HLO := hide (map_lines_ok p5)
  have HOK := hide (pstOk_of (ls := l.map linesOf) (by rw [List.length_map]; exact p2) HLO.out p4)
  have HBD := hide (pasteL_bound (bt := bt) (ls := l.map linesOf) (M := 65536) (L := 4096) sr (by rw [List.length_map]; exact p2) HLO.out)
  have HNB : Hid (∀ s ∈ l, bigB s = false) := hide (fun s hs => by
    cases e : bigB s
    · rfl
    · exact absurd (List.any_eq_true.2 ⟨s, hs, e⟩) (by rw [p5]; simp))
  obtain ⟨⟨_, A, cap, rfl, hcap, hmax, hx⟩, hsz⟩ := h
  unfold maxLen at hmax
  have HX := hide hx
  have hne0 : ((l.length : Int) == 0) = false := beq_eq_false_iff_ne.2 (by omega)
  have hd0 : ¬ ((16 : Int) < (l.length : Int)) := by omega
  have hd1 : ¬ ((16 : Int) < (bt.size : Int)) := by omega
  clear hx hsz he p5 p3
  go_enter Tryd.func47, Tryd.ntmps47
  go_wp2_with fail
  refine HC.out.mono ?_
  rintro e w' ⟨rfl, rfl⟩
  clear HC
  go_wp2_with fail
  refine HS.out.mono ?_
  rintro e w1 ⟨rfl, hb1⟩
  have HB1 := hide hb1
  clear hb1 HS
  go_wp2_with fail
  go_loopw [9, 10, 45] (fun a hi i wr => ∃ (k : Nat) (vs : List Value), k ≤ l.length ∧ i = .int .i64 (k : Int) ∧ hi = .int .i64 (highN ((l.take k).map linesOf) : Int) ∧ Hid (RowsR 40 wr w.heap.size a vs ((l.take k).map linesOf)) ∧ Hid (Below w.heap.size w wr)) (fun _ _ i _ => l.length - (intOf i).toNat)
  case atStart => exact ⟨0, [], by omega, rfl, rfl, RowsR.nil _ _ _, HB1⟩
  case round =>
    clear HB1
    obtain ⟨k, vs, hk, rfl, rfl, HR, HB⟩ := hrel
    by_cases hlt : k < l.length
    · obtain ⟨bb, o, rfl, hbb, hj⟩ := HX.out (by omega)
      have hc : wr.cell? ⟨bb, o + k, none⟩ = some (.string l[k]) := (HB.out.cell (p := ⟨bb, o + k, none⟩) hbb).trans (hj k _ (by simp [hlt]))
      have HN := hide (take_map_snoc linesOf l k hlt)
      have HHN : Hid (highN ((l.take (k + 1)).map linesOf) = max (highN ((l.take k).map linesOf)) (linesOf l[k]).length) := hide (by rw [HN.out, highN_append])
      have hbg := bigB_parts (HNB.out _ (List.getElem_mem hlt))
      have hlk : ((l.take k).map linesOf).length = k := by rw [List.length_map, List.length_take]; omega
      obtain ⟨D, hD⟩ : ∃ D, (l.take k).map linesOf = D := ⟨_, rfl⟩
      rw [hD] at HR HN HHN hlk ⊢
      obtain ⟨x, hx⟩ : ∃ x, l[k] = x := ⟨_, rfl⟩
      rw [hx] at hc HN HHN hbg
      have HLK := hide hlk
      have HBG := hide hbg
      have hxs := hbg.1
      have hln := hbg.2.1
      clear hD hj hx hlk hbg
      have hd : (k : Int) < (l.length : Int) := by omega
      obtain ⟨RA, rc, rfl⟩ := own_slice HR.out.own
      have hz := HB.out.size
      go_wp2_with fail
      refine (lines_any x wr (by omega)).mono ?_
      rintro e w2 ⟨u, rfl, hr⟩
      have hb2 := linesRes_below hr
      have hst := linesRes_strs hr (fun s hs => by have := HBG.out.2.2 s hs; unfold maxLen; omega) (by unfold maxLen; omega)
      obtain ⟨q1, q2⟩ := linesRes_lies hr
      obtain ⟨U, rfl⟩ := linesRes_len hr
      have HR2 := hide (HR.out.below hb2)
      have hnb : ∀ q, (Value.slice U (linesOf x).length (linesOf x).length).ownBlock = some q → (Value.slice RA D.length rc).ownBlock ≠ some q := fun q hq e => by
        have h1 := q2 q hq
        have h2 := own_lt HR.out.own q e
        omega
      have HB2 := hide (HB.out.trans (hb2.mono hz))
      have hz2 := HB2.out.size
      have HU := hide hst
      have HQ1 := hide q1
      have HQ := hide hnb
      clear hb2 hst q1 q2 hnb hr hc
      obtain ⟨L, hL⟩ : ∃ L, linesOf x = L := ⟨_, rfl⟩
      rw [hL] at HN HHN HU HQ1 HQ hln ⊢
      clear hL HBG
      go_wp2_with (at_builtin; refine wpList_app_row rfl _ _ rfl w.heap.size _ _ _ rfl HR2.out HU.out HQ1.out HQ.out rfl (by have := HLK.out; omega) hz2 ?_)
      intro g c w3 hr3 hb3
      have HR3 := hide hr3
      rw [← HN.out] at HR3
      have HB3 := hide (HB2.out.trans hb3)
      clear hr3 hb3
      go_wp2_with fail
      go_roundw
      case rel => exact ⟨k + 1, _, by omega, by go_num, by rw [HHN.out]; go_num, by rw [HN.out]; rw [HN.out] at HR3; exact HR3, HB3⟩
      case measure => simp [intOf]; omega
    · obtain rfl : k = l.length := by omega
      have hd : ¬ ((l.length : Int) < (l.length : Int)) := by omega
      rw [List.take_length] at HR ⊢
      have hl16 : (l.map linesOf).length ≤ 16 := by rw [List.length_map]; exact p2
      obtain ⟨ls, hls⟩ : ∃ ls, l.map linesOf = ls := ⟨_, rfl⟩
      rw [hls] at HR HLO HOK HBD hl16 ⊢
      have HLS := hide hls
      obtain ⟨RA, rc, rfl⟩ := own_slice HR.out.own
      have HL := hide HR.out.strsL
      have HH : Hid (highN ls ≤ 4096) := hide (highN_bound fun x hx => (HLO.out x hx).1)
      clear HX HNB hls H0 HR
      cases sr
      · obtain ⟨H, hH⟩ : ∃ H, highN ls = H := ⟨_, rfl⟩
        rw [hH] at HH ⊢
        have HPL : Hid (pasteL bt false ls = (List.range H).map fun n => altB bt (rowN ls n)) := hide (by unfold pasteL; rw [hH]; rfl)
        have hh := HH.out
        clear hH
        go_wp2_with fail
        obtain ⟨w2, hw2⟩ : ∃ w2, w2 = wr := ⟨_, rfl⟩
        subst hw2
        go_loopw [14, 77] (fun v i wr => ∃ m : Nat, m ≤ H ∧ i = .int .i64 (m : Int) ∧ Hid (OwnS 9 wr w2.heap.size v ((List.range m).map fun n => altB bt (rowN ls n))) ∧ Hid (Below w2.heap.size w2 wr)) (fun _ i _ => H - (intOf i).toNat)
        case atStart => exact ⟨0, by omega, rfl, World.ownsRow_nil _ _ _ _, Below.refl _ _⟩
        case round =>
          obtain ⟨m, hm, rfl, HO, HB2⟩ := hrel
          obtain ⟨OA, oc, rfl⟩ := own_slice HO.out
          have hlk : ((List.range m).map fun n => altB bt (rowN ls n)).length = m := by simp
          have HNX : Hid ((List.range (m + 1)).map (fun n => altB bt (rowN ls n)) = (List.range m).map (fun n => altB bt (rowN ls n)) ++ [altB bt (rowN ls m)]) := hide (by rw [List.range_succ, List.map_append]; rfl)
          obtain ⟨D, hD⟩ : ∃ D, (List.range m).map (fun n => altB bt (rowN ls n)) = D := ⟨_, rfl⟩
          rw [hD] at HO HNX hlk ⊢
          have HLK := hide hlk
          have HD := hide hD
          clear hD hlk
          have hz := HB2.out.size
          by_cases hmH : m < H
          · have hd2 : (m : Int) < (H : Int) := by omega
            go_wp2_with fail
            obtain ⟨w3, hw3⟩ : ∃ w3, w3 = wr := ⟨_, rfl⟩
            subst hw3
            go_loopw [18, 82] (fun v i wr => ∃ k : Nat, k ≤ ls.length ∧ i = .int .i64 (k : Int) ∧ Hid (OwnS 9 wr w3.heap.size v (rowN (ls.take k) m)) ∧ Hid (Below w3.heap.size w3 wr)) (fun _ i _ => ls.length - (intOf i).toNat)
            case atStart => exact ⟨0, by omega, rfl, World.ownsRow_nil _ _ _ _, Below.refl _ _⟩
            case round =>
              obtain ⟨k, hk, rfl, HR, HBx⟩ := hrel
              have hbw : Below w2.heap.size w2 wr := HB2.out.trans (HBx.out.mono hz)
              by_cases hlt : k < ls.length
              · obtain ⟨bb, o, A', c', rfl, hbb, hc, hst⟩ := HL.out.at hlt
                have hc := (hbw.cell (p := ⟨bb, o + k, none⟩) hbb).trans hc
                have hst := hst.below hbw
                have hll := HOK.out.len _ (List.getElem_mem hlt)
                have HN : Hid (rowN (ls.take (k + 1)) m = rowN (ls.take k) m ++ [ls[k].getD m ⟨#[]⟩]) := hide (take_map_snoc _ ls k hlt)
                have hlk2 : (rowN (ls.take k) m).length = k := by unfold rowN; rw [List.length_map, List.length_take]; omega
                obtain ⟨R, hRR⟩ : ∃ R, rowN (ls.take k) m = R := ⟨_, rfl⟩
                rw [hRR] at HR HN hlk2
                obtain ⟨l1, hl⟩ : ∃ l, ls[k] = l := ⟨_, rfl⟩
                rw [hl] at hc hst hll HN
                have HLK2 := hide hlk2
                clear hRR hl hlk2
                have hd4 : (k : Int) < (ls.length : Int) := by omega
                obtain ⟨RA, rc, rfl⟩ := own_slice HR.out
                have hzx := HBx.out.size
                by_cases hml : m < l1.length
                · rw [show l1.getD m ⟨#[]⟩ = l1[m] by simp [List.getD, hml]] at HN
                  obtain ⟨⟨_, A3, c3, e3, _, _, hx3⟩, _⟩ := hst
                  injection e3 with e3 _ _
                  subst e3
                  obtain ⟨b3, o3, rfl, hb3, hj3⟩ := hx3 (by omega)
                  have hc3 : wr.cell? ⟨b3, o3 + m, none⟩ = some (.string l1[m]) := hj3 m _ (by simp [hml])
                  obtain ⟨y, hy⟩ : ∃ y, l1[m] = y := ⟨_, rfl⟩
                  rw [hy] at hc3 HN
                  clear hj3 hx3 hy
                  have hd3 : (m : Int) < (l1.length : Int) := by omega
                  go_wp2_with (at_builtin; refine wpList_app_one rfl _ _ rfl w3.heap.size _ _ rfl HR.out rfl (by have := HLK2.out; omega) hzx ?_)
                  intro A2 c2 w4 ho2 hb2
                  have HR2 := hide ho2
                  have HB4 := hide (HBx.out.trans hb2)
                  rw [← HN.out] at HR2
                  clear ho2 hb2 hc hc3 hbw
                  go_wp2_with fail
                  go_roundw
                  case rel => exact ⟨k + 1, by omega, by go_num, HR2, HB4⟩
                  case measure => simp [intOf]; omega
                · rw [show l1.getD m ⟨#[]⟩ = ⟨#[]⟩ by simp [List.getD, show l1.length ≤ m by omega]] at HN
                  have hd3 : ¬ ((m : Int) < (l1.length : Int)) := by omega
                  go_wp2_with (at_builtin; refine wpList_app_one rfl _ _ rfl w3.heap.size _ _ rfl HR.out rfl (by have := HLK2.out; omega) hzx ?_)
                  intro A2 c2 w4 ho2 hb2
                  have HR2 := hide ho2
                  have HB4 := hide (HBx.out.trans hb2)
                  rw [← HN.out] at HR2
                  clear ho2 hb2 hc hbw hst
                  go_wp2_with fail
                  go_roundw
                  case rel => exact ⟨k + 1, by omega, by go_num, HR2, HB4⟩
                  case measure => simp [intOf]; omega
              · obtain rfl : k = ls.length := by omega
                have hd4 : ¬ ((ls.length : Int) < (ls.length : Int)) := by omega
                rw [List.take_length] at HR
                have HOx : Hid (OwnS 9 wr w2.heap.size (.slice OA D.length oc) D) := hide (own_below HO.out HBx.out)
                have hrow := HOK.out.row m
                have hbt := HOK.out.bt
                have hrl : (rowN ls m).length = ls.length := by unfold rowN; rw [List.length_map]
                obtain ⟨RA, rc, rfl⟩ := own_slice HR.out
                have hst := OwnS.strs HR.out (rowN_sz HOK.out.sz m)
                have HP := hide (alternating_any _ _ bt wr hst hrow hbt (by omega))
                have hzr := HBx.out.size
                have HBB := hide hbw
                obtain ⟨R, hRR⟩ : ∃ R, rowN ls m = R := ⟨_, rfl⟩
                rw [hRR] at HR HP HNX ⊢
                clear hRR hst hrow hrl hbw
                go_wp2_with fail
                refine HP.out.mono ?_
                rintro e w4 ⟨rfl, hb4⟩
                have HO4 := hide (own_below HOx.out hb4)
                have HB4 := hide (HBB.out.trans (hb4.mono HBB.out.size))
                have hz4 := HB4.out.size
                clear HP hb4
                go_wp2_with (at_builtin; refine wpList_app_one rfl _ _ rfl w2.heap.size _ _ rfl HO4.out rfl (by have := HLK.out; omega) hz4 ?_)
                intro A2 c2 w5 ho2 hb2
                have HO2 := hide ho2
                have HB5 := hide (HB4.out.trans hb2)
                rw [← HNX.out] at HO2
                clear ho2 hb2
                go_wp2_with fail
                go_roundw
                case rel => exact ⟨m + 1, by omega, by go_num, HO2, HB5⟩
                case measure => simp [intOf]; omega
          · obtain rfl : m = H := by omega
            have hd2 : ¬ ((m : Int) < (m : Int)) := by omega
            have hbd := HBD.out
            rw [HPL.out, HD.out] at hbd
            have HRB := hide (resultBig_any _ _ wr (OwnS.strs HO.out (fun s hs => by have := hbd.2 s hs; unfold maxLen; omega)) (by have := hbd.1; omega))
            have HRE : Hid (pasteL bt false ls = D) := hide (by rw [HPL.out, HD.out])
            clear hbd
            go_wp2_with fail
            refine HRB.out.mono ?_
            rintro e w4 ⟨rfl, hb4⟩
            have HB4 := hide (HB.out.trans ((HB2.out.trans (hb4.mono hz)).mono HB.out.size))
            clear hb4 HRB
            go_wp2_with fail
            go_ret2
            exact ⟨by rw [HLS.out, HRE.out]; rfl, HB4.out⟩
      · have HPL : Hid (pasteL bt true ls = ls.map (altB bt)) := hide (by unfold pasteL; rfl)
        go_wp2_with fail
        obtain ⟨w2, hw2⟩ : ∃ w2, w2 = wr := ⟨_, rfl⟩
        subst hw2
        go_loopw [14, 63] (fun v i wr => ∃ k : Nat, k ≤ ls.length ∧ i = .int .i64 (k : Int) ∧ Hid (OwnS 9 wr w2.heap.size v ((ls.take k).map (altB bt))) ∧ Hid (Below w2.heap.size w2 wr)) (fun _ i _ => ls.length - (intOf i).toNat)
        case atStart => exact ⟨0, by omega, rfl, World.ownsRow_nil _ _ _ _, Below.refl _ _⟩
        case round =>
          obtain ⟨k, hk, rfl, HO, HB2⟩ := hrel
          obtain ⟨OA, oc, rfl⟩ := own_slice HO.out
          have hz := HB2.out.size
          by_cases hlt : k < ls.length
          · obtain ⟨bb, o, A', c', rfl, hbb, hc, hst⟩ := HL.out.at hlt
            have hc := (HB2.out.cell (p := ⟨bb, o + k, none⟩) hbb).trans hc
            have hst := hst.below HB2.out
            have hm := List.getElem_mem hlt
            have hal := HOK.out.alt _ hm
            have hll := HOK.out.len _ hm
            have hbt := HOK.out.bt
            have HN := hide (take_map_snoc (altB bt) ls k hlt)
            have hlk : ((ls.take k).map (altB bt)).length = k := by rw [List.length_map, List.length_take]; omega
            obtain ⟨D, hD⟩ : ∃ D, (ls.take k).map (altB bt) = D := ⟨_, rfl⟩
            rw [hD] at HO HN hlk ⊢
            obtain ⟨l1, hl⟩ : ∃ l, ls[k] = l := ⟨_, rfl⟩
            rw [hl] at hc hst hal hll HN
            have HLK := hide hlk
            clear hD hl hm hlk
            have hd2 : (k : Int) < (ls.length : Int) := by omega
            have HP := hide (alternating_any _ _ bt wr hst hal hbt (by omega))
            go_wp2_with fail
            refine HP.out.mono ?_
            rintro e w4 ⟨rfl, hb4⟩
            have HO4 := hide (own_below HO.out hb4)
            have HB4 := hide (HB2.out.trans (hb4.mono hz))
            have hz4 := HB4.out.size
            clear HP hb4 hc hst
            go_wp2_with (at_builtin; refine wpList_app_one rfl _ _ rfl w2.heap.size _ _ rfl HO4.out rfl (by have := HLK.out; omega) hz4 ?_)
            intro A2 c2 w5 ho2 hb2
            have HO2 := hide ho2
            have HB5 := hide (HB4.out.trans hb2)
            rw [← HN.out] at HO2
            clear ho2 hb2
            go_wp2_with fail
            go_roundw
            case rel => exact ⟨k + 1, by omega, by go_num, HO2, HB5⟩
            case measure => simp [intOf]; omega
          · obtain rfl : k = ls.length := by omega
            have hd2 : ¬ ((ls.length : Int) < (ls.length : Int)) := by omega
            have hbd := HBD.out
            rw [HPL.out] at hbd
            rw [List.take_length] at HO ⊢
            obtain ⟨D, hD⟩ : ∃ D, ls.map (altB bt) = D := ⟨_, rfl⟩
            rw [hD] at hbd HO ⊢
            have HD := hide hD
            clear hD
            have HRB := hide (resultBig_any _ _ wr (OwnS.strs HO.out (fun s hs => by have := hbd.2 s hs; unfold maxLen; omega)) (by have := hbd.1; omega))
            clear hbd
            go_wp2_with fail
            refine HRB.out.mono ?_
            rintro e w4 ⟨rfl, hb4⟩
            have HB4 := hide (HB.out.trans ((HB2.out.trans (hb4.mono hz)).mono HB.out.size))
            clear hb4 HRB
            go_wp2_with fail
            go_ret2
            exact ⟨by rw [HLS.out, HPL.out, HD.out]; rfl, HB4.out⟩
end Go.Proofs.YtkikbejpgfhfoaaDoor
