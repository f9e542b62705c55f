/- The reference's Pasted. -/
import Derived.Test.YtkikbejpgfhfoaaDoorPasteR
import Derived.Test.YtkikbejpgfhfoaaDoorApp1
set_option linter.unusedVariables false
set_option linter.unusedSimpArgs false
namespace Go.Pw
open Go.RowKit
/-- texts side by side are small enough -/
structure PstOk (bt : ByteArray) (ls : List (List ByteArray)) : Prop where
  n : ls.length ≤ 1000
  len : ∀ l ∈ ls, l.length ≤ 1000000
  alt : ∀ l ∈ ls, (altP bt l l.length).length ≤ 1000000000000
  row : ∀ n, (altP bt (rowN ls n) (rowN ls n).length).length ≤ 1000000000000
  bt : bt.size ≤ 1000000
  sz : ∀ l ∈ ls, ∀ s ∈ l, s.size ≤ maxLen
theorem StrsL.at {w : World} {A : Option Addr} {n cap : Nat} {ls : List (List ByteArray)} {k : Nat} (h : StrsL w (.slice A n cap) ls) (hk : k < ls.length) :
    ∃ b o A' c', A = some ⟨b, o, none⟩ ∧ b < w.heap.size ∧ w.cell? ⟨b, o + k, none⟩ = some (.slice A' ls[k].length c') ∧ Strs w (.slice A' ls[k].length c') ls[k] := by
  obtain ⟨vs, hl, ⟨_, A0, c0, e, _, _, hx⟩, hel⟩ := h
  injection e with e1 e2 e3
  subst e1
  obtain ⟨b, o, rfl, hb, hj⟩ := hx (by omega)
  have hv : vs[k]? = some (vs[k]'(by omega)) := List.getElem?_eq_getElem _
  have hs := hel k _ _ hv (List.getElem?_eq_getElem hk)
  have hs2 := hs
  obtain ⟨⟨_, A', c', e', _⟩, _⟩ := hs2
  rw [e'] at hv hs
  exact ⟨b, o, A', c', rfl, hb, hj k _ hv, hs⟩
theorem rowN_sz {ls : List (List ByteArray)} {M : Nat} (h : ∀ l ∈ ls, ∀ s ∈ l, s.size ≤ M) (n : Nat) : ∀ s ∈ rowN ls n, s.size ≤ M := by
  intro s hs
  obtain ⟨l, hl, rfl⟩ := List.mem_map.1 hs
  by_cases hn : n < l.length
  · rw [show l.getD n ⟨#[]⟩ = l[n] by simp [List.getD, hn]]
    exact h l hl _ (List.getElem_mem hn)
  · rw [show l.getD n ⟨#[]⟩ = ⟨#[]⟩ by simp [List.getD, show l.length ≤ n by omega]]
    exact Nat.zero_le _
theorem take_map_snoc {α β : Type} (f : α → β) (l : List α) (k : Nat) (h : k < l.length) : (l.take (k + 1)).map f = (l.take k).map f ++ [f l[k]] := by
  rw [List.take_succ_eq_append_getElem h, List.map_append]; rfl
end Go.Pw
namespace Go.Proofs.YtkikbejpgfhfoaaDoor
open Go.RowKit Go.Pw
set_option maxHeartbeats 2000000 in
set_option maxRecDepth 100000 in
theorem pastedSerial_any (A : Option Addr) (cap : Nat) (ls : List (List ByteArray)) (bt : ByteArray) (w : World) (h : StrsL w (.slice A ls.length cap) ls) (hok : PstOk bt ls) :
    Calls Tryd.prog 49 #[.slice A ls.length cap, .string bt, .bool true] w fun e w' => ∃ v, e = .returned v ∧ OwnS 9 w' (w.heap.size + 1) v (ls.map (altB bt)) ∧ Below w.heap.size w w' := by
  have HL := hide h
  have HOK := hide hok
  have hn := hok.n
  clear h hok
  go_enter Tryd.func49, Tryd.ntmps49
  go_wp2_with fail
  go_loopw [7, 21] (fun v i wr => ∃ k : Nat, k ≤ ls.length ∧ i = .int .i64 (k : Int) ∧ Hid (OwnS 9 wr (w.heap.size + 1) v ((ls.take k).map (altB bt))) ∧ Hid (Below (w.heap.size + 1) (w.alloc (.cells #[.string bt] 9)) wr)) (fun _ i _ => ls.length - (intOf i).toNat)
  case atStart => exact ⟨0, by omega, rfl, World.ownsRow_nil _ _ _ _, Below.refl _ _⟩
  case round =>
    obtain ⟨k, hk, rfl, HO, HB⟩ := hrel
    have hbw : Below w.heap.size w wr := ((Below.refl w.heap.size w).alloc (Nat.le_refl _) _).trans (HB.out.mono (by omega))
    by_cases hlt : k < ls.length
    · obtain ⟨bb, o, A', c', rfl, hbb, hc, hst⟩ := HL.out.at hlt
      have hc := (hbw.cell (p := ⟨bb, o + k, none⟩) hbb).trans hc
      have hst := hst.below hbw
      have hcb : wr.cell? ⟨w.heap.size, 0, none⟩ = some (.string bt) := (HB.out.cell (p := ⟨w.heap.size, 0, none⟩) (Nat.lt_succ_self _)).trans (by rw [World.cell?_alloc_new]; rfl)
      have hm := List.getElem_mem hlt
      have hal := HOK.out.alt _ hm
      have hll := HOK.out.len _ hm
      have hbt := HOK.out.bt
      have hz := HB.out.size
      simp at hz
      have HN := hide (take_map_snoc (altB bt) ls k hlt)
      have hlk : ((ls.take k).map (altB bt)).length = k := by rw [List.length_map, List.length_take]; omega
      obtain ⟨D, hD⟩ : ∃ D, (ls.take k).map (altB bt) = D := ⟨_, rfl⟩
      rw [hD] at HO HN hlk
      obtain ⟨l, hl⟩ : ∃ l, ls[k] = l := ⟨_, rfl⟩
      rw [hl] at hc hst hal hll HN
      have HLK := hide hlk
      clear hD hl hm hlk
      have hd : (k : Int) < (ls.length : Int) := by omega
      obtain ⟨OA, oc, rfl⟩ := own_slice HO.out
      have HP := hide (fun W hW hC => put_any (.slice A' l.length c') l bt w.heap.size W hW hC hal hbt (by omega))
      go_wp2_with fail
      refine (HP.out wr hst hcb).mono ?_
      rintro e w' ⟨rfl, rfl⟩
      go_wp2_with (at_builtin; refine wpList_app_one rfl _ _ rfl (w.heap.size + 1) _ _ rfl HO.out rfl (by have := HLK.out; omega) (by omega) ?_)
      intro A2 c2 w2 ho2 hb2
      have HO2 := hide ho2
      have HB2 := hide (HB.out.trans hb2)
      rw [← HN.out] at HO2
      clear ho2 hb2 hc hst hcb hbw
      go_wp2_with fail
      go_roundw
      case rel => exact ⟨k + 1, by omega, by go_num, HO2, HB2⟩
      case measure => simp [intOf]; omega
    · obtain rfl : k = ls.length := by omega
      have hd : ¬ ((ls.length : Int) < (ls.length : Int)) := by omega
      rw [List.take_length] at HO
      go_wp2_with fail
      go_ret
      exact ⟨_, rfl, HO.out, hbw⟩
set_option maxHeartbeats 4000000 in
set_option maxRecDepth 100000 in
theorem pastedSide_any (A : Option Addr) (cap : Nat) (ls : List (List ByteArray)) (bt : ByteArray) (w : World) (h : StrsL w (.slice A ls.length cap) ls) (hok : PstOk bt ls) (hh : highN ls ≤ 1000000) :
    Calls Tryd.prog 49 #[.slice A ls.length cap, .string bt, .bool false] w fun e w' => ∃ v, e = .returned v ∧ OwnS 9 w' (w.heap.size + 1) v ((List.range (highN ls)).map fun n => altB bt (rowN ls n)) ∧ Below w.heap.size w w' := by
  have HL := hide h
  have HOK := hide hok
  have hn := hok.n
  have HH := hide (highN_any ls)
  obtain ⟨H, hH⟩ : ∃ H, highN ls = H := ⟨_, rfl⟩
  rw [hH] at hh HH ⊢
  clear h hok hH
  go_enter Tryd.func49, Tryd.ntmps49
  go_wp2_with fail
  go_loopw [7, 11] (fun v i wr => ∃ m : Nat, m ≤ H ∧ i = .int .i64 (m : Int) ∧ Hid (OwnS 9 wr (w.heap.size + 1) v ((List.range m).map fun n => altB bt (rowN ls n))) ∧ Hid (Below (w.heap.size + 1) (w.alloc (.cells #[.string bt] 9)) wr)) (fun _ i _ => H - (intOf i).toNat)
  case atStart => exact ⟨0, by omega, rfl, World.ownsRow_nil _ _ _ _, Below.refl _ _⟩
  case round =>
    obtain ⟨m, hm, rfl, HO, HB⟩ := hrel
    obtain ⟨OA, oc, rfl⟩ := own_slice HO.out
    have hlk : ((List.range m).map fun n => altB bt (rowN ls n)).length = m := by simp
    have HNX : Hid ((List.range (m + 1)).map (fun n => altB bt (rowN ls n)) = (List.range m).map (fun n => altB bt (rowN ls n)) ++ [altB bt (rowN ls m)]) := hide (by rw [List.range_succ, List.map_append]; rfl)
    obtain ⟨D, hD⟩ : ∃ D, (List.range m).map (fun n => altB bt (rowN ls n)) = D := ⟨_, rfl⟩
    rw [hD] at HO HNX hlk ⊢
    have HLK := hide hlk
    have HD := hide hD
    clear hD hlk
    have hz := HB.out.size
    simp at hz
    go_wp2_with fail
    obtain ⟨w1, hw1⟩ : ∃ w1, w1 = wr := ⟨_, rfl⟩
    subst hw1
    go_loopw [12, 13, 37] (fun v sm i wr => ∃ k : Nat, k ≤ ls.length ∧ i = .int .i64 (k : Int) ∧ sm = .bool ((ls.take k).any fun l => decide (m < l.length)) ∧ Hid (OwnS 9 wr w1.heap.size v (rowN (ls.take k) m)) ∧ Hid (Below w1.heap.size w1 wr)) (fun _ _ i _ => ls.length - (intOf i).toNat)
    case atStart => exact ⟨0, by omega, rfl, rfl, World.ownsRow_nil _ _ _ _, Below.refl _ _⟩
    case round =>
      obtain ⟨k, hk, rfl, rfl, HR, HBx⟩ := hrel
      have hbw : Below w.heap.size w wr := (((Below.refl w.heap.size w).alloc (Nat.le_refl _) _).trans (HB.out.mono (by omega))).trans (HBx.out.mono (by omega))
      by_cases hlt : k < ls.length
      · obtain ⟨bb, o, A', c', rfl, hbb, hc, hst⟩ := HL.out.at hlt
        have hc := (hbw.cell (p := ⟨bb, o + k, none⟩) hbb).trans hc
        have hst := hst.below hbw
        have hll := HOK.out.len _ (List.getElem_mem hlt)
        have HN : Hid (rowN (ls.take (k + 1)) m = rowN (ls.take k) m ++ [ls[k].getD m ⟨#[]⟩]) := hide (take_map_snoc _ ls k hlt)
        have HA : Hid (((ls.take (k + 1)).any fun l => decide (m < l.length)) = (((ls.take k).any fun l => decide (m < l.length)) || decide (m < ls[k].length))) := hide (by rw [List.take_succ_eq_append_getElem hlt, List.any_append]; simp)
        have hlk2 : (rowN (ls.take k) m).length = k := by unfold rowN; rw [List.length_map, List.length_take]; omega
        obtain ⟨R, hRR⟩ : ∃ R, rowN (ls.take k) m = R := ⟨_, rfl⟩
        rw [hRR] at HR HN hlk2
        obtain ⟨s0, hs0⟩ : ∃ s0, ((ls.take k).any fun l => decide (m < l.length)) = s0 := ⟨_, rfl⟩
        rw [hs0] at HA ⊢
        obtain ⟨l, hl⟩ : ∃ l, ls[k] = l := ⟨_, rfl⟩
        rw [hl] at hc hst hll HN HA
        have HLK2 := hide hlk2
        clear hRR hs0 hl hlk2
        have hd : (k : Int) < (ls.length : Int) := by omega
        obtain ⟨RA, rc, rfl⟩ := own_slice HR.out
        by_cases hml : m < l.length
        · have hml' : decide (m < l.length) = true := by simpa using hml
          rw [show l.getD m ⟨#[]⟩ = l[m] by simp [List.getD, hml]] at HN
          rw [hml', Bool.or_true] at HA
          obtain ⟨⟨_, A3, c3, e3, _, _, hx3⟩, _⟩ := hst
          injection e3 with e3 _ _
          subst e3
          obtain ⟨b3, o3, rfl, hb3, hj3⟩ := hx3 (by omega)
          have hc3 : wr.cell? ⟨b3, o3 + m, none⟩ = some (.string l[m]) := hj3 m _ (by simp [hml])
          obtain ⟨y, hy⟩ : ∃ y, l[m] = y := ⟨_, rfl⟩
          rw [hy] at hc3 HN
          clear hj3 hx3 hy hml'
          have hd3 : (m : Int) < (l.length : Int) := by omega
          have hzx := HBx.out.size
          go_wp2_with (at_builtin; refine wpList_app_one rfl _ _ rfl w1.heap.size _ _ rfl HR.out rfl (by have := HLK2.out; omega) hzx ?_)
          intro A2 c2 w2 ho2 hb2
          have HR2 := hide ho2
          have HB2 := hide (HBx.out.trans hb2)
          rw [← HN.out] at HR2
          clear ho2 hb2 hc hc3 hbw
          go_wp2_with fail
          go_roundw
          case rel => exact ⟨k + 1, by omega, by go_num, by rw [HA.out], HR2, HB2⟩
          case measure => simp [intOf]; omega
        · have hml' : decide (m < l.length) = false := by simpa using hml
          rw [show l.getD m ⟨#[]⟩ = ⟨#[]⟩ by simp [List.getD, show l.length ≤ m by omega]] at HN
          rw [hml', Bool.or_false] at HA
          clear hml'
          have hd3 : ¬ ((m : Int) < (l.length : Int)) := by omega
          have hzx := HBx.out.size
          go_wp2_with (at_builtin; refine wpList_app_one rfl _ _ rfl w1.heap.size _ _ rfl HR.out rfl (by have := HLK2.out; omega) hzx ?_)
          intro A2 c2 w2 ho2 hb2
          have HR2 := hide ho2
          have HB2 := hide (HBx.out.trans hb2)
          rw [← HN.out] at HR2
          clear ho2 hb2 hc hbw hst
          go_wp2_with fail
          go_roundw
          case rel => exact ⟨k + 1, by omega, by go_num, by rw [HA.out], HR2, HB2⟩
          case measure => simp [intOf]; omega
      · obtain rfl : k = ls.length := by omega
        have hd : ¬ ((ls.length : Int) < (ls.length : Int)) := by omega
        rw [List.take_length] at HR ⊢
        have HOx : Hid (OwnS 9 wr (w.heap.size + 1) (.slice OA D.length oc) D) := hide (own_below HO.out HBx.out)
        have HBw := hide hbw
        rw [HH.out m]
        by_cases hmH : m < H
        · have hmH' : decide (m < H) = true := by simpa using hmH
          rw [hmH']
          have hrow := HOK.out.row m
          have hbt := HOK.out.bt
          have hrl : (rowN ls m).length = ls.length := by unfold rowN; rw [List.length_map]
          obtain ⟨RA, rc, rfl⟩ := own_slice HR.out
          have hst := OwnS.strs HR.out (rowN_sz HOK.out.sz m)
          have hcb : wr.cell? ⟨w.heap.size, 0, none⟩ = some (.string bt) := (HBx.out.cell (p := ⟨w.heap.size, 0, none⟩) (by show w.heap.size < _; omega)).trans ((HB.out.cell (p := ⟨w.heap.size, 0, none⟩) (Nat.lt_succ_self _)).trans (by rw [World.cell?_alloc_new]; rfl))
          have HP := hide (put_any _ _ bt w.heap.size wr hst hcb hrow hbt (by omega))
          have hzr := HBx.out.size
          obtain ⟨R, hRR⟩ : ∃ R, rowN ls m = R := ⟨_, rfl⟩
          rw [hRR] at HR HP HNX ⊢
          clear hRR hst hcb hrow hrl hmH' hbw
          go_wp2_with fail
          refine HP.out.mono ?_
          rintro e w' ⟨rfl, rfl⟩
          clear HP
          go_wp2_with (at_builtin; refine wpList_app_one rfl _ _ rfl (w.heap.size + 1) _ _ rfl HOx.out rfl (by have := HLK.out; omega) (by omega) ?_)
          intro A2 c2 w2 ho2 hb2
          have HO2 := hide ho2
          have HB2 := hide ((HB.out.trans (HBx.out.mono (by omega))).trans hb2)
          rw [← HNX.out] at HO2
          clear ho2 hb2
          go_wp2_with fail
          go_roundw
          case rel => exact ⟨m + 1, by omega, by go_num, HO2, HB2⟩
          case measure => simp [intOf]; omega
        · have hmH' : decide (m < H) = false := by simpa using hmH
          rw [hmH']
          obtain rfl : m = H := by omega
          go_wp2_with fail
          go_ret
          exact ⟨_, rfl, by rw [HD.out]; exact HOx.out, hbw⟩
end Go.Proofs.YtkikbejpgfhfoaaDoor
