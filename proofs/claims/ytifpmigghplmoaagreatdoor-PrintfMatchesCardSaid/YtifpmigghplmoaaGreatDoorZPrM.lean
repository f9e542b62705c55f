/- Printf: the law. -/
import Derived.Test.YtifpmigghplmoaaGreatDoorZPfY
import Derived.Test.YtifpmigghplmoaaGreatDoorZPfRl
import Derived.Test.YtifpmigghplmoaaGreatDoorZPrH
import Derived.Test.YtifpmigghplmoaaGreatDoorShelf5
/- PfZ -/
set_option linter.unusedVariables false
set_option linter.unusedSimpArgs false
namespace Go.Pw
open Go.RowKit
def bigP (x : ByteArray) : Bool := decide (65536 < x.size)
theorem lopP_err (ds : List Dv) : ∀ (n : Nat) (gs : List (List UInt8)) (out : List UInt8), (lopP ds n gs out).2 ≠ 0 → (lopP ds n gs out).1 = []
  | 0, gs, out, h => by simp [lopP] at h
  | n + 1, gs, out, h => by
    rw [lopP] at h ⊢
    cases hr : rndP ds gs out with
    | inl e => simp
    | inr x =>
      obtain ⟨o2, g2⟩ := x
      rw [hr] at h
      simp only at h ⊢
      by_cases hc : takP ds = true ∧ g2 ≠ []
      · rw [if_pos hc] at h ⊢; exact lopP_err ds n g2 o2 h
      · rw [if_neg hc] at h; simp at h
theorem pfOut_err (bs : List UInt8) (gs : List (List UInt8)) (h : (pfOut bs gs).2 ≠ 0) : (pfOut bs gs).1 = [] := by
  unfold pfOut at h ⊢
  cases hp : pfP bs with
  | none => simp
  | some ds => rw [hp] at h; simp only at h ⊢; exact lopP_err ds _ _ _ h
end Go.Pw
namespace Go.Proofs.YtifpmigghplmoaaGreatDoor
open Go.RowKit Go.Pw Go.Shelf
theorem briefP_any (s : ByteArray) (w : World) : Calls Tryz.prog 14 #[.string s] w fun e w' => e = .returned (.bool (decide (s.size ≤ 3000))) ∧ w' = w := by
  go_enter Tryz.func14, Tryz.ntmps14
  go_wp2_with fail
  go_ret
  exact ⟨ret_bool (decide_eq_decide.2 (by omega)), rfl⟩
theorem bigClosure_any (x : ByteArray) (w : World) : Calls Tryz.prog 12 #[.string x] w fun e w' => e = .returned (.bool (bigP x)) ∧ w' = w := by
  unfold bigP
  go_enter Tryz.func12, Tryz.ntmps12
  go_wp2_with fail
  go_ret
  exact ⟨ret_bool (decide_eq_decide.2 (by omega)), rfl⟩
set_option maxHeartbeats 4000000 in
set_option maxRecDepth 100000 in
theorem indexBig_any (v : Value) (l : List ByteArray) (w : World) (h : Strs w v l) :
    Calls Tryz.prog 37 #[v, .func (.func 12) #[] #[]] w fun e w' => (∃ n : Int, e = .returned (.int .i64 n) ∧ (decide (0 ≤ n)) = l.any bigP) ∧ Below w.heap.size w w' := by
  obtain ⟨⟨_, A, cap, rfl, hcap, hmax, hx⟩, hsz⟩ := h
  unfold maxLen at hmax
  have HX := hide hx
  clear hx hsz
  go_enter Tryz.func37, Tryz.ntmps37
  go_wp2_with fail
  go_loopw [8] (fun i wr => ∃ k : Nat, k ≤ l.length ∧ i = .int .i64 (k : Int) ∧ Hid ((l.take k).any bigP = false) ∧ Hid (Below w.heap.size w wr)) (fun i _ => l.length - (intOf i).toNat)
  case atStart => exact ⟨0, by omega, rfl, hide rfl, hide (Below.refl _ _)⟩
  case round =>
    obtain ⟨k, hk, rfl, HK, HB⟩ := hrel
    by_cases hlt : k < l.length
    · obtain ⟨bb, o, rfl, hbb, hj⟩ := HX.out (by omega)
      have hc : wr.cell? ⟨bb, o + k, none⟩ = some (.string l[k]) := (HB.out.cell (p := ⟨bb, o + k, none⟩) hbb).trans (hj k _ (by simp [hlt]))
      have HT : Hid ((l.take (k + 1)).any bigP = bigP l[k]) := hide (by rw [List.take_succ_eq_append_getElem hlt, List.any_append, HK.out]; simp)
      have HA : Hid (bigP l[k] = true → l.any bigP = true) := hide (fun e => List.any_eq_true.2 ⟨_, List.getElem_mem hlt, e⟩)
      clear hj
      obtain ⟨x, hxx⟩ : ∃ x, l[k] = x := ⟨_, rfl⟩
      rw [hxx] at hc HT HA
      clear hxx
      go_wp2_with fail
      refine (bigClosure_any x _).mono ?_
      rintro e w2 ⟨rfl, rfl⟩
      clear hc
      cases hbig : bigP x
      · rw [hbig] at HT
        go_wp2_with fail
        go_roundw
        case rel => exact ⟨k + 1, by omega, by go_num, HT, HB⟩
        case measure => simp [intOf]; omega
      · have HQ := hide (HA.out hbig)
        clear hbig HA
        go_wp2_with fail
        go_ret
        exact ⟨⟨_, rfl, by rw [HQ.out]; simp⟩, HB.out⟩
    · obtain rfl : k = l.length := by omega
      rw [List.take_length] at HK
      go_wp2_with fail
      go_ret
      exact ⟨⟨_, rfl, by rw [HK.out]; rfl⟩, HB.out⟩
theorem containsBig_any (v : Value) (l : List ByteArray) (w : World) (h : Strs w v l) :
    Calls Tryz.prog 11 #[v, .func (.func 12) #[] #[]] w fun e w' => e = .returned (.bool (l.any bigP)) ∧ Below w.heap.size w w' := by
  have HI := hide (indexBig_any v l w h)
  clear h
  go_enter Tryz.func11, Tryz.ntmps11
  go_wp2_with fail
  refine HI.out.mono ?_
  rintro e w1 ⟨⟨n, rfl, hn⟩, hb⟩
  have HN := hide hn
  have HB := hide hb
  clear hn hb
  go_wp2_with fail
  go_ret
  exact ⟨by rw [HN.out]; rfl, HB.out⟩
/-- the program at what is too large -/
def bigAll (s : ByteArray) (l : List ByteArray) : Prop := 8192 < s.size ∨ 64 < l.length ∨ l.any bigP = true
set_option maxHeartbeats 8000000 in
set_option maxRecDepth 100000 in
theorem printf_big (s : ByteArray) (A : Option Addr) (l : List ByteArray) (cap : Nat) (w : World) (hst : Strs w (.slice A l.length cap) l) (hbig : bigAll s l) :
    Calls Tryz.prog 10 #[.string s, .slice A l.length cap] w fun e w' => e = .returned (.tuple #[.string ⟨#[]⟩, .int .i64 2]) ∧ w' = w := by
  have HST := hide hst
  clear hst
  by_cases h1 : 8192 < s.size
  · have g1 : (8192 : Int) < (s.size : Int) := by omega
    go_enter Tryz.func10, Tryz.ntmps10
    go_wp2_with fail
    go_ret2
    exact ⟨rfl, rfl⟩
  · have g1 : ¬ (8192 : Int) < (s.size : Int) := by omega
    by_cases h2 : 64 < l.length
    · have g2 : (64 : Int) < (l.length : Int) := by omega
      go_enter Tryz.func10, Tryz.ntmps10
      go_wp2_with fail
      go_ret2
      exact ⟨rfl, rfl⟩
    · have g2 : ¬ (64 : Int) < (l.length : Int) := by omega
      have HA : Hid (l.any bigP = true) := hide (by rcases hbig with h | h | h; · omega
                                                    · omega
                                                    · exact h)
      clear hbig
      go_enter Tryz.func10, Tryz.ntmps10
      go_wp2_with fail
      go_loopw [28] (fun i wr => ∃ k : Nat, i = .int .i64 (k : Int) ∧ k ≤ l.length ∧ Hid ((l.take k).any bigP = false) ∧ Hid (wr = w)) (fun i _ => l.length - (intOf i).toNat)
      case atStart => exact ⟨0, rfl, by omega, hide rfl, hide rfl⟩
      case round =>
        obtain ⟨k, rfl, hk, HK, HWR⟩ := hrel
        by_cases hlt : k < l.length
        · have hd : (k : Int) < (l.length : Int) := by omega
          have hget := List.getElem?_eq_getElem hlt
          have HT : Hid ((l.take (k + 1)).any bigP = bigP l[k]) := hide (by rw [List.take_succ_eq_append_getElem hlt, List.any_append, HK.out]; simp)
          obtain ⟨x, hx⟩ : ∃ x, l[k] = x := ⟨_, rfl⟩
          rw [hx] at hget HT
          obtain ⟨b, o, rfl, hb, hc⟩ := strs_at HST.out hget
          rw [← HWR.out] at hc
          clear hx hget
          by_cases hxb : 65536 < x.size
          · have hx1 : (65536 : Int) < (x.size : Int) := by omega
            clear hxb
            go_wp2_with fail
            go_ret2
            exact ⟨rfl, HWR.out⟩
          · have hx1 : ¬ (65536 : Int) < (x.size : Int) := by omega
            have HT2 : Hid ((l.take (k + 1)).any bigP = false) := hide (by rw [HT.out]; exact decide_eq_false hxb)
            clear hxb
            go_wp2_with fail
            go_roundw
            case rel => exact ⟨k + 1, by first | go_num | (simp; omega), by omega, HT2, HWR⟩
            case measure => simp [intOf]; omega
        · exfalso
          have h9 := HK.out
          rw [List.take_of_length_le (by omega), HA.out] at h9
          cases h9
end Go.Proofs.YtifpmigghplmoaaGreatDoor

/- PfZz -/
set_option linter.unusedVariables false
set_option linter.unusedSimpArgs false
namespace Go.Proofs.YtifpmigghplmoaaGreatDoor
open Go.RowKit Go.Pw Go.Shelf
theorem jt_bound : ∀ r : List (List UInt8), (∀ x ∈ r, x.length ≤ 65536) → (Lib.joinTail [] r).length ≤ 65536 * r.length
  | [], _ => by simp [Lib.joinTail]
  | x :: r, h => by
    have h1 := h x (by simp)
    have ih := jt_bound r (fun z hz => h z (List.mem_cons_of_mem _ hz))
    unfold Lib.joinTail at ih ⊢
    rw [List.map_cons, List.flatten_cons, List.length_append, List.nil_append, List.length_cons]
    omega
theorem join_bound (ls : List (List UInt8)) (h : ∀ x ∈ ls, x.length ≤ 65536) : (Lib.join ls []).length ≤ 65536 * ls.length := by
  cases ls with
  | nil => rw [Lib.join_nil]; simp
  | cons x r =>
    have h1 := h x (by simp)
    have h2 := jt_bound r (fun z hz => h z (List.mem_cons_of_mem _ hz))
    rw [Lib.join_cons, List.length_append, List.length_cons]
    omega
theorem joinP_any (A : Option Addr) (l : List ByteArray) (cap : Nat) (w : World) (hst : Strs w (.slice A l.length cap) l) (hl : l.length ≤ 64) (hz : ∀ x ∈ l, x.size ≤ 65536) :
    Calls Tryz.prog 15 #[.slice A l.length cap, .string ⟨#[]⟩] w fun e w' => (∃ q, e = .returned (.string q)) ∧ Below w.heap.size w w' := by
  cases l with
  | nil =>
    refine (Tryz.strings_Join_none A cap ⟨#[]⟩ w).mono ?_
    rintro e w' ⟨rfl, rfl⟩
    exact ⟨⟨_, rfl⟩, Below.refl _ _⟩
  | cons x r =>
    obtain ⟨b, o, rfl, hb, -⟩ := strs_head hst
    have hcap : (x :: r).length ≤ cap := by obtain ⟨⟨_, A', cap', e, h, _⟩, _⟩ := hst; injection e with _ _ e3; subst e3; exact h
    refine (Tryz.strings_Join b o cap (x :: r) ⟨#[]⟩ w (fun j y hy => ?_) hb (by omega) hcap ?_).mono ?_
    · obtain ⟨b', o', e, _, h⟩ := strs_at hst hy
      injection e with e
      injection e with e1 e2 e3
      subst e1 e2
      exact h
    · have h9 := join_bound ((x :: r).map (·.data.toList)) (fun z hz2 => by
        obtain ⟨y, hy, rfl⟩ := List.mem_map.1 hz2
        show y.data.toList.length ≤ 65536
        rw [len_size]; exact hz y hy)
      have e0 : (⟨#[]⟩ : ByteArray).data.toList = [] := rfl
      rw [e0]
      rw [List.length_map] at h9
      omega
    · rintro e w' ⟨rfl, hb⟩
      exact ⟨⟨_, rfl⟩, hb⟩
set_option maxHeartbeats 16000000 in
set_option maxRecDepth 100000 in
theorem printfMatches_any (s : ByteArray) (v : Value) (l : List ByteArray) (w : World) (hst0 : Strs w v l) (hE : ErrT w) (hT : PowTab w) (hZ : TzT w) :
    Calls Tryz.prog 5 #[.string s, v] w fun e w' => e = .returned (.bool true) ∧ Below w.heap.size w w' := by
  obtain ⟨A, cap, rfl⟩ : ∃ A cap, v = .slice A l.length cap := by obtain ⟨⟨_, A, cap, h, _⟩, _⟩ := hst0; exact ⟨A, cap, h⟩
  have HST := hide hst0
  by_cases hbig : bigAll s l
  · have HP := hide (printf_big s A l cap w hst0 hbig)
    have HCF := hide (containsBig_any _ l w hst0)
    have hcs : ((8192 : Int) < (s.size : Int)) ∨ (¬ (8192 : Int) < (s.size : Int) ∧ (64 : Int) < (l.length : Int)) ∨ (¬ (8192 : Int) < (s.size : Int) ∧ ¬ (64 : Int) < (l.length : Int) ∧ l.any bigP = true) := by
      unfold bigAll at hbig
      by_cases h1 : 8192 < s.size
      · exact Or.inl (by omega)
      · by_cases h2 : 64 < l.length
        · exact Or.inr (Or.inl ⟨by omega, by omega⟩)
        · refine Or.inr (Or.inr ⟨by omega, by omega, ?_⟩)
          rcases hbig with h | h | h
          · omega
          · omega
          · exact h
    clear hst0 hE hT hZ hbig
    go_enter Tryz.func5, Tryz.ntmps5
    go_wp2_with fail
    refine HP.out.mono ?_
    rintro e w1 ⟨rfl, hw1⟩
    have hw1' := hw1.symm
    clear hw1
    subst hw1'
    rcases hcs with g1 | ⟨g1, g2⟩ | ⟨g1, g2, g3⟩
    · go_wp2_with fail
      refine (sorts_any _).mono ?_
      rintro e w3 ⟨rfl, hb3⟩
      have HB3 := hide hb3
      clear hb3
      go_wp2_with fail
      refine (outcome_bad _ 2 _ (by decide)).mono ?_
      rintro e w4 ⟨rfl, rfl⟩
      go_wp2_with fail
      go_ret
      exact ⟨rfl, HB3.out⟩
    · go_wp2_with fail
      refine (sorts_any _).mono ?_
      rintro e w3 ⟨rfl, hb3⟩
      have HB3 := hide hb3
      clear hb3
      go_wp2_with fail
      refine (outcome_bad _ 2 _ (by decide)).mono ?_
      rintro e w4 ⟨rfl, rfl⟩
      go_wp2_with fail
      go_ret
      exact ⟨rfl, HB3.out⟩
    · rw [g3] at HCF
      clear g3
      go_wp2_with fail
      refine HCF.out.mono ?_
      rintro e w2 ⟨rfl, hb2⟩
      have HB2 := hide hb2
      clear hb2
      go_wp2_with fail
      refine (sorts_any _).mono ?_
      rintro e w3 ⟨rfl, hb3⟩
      have HB3 := hide (HB2.out.trans (hb3.mono HB2.out.size))
      clear hb3
      go_wp2_with fail
      refine (outcome_bad _ 2 _ (by decide)).mono ?_
      rintro e w4 ⟨rfl, rfl⟩
      go_wp2_with fail
      go_ret
      exact ⟨rfl, HB3.out⟩
  · have hb9 : s.size ≤ 8192 ∧ l.length ≤ 64 ∧ l.any bigP = false := by
      unfold bigAll at hbig
      simp only [not_or] at hbig
      refine ⟨by omega, by omega, ?_⟩
      cases h : l.any bigP with
      | false => rfl
      | true => exact absurd h hbig.2.2
    obtain ⟨hs, hl, ha⟩ := hb9
    have hz : ∀ x ∈ l, x.size ≤ 65536 := fun x hx => by
      have h9 := List.any_eq_false.1 ha x hx
      unfold bigP at h9
      simpa using h9
    have HP := hide (printf_good s A l cap w hs hst0 hl hz hE hT hZ)
    have HPR := hide (fun W (hb : Below w.heap.size w W) => printed_any s A l cap W hs (hst0.below hb) hl hz)
    have HJ := hide (fun W (hb : Below w.heap.size w W) => joinP_any A l cap W (hst0.below hb) hl hz)
    have HCF := hide (fun W (hb : Below w.heap.size w W) => containsBig_any _ l W (hst0.below hb))
    rw [ha] at HCF
    have HER := hide (pfOut_err s.data.toList (texts l))
    obtain ⟨P1, hP1⟩ : ∃ P1, (pfOut s.data.toList (texts l)).1 = P1 := ⟨_, rfl⟩
    obtain ⟨P2, hP2⟩ : ∃ P2, (pfOut s.data.toList (texts l)).2 = P2 := ⟨_, rfl⟩
    rw [hP1, hP2] at HP HER
    simp only [hP1, hP2] at HPR
    have HOUT : Hid (∀ W, Calls Tryz.prog 13 #[.string (mkB P1), .int .i64 P2, .string (mkB P1), .int .i64 P2] W fun e w' => e = .returned (.bool true) ∧ W = w') := hide (fun W => by
      by_cases h0 : P2 = 0
      · rw [h0]; exact outcome_good _ W
      · have h9 : mkB P1 = (⟨#[]⟩ : ByteArray) := by rw [HER.out h0]; rfl
        rw [h9]; exact outcome_bad _ P2 W h0)
    have g1 : ¬ (8192 : Int) < (s.size : Int) := by omega
    have g2 : ¬ (64 : Int) < (l.length : Int) := by omega
    obtain ⟨q, hq⟩ : ∃ q, mkB P1 = q := ⟨_, rfl⟩
    rw [hq] at HP
    simp only [hq] at HPR HOUT
    clear hst0 hE hT hZ hbig ha hz hP1 hP2 hq
    go_enter Tryz.func5, Tryz.ntmps5
    go_wp2_with fail
    refine HP.out.mono ?_
    rintro e w1 ⟨rfl, hb1⟩
    have HB1 := hide hb1
    clear hb1
    go_wp2_with fail
    refine (HCF.out _ HB1.out).mono ?_
    rintro e w2 ⟨rfl, hb2⟩
    have HB2 := hide (HB1.out.trans (hb2.mono HB1.out.size))
    clear hb2
    by_cases h3 : 300 < s.size
    · have g3 : (300 : Int) < (s.size : Int) := by omega
      go_wp2_with fail
      refine (sorts_any _).mono ?_
      rintro e w3 ⟨rfl, hb3⟩
      have HB3 := hide (HB2.out.trans (hb3.mono HB2.out.size))
      clear hb3
      go_wp2_with fail
      go_ret
      exact ⟨rfl, HB3.out⟩
    · have g3 : ¬ (300 : Int) < (s.size : Int) := by omega
      go_wp2_with fail
      refine (HJ.out _ HB2.out).mono ?_
      rintro e w3 ⟨⟨t, rfl⟩, hb3⟩
      have HB3 := hide (HB2.out.trans (hb3.mono HB2.out.size))
      clear hb3
      go_wp2_with fail
      refine (briefP_any _ _).mono ?_
      rintro e w4 ⟨rfl, hw4⟩
      have hw4' := hw4.symm
      clear hw4
      subst hw4'
      obtain ⟨bb, hbb⟩ : ∃ bb, decide (t.size ≤ 3000) = bb := ⟨_, rfl⟩
      rw [hbb]
      clear hbb
      cases bb
      · go_wp2_with fail
        refine (sorts_any _).mono ?_
        rintro e w5 ⟨rfl, hb5⟩
        have HB5 := hide (HB3.out.trans (hb5.mono HB3.out.size))
        clear hb5
        go_wp2_with fail
        go_ret
        exact ⟨rfl, HB5.out⟩
      · go_wp2_with fail
        refine (HPR.out _ HB3.out).mono ?_
        rintro e w5 ⟨rfl, hb5⟩
        have HB5 := hide (HB3.out.trans (hb5.mono HB3.out.size))
        clear hb5
        go_wp2_with fail
        refine (sorts_any _).mono ?_
        rintro e w6 ⟨rfl, hb6⟩
        have HB6 := hide (HB5.out.trans (hb6.mono HB5.out.size))
        clear hb6
        go_wp2_with fail
        refine (HOUT.out _).mono ?_
        rintro e w7 ⟨rfl, rfl⟩
        go_wp2_with fail
        go_ret
        exact ⟨rfl, HB6.out⟩
end Go.Proofs.YtifpmigghplmoaaGreatDoor
