/- The reference's number. -/
import Derived.Test.YtinpgnekjebipaaDoorUrN
set_option linter.unusedSimpArgs false
set_option linter.unusedVariables false
namespace Go.Pw
open Go.RowKit
theorem tw_at {l : List UInt8} {j : Nat} (hd : DigL (l.take j)) (hn : ∀ c, l[j]? = some c → digB c = false) : l.takeWhile digB = l.take j ∧ l.dropWhile digB = l.drop j := by
  have := takeW_num (d := l.take j) (r := l.drop j) hd (fun c t e => hn c (by
    have h1 : (l.drop j)[0]? = some c := by rw [e]; rfl
    simpa using h1))
  rwa [List.take_append_drop] at this
theorem numR_at {l : List UInt8} {j : Nat} (hj : j ≤ 6) (hl : j ≤ l.length) (hd : DigL (l.take j)) (hn : ∀ c, l[j]? = some c → digB c = false) :
    numR l = if 0 < j ∧ (l.headD 0 ≠ 48 ∨ j = 1) then some (valL (l.take j), l.drop j) else none := by
  obtain ⟨e1, e2⟩ := tw_at hd hn
  have hlen : (l.take j).length = j := by rw [List.length_take]; omega
  unfold numR
  rw [e1, e2, hlen, if_neg (by omega)]
  by_cases h0 : j = 0
  · subst h0
    rw [if_pos (by simp), if_neg (by omega)]
  · have hne : l.take j ≠ [] := fun e => by rw [e] at hlen; simp at hlen; omega
    have hh : (l.take j).headD 0 = l.headD 0 := by
      cases l with
      | nil => simp at hl; omega
      | cons c t => cases j with
        | zero => omega
        | succ j => rfl
    rw [if_neg hne, hh]
    by_cases h48 : l.headD 0 = 48
    · by_cases h1 : j = 1
      · rw [if_neg (fun h => h.2 h1), if_pos ⟨by omega, .inr h1⟩]
      · rw [if_pos ⟨h48, h1⟩, if_neg (fun h => h.2.elim (fun h => h h48) h1)]
    · rw [if_neg (fun h => h48 h.1), if_pos ⟨by omega, .inl h48⟩]
theorem numR_long {l : List UInt8} (hl : 7 ≤ l.length) (hd : DigL (l.take 7)) : numR l = none := by
  unfold numR
  rw [if_pos]
  have h1 : ∀ (k : Nat) (l : List UInt8), k ≤ l.length → DigL (l.take k) → k ≤ (l.takeWhile digB).length := by
    intro k
    induction k with
    | zero => intro l _ _; omega
    | succ k ih =>
      intro l hl hd
      cases l with
      | nil => simp at hl
      | cons c t =>
        have hc : digB c = true := (digBn c).2 (hd c (by simp))
        rw [List.takeWhile_cons, if_pos hc]
        have := ih t (by simpa using hl) (fun x hx => hd x (by simp [hx]))
        simp; omega
  have := h1 7 l hl hd
  omega
end Go.Pw
namespace Go.Proofs.YtinpgnekjebipaaDoor
open Go.RowKit Go.Pw
theorem digitU (c : UInt8) (x : Int) (w : World) (hx : (c.toNat : Int) = x) : Calls Tryd.prog 66 #[.int .u8 x] w fun e w' => e = .returned (.bool (digB c)) ∧ w = w' := by
  subst hx
  by_cases h1 : 48 ≤ c.toNat
  · have f1 : (48 : Int) ≤ (c.toNat : Int) := by omega
    by_cases h2 : c.toNat ≤ 57
    · have f2 : (c.toNat : Int) ≤ 57 := by omega
      have HV : Hid (digB c = true) := hide ((digBn c).2 ⟨h1, h2⟩)
      clear h1 h2
      go_enter Tryd.func66, Tryd.ntmps66
      go_wp2_with fail
      go_ret
      exact ⟨by rw [HV.out]; rfl, rfl⟩
    · have f2 : ¬ (c.toNat : Int) ≤ 57 := by omega
      have HV : Hid (digB c = false) := hide (by cases h : digB c with | false => rfl | true => exact absurd ((digBn c).1 h).2 h2)
      clear h1 h2
      go_enter Tryd.func66, Tryd.ntmps66
      go_wp2_with fail
      go_ret
      exact ⟨by rw [HV.out]; rfl, rfl⟩
  · have f1 : ¬ (48 : Int) ≤ (c.toNat : Int) := by omega
    have HV : Hid (digB c = false) := hide (by cases h : digB c with | false => rfl | true => exact absurd ((digBn c).1 h).1 h1)
    clear h1
    go_enter Tryd.func66, Tryd.ntmps66
    go_wp2_with fail
    go_ret
    exact ⟨by rw [HV.out]; rfl, rfl⟩
def NumPost (s : ByteArray) (a : Nat) (w : World) (e : Ending) (w' : World) : Prop :=
  w = w' ∧ match numR (s.data.toList.drop a) with
    | some (n, r) => e = .returned (.tuple #[.int .i64 (n : Int), .int .i64 ((s.size - r.length : Nat) : Int), .bool true])
    | none => ∃ x y, e = .returned (.tuple #[.int .i64 x, .int .i64 y, .bool false])
theorem NumPost.bad {s : ByteArray} {a : Nat} {w : World} (h : numR (s.data.toList.drop a) = none) (x y : Int) : NumPost s a w (.returned (.tuple #[.int .i64 x, .int .i64 y, .bool false])) w := by
  unfold NumPost
  rw [h]
  exact ⟨rfl, x, y, rfl⟩
theorem NumPost.good {s : ByteArray} {a n k : Nat} {r : List UInt8} {w : World} (h : numR (s.data.toList.drop a) = some (n, r)) (hk : k = s.size - r.length) : NumPost s a w (.returned (.tuple #[.int .i64 (n : Int), .int .i64 (k : Int), .bool true])) w := by
  unfold NumPost
  rw [h, hk]
  exact ⟨rfl, rfl⟩
/-- j digits are read -/
structure NuAt (s : ByteArray) (a j n : Nat) : Prop where
  j6 : j ≤ 6
  le : a + j ≤ s.size
  dg : DigL ((s.data.toList.drop a).take j)
  vl : n = valL ((s.data.toList.drop a).take j)
theorem NuAt.lt {s : ByteArray} {a j n : Nat} (h : NuAt s a j n) : n ≤ 999999 := by
  have h1 := valL_lt _ h.dg
  have h2 : 10 ^ ((s.data.toList.drop a).take j).length ≤ 10 ^ 6 := Nat.pow_le_pow_right (by decide) (by rw [List.length_take]; have := h.j6; omega)
  rw [h.vl]; omega
theorem take_next {s : ByteArray} {a j : Nat} (h : a + j < s.size) : (s.data.toList.drop a).take (j + 1) = (s.data.toList.drop a).take j ++ [s[a + j]] := by
  have hl : j < (s.data.toList.drop a).length := by rw [List.length_drop, len_size]; omega
  rw [List.take_succ_eq_append_getElem hl, List.getElem_drop]; rfl
theorem dig_next {s : ByteArray} {a j n : Nat} (h : NuAt s a j n) (hlt : a + j < s.size) (hd : digB s[a + j] = true) : DigL ((s.data.toList.drop a).take (j + 1)) ∧ valL ((s.data.toList.drop a).take (j + 1)) = 10 * n + (s[a + j].toNat - 48) := by
  rw [take_next hlt]
  refine ⟨fun c hc => ?_, ?_⟩
  · rcases List.mem_append.1 hc with hc | hc
    · exact h.dg c hc
    · simp at hc; subst hc; exact (digBn _).1 hd
  · rw [valL_append, ← h.vl]; simp [valL]; omega
theorem NuAt.fin {s : ByteArray} {a j n : Nat} (h : NuAt s a j n) (hn : ∀ hlt : a + j < s.size, digB s[a + j] = false) : numR (s.data.toList.drop a) = if 0 < j ∧ ((s.data.toList.drop a).headD 0 ≠ 48 ∨ j = 1) then some (n, (s.data.toList.drop a).drop j) else none := by
  have hlen : (s.data.toList.drop a).length = s.size - a := by rw [List.length_drop, len_size]
  have := numR_at (l := s.data.toList.drop a) h.j6 (by rw [hlen]; have := h.le; omega) h.dg (fun c hc => by
    have hj := (List.getElem?_eq_some_iff.1 hc)
    obtain ⟨hj1, hj2⟩ := hj
    rw [hlen] at hj1
    rw [List.getElem_drop] at hj2
    rw [← hj2]
    exact hn (by omega))
  rw [this, ← h.vl]
set_option maxHeartbeats 4000000 in
set_option maxRecDepth 100000 in
theorem number_any (s : ByteArray) (a : Nat) (w : World) (hs : s.size ≤ 1000000) (ha : a ≤ s.size) :
    Calls Tryd.prog 51 #[.string s, .int .i64 (a : Int)] w (NumPost s a w) := by
  obtain ⟨PST, hPST⟩ : ∃ P, NumPost s a w = P := ⟨_, rfl⟩
  have HPST := hide hPST
  rw [hPST]
  clear hPST
  go_enter Tryd.func51, Tryd.ntmps51
  go_wp2_with fail
  go_loop [1, 8] (fun i n => ∃ (k j m : Nat), i = .int .i64 (k : Int) ∧ n = .int .i64 (m : Int) ∧ Hid (k = a + j) ∧ Hid (NuAt s a j m)) (fun i _ => s.size - (intOf i).toNat)
  case atStart => exact ⟨a, 0, 0, rfl, rfl, hide rfl, hide ⟨by omega, by omega, fun c hc => by simp at hc, by simp [valL]⟩⟩
  case round =>
    obtain ⟨k, j, m, rfl, rfl, HKJ, HN⟩ := hrel
    have hj6 := HN.out.j6
    have hm := HN.out.lt
    have hkj := HKJ.out
    have hak : a ≤ k := by omega
    have hk6 : k ≤ a + 6 := by omega
    by_cases hlt : k < s.size
    · have HT := hide (digitU s[k] (s[k].toNat : Int) w rfl)
      have hlt' : a + j < s.size := by omega
      have hse : s[k] = s[a + j] := by simp only [hkj]
      cases hd : digB s[k] with
      | true =>
        rw [hd] at HT
        have hdn := dig_next HN.out hlt' (by rw [← hse]; exact hd)
        have hrange := (digBn _).1 hd
        rw [← hse] at hdn
        obtain ⟨b, hb⟩ : ∃ b, s[k].toNat = b := ⟨_, rfl⟩
        rw [hb] at hrange HT hdn
        have hw1 : IntKind.u8.wrap ((b : Int) - 48) = ((b - 48 : Nat) : Int) := by rw [IntKind.wrap_u8]; omega
        have hw2 : IntKind.i64.wrap ((b - 48 : Nat) : Int) = ((b - 48 : Nat) : Int) := by rw [IntKind.wrap_i64]; omega
        have hw3 : IntKind.i64.wrap (10 * (m : Int)) = 10 * (m : Int) := by rw [IntKind.wrap_i64]; omega
        have hw4 : IntKind.i64.wrap (10 * (m : Int) + ((b - 48 : Nat) : Int)) = 10 * (m : Int) + ((b - 48 : Nat) : Int) := by rw [IntKind.wrap_i64]; omega
        have HD := hide hdn
        clear hdn hse hd hkj
        go_wp2_with fail
        refine HT.out.mono ?_
        rintro e w1 ⟨rfl, rfl⟩
        by_cases h6 : 6 < (k : Int) + 1 - (a : Int)
        · have HBAD : Hid (numR (s.data.toList.drop a) = none) := hide (numR_long (by rw [List.length_drop, len_size]; have := HKJ.out; omega) (by
            have h7 : j + 1 = 7 := by have := HKJ.out; omega
            have := HD.out.1
            rw [h7] at this
            exact this))
          go_wp2_with fail
          go_ret3
          rw [← HPST.out]
          exact NumPost.bad HBAD.out _ _
        · have HN2 : Hid (NuAt s a (j + 1) (10 * m + (b - 48))) := hide ⟨by have := HKJ.out; omega, by have := HKJ.out; omega, HD.out.1, by rw [HD.out.2]⟩
          have hcast : ((10 * m + (b - 48) : Nat) : Int) = 10 * (m : Int) + ((b - 48 : Nat) : Int) := by omega
          have HCS := hide hcast
          clear hcast
          go_wp2_with fail
          go_round
          case rel => exact ⟨k + 1, j + 1, 10 * m + (b - 48), by go_num, by rw [HCS.out], hide (by have := HKJ.out; omega), HN2⟩
          case measure => simp [intOf]; omega
      | false =>
        rw [hd] at HT
        have HFIN := hide (HN.out.fin (fun hlt2 => by rw [← hse]; exact hd))
        clear hse hd hkj
        go_wp2_with fail
        refine HT.out.mono ?_
        rintro e w1 ⟨rfl, rfl⟩
        have hkj := HKJ.out
        have HJ : Hid (j = k - a) := hide (by omega)
        by_cases hk0 : a < k
        · have hza : a < s.size := by have := HN.out.le; omega
          have hhd : (s.data.toList.drop a).headD 0 = s[a] := by rw [drop_byte s a hza]; rfl
          have hlen : k = s.size - ((s.data.toList.drop a).drop j).length := by
            rw [List.length_drop, List.length_drop, len_size]; have := HN.out.le; omega
          have HLEN := hide hlen
          have hk0' : (a : Int) < (k : Int) := by omega
          obtain ⟨c, hc⟩ : ∃ c, s[a] = c := ⟨_, rfl⟩
          rw [hc] at hhd
          have hfin := HFIN.out
          rw [hhd] at hfin
          by_cases h48 : c = 48
          · have g48 : ((c.toNat : Int) != 48) = false := by subst h48; rfl
            by_cases h1 : k = a + 1
            · rw [if_pos ⟨by omega, .inr (by omega)⟩] at hfin
              have HG := hide hfin
              have g1 : ((k : Int) == (a : Int) + 1) = true := by simp; omega
              clear hfin hhd hlen hkj h1 h48
              go_wp2_with fail
              go_ret3
              rw [← HPST.out]
              exact NumPost.good HG.out HLEN.out
            · rw [if_neg (fun h => h.2.elim (fun h => h h48) (fun h => h1 (by omega)))] at hfin
              have HG := hide hfin
              have g1 : ((k : Int) == (a : Int) + 1) = false := by simp; omega
              clear hfin hhd hlen hkj h1 h48
              go_wp2_with fail
              go_ret3
              rw [← HPST.out]
              exact NumPost.bad HG.out _ _
          · have g48 : ((c.toNat : Int) != 48) = true := by
              simp only [bne_iff_ne, ne_eq]
              intro e; apply h48; apply UInt8.toNat_inj.1; show _ = 48; omega
            rw [if_pos ⟨by omega, .inl h48⟩] at hfin
            have HG := hide hfin
            clear hfin hhd hlen hkj h48
            go_wp2_with fail
            go_ret3
            rw [← HPST.out]
            exact NumPost.good HG.out HLEN.out
        · have hk0' : ¬ (a : Int) < (k : Int) := by omega
          have hfin := HFIN.out
          rw [if_neg (fun h => by omega)] at hfin
          have HG := hide hfin
          clear hfin hkj hk0
          go_wp2_with fail
          go_ret3
          rw [← HPST.out]
          exact NumPost.bad HG.out _ _
    · have HFIN := hide (HN.out.fin (fun hlt2 => absurd hlt2 (by omega)))
      clear hkj
      have hkj := HKJ.out
      have HJ : Hid (j = k - a) := hide (by omega)
      by_cases hk0 : a < k
      · have hza : a < s.size := by have := HN.out.le; omega
        have hhd : (s.data.toList.drop a).headD 0 = s[a] := by rw [drop_byte s a hza]; rfl
        have hlen : k = s.size - ((s.data.toList.drop a).drop j).length := by
          rw [List.length_drop, List.length_drop, len_size]; have := HN.out.le; omega
        have HLEN := hide hlen
        have hk0' : (a : Int) < (k : Int) := by omega
        obtain ⟨c, hc⟩ : ∃ c, s[a] = c := ⟨_, rfl⟩
        rw [hc] at hhd
        have hfin := HFIN.out
        rw [hhd] at hfin
        by_cases h48 : c = 48
        · have g48 : ((c.toNat : Int) != 48) = false := by subst h48; rfl
          by_cases h1 : k = a + 1
          · rw [if_pos ⟨by omega, .inr (by omega)⟩] at hfin
            have HG := hide hfin
            have g1 : ((k : Int) == (a : Int) + 1) = true := by simp; omega
            clear hfin hhd hlen hkj h1 h48
            go_wp2_with fail
            go_ret3
            rw [← HPST.out]
            exact NumPost.good HG.out HLEN.out
          · rw [if_neg (fun h => h.2.elim (fun h => h h48) (fun h => h1 (by omega)))] at hfin
            have HG := hide hfin
            have g1 : ((k : Int) == (a : Int) + 1) = false := by simp; omega
            clear hfin hhd hlen hkj h1 h48
            go_wp2_with fail
            go_ret3
            rw [← HPST.out]
            exact NumPost.bad HG.out _ _
        · have g48 : ((c.toNat : Int) != 48) = true := by
            simp only [bne_iff_ne, ne_eq]
            intro e; apply h48; apply UInt8.toNat_inj.1; show _ = 48; omega
          rw [if_pos ⟨by omega, .inl h48⟩] at hfin
          have HG := hide hfin
          clear hfin hhd hlen hkj h48
          go_wp2_with fail
          go_ret3
          rw [← HPST.out]
          exact NumPost.good HG.out HLEN.out
      · have hk0' : ¬ (a : Int) < (k : Int) := by omega
        have hfin := HFIN.out
        rw [if_neg (fun h => by omega)] at hfin
        have HG := hide hfin
        clear hfin hkj hk0
        go_wp2_with fail
        go_ret3
        rw [← HPST.out]
        exact NumPost.bad HG.out _ _
end Go.Proofs.YtinpgnekjebipaaDoor
