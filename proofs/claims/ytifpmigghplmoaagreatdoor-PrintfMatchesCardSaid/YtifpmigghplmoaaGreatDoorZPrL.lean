/- Printf, the reference: hexValue, digit, upTo3. -/
import Derived.Test.YtifpmigghplmoaaGreatDoorZPrK
/- PfRa -/
set_option linter.unusedVariables false
set_option linter.unusedSimpArgs false
namespace Go.Pw
open Go.RowKit
def hvR (c : UInt8) : Int := match hexV c with | some d => (d : Int) | none => -1
theorem valL_next (l : List UInt8) (c : UInt8) : valL (l ++ [c]) = valL l * 10 + (c.toNat - 48) := by rw [valL_append]; simp [valL]
theorem dgK_is {l : List UInt8} {n : Nat} (h : DigL (l.take n)) (hn : n ≤ l.length) (h3 : n ≤ 3) (hs : n = 3 ∨ n = l.length ∨ ∃ c, l[n]? = some c ∧ digB c = false) : dgK l = n := by
  have h0 : ∀ c ∈ l.take n, digB c = true := fun c hc => by
    have := h c hc
    unfold digB; simp; omega
  have e1 : l.takeWhile digB = l.take n ++ (l.drop n).takeWhile digB := by
    conv => lhs; rw [← List.take_append_drop n l]
    rw [List.takeWhile_append_of_pos h0]
  have e2 : (l.take n).length = n := by rw [List.length_take]; omega
  unfold dgK
  rw [e1, List.length_append, e2]
  rcases hs with rfl | h | ⟨c, hc, hd⟩
  · omega
  · rw [List.drop_of_length_le (by omega)]; simp; omega
  · obtain ⟨hlt, rfl⟩ := List.getElem?_eq_some_iff.1 hc
    rw [List.drop_eq_getElem_cons hlt, List.takeWhile_cons, hd]; simp; omega
end Go.Pw
namespace Go.Proofs.YtifpmigghplmoaaGreatDoor
open Go.RowKit Go.Pw Go.Shelf
set_option maxHeartbeats 4000000 in
theorem hexValue_any (c : UInt8) (w : World) : Calls Tryz.prog 88 #[.int .u8 (c.toNat : Int)] w fun e w' => e = .returned (.int .i64 (hvR c)) ∧ w' = w := by
  have hlt := c.toNat_lt
  have HV : Hid (hvR c = if 48 ≤ c.toNat ∧ c.toNat ≤ 57 then (c.toNat : Int) - 48 else if 97 ≤ c.toNat ∧ c.toNat ≤ 102 then (c.toNat : Int) - 87 else if 65 ≤ c.toNat ∧ c.toNat ≤ 70 then (c.toNat : Int) - 55 else -1) := hide (by
    unfold hvR hexV
    by_cases h1 : 48 ≤ c.toNat ∧ c.toNat ≤ 57
    · rw [if_pos h1, if_pos h1]; simp only; omega
    · rw [if_neg h1, if_neg h1]
      by_cases h2 : 97 ≤ c.toNat ∧ c.toNat ≤ 102
      · rw [if_pos h2, if_pos h2]; simp only; omega
      · rw [if_neg h2, if_neg h2]
        by_cases h3 : 65 ≤ c.toNat ∧ c.toNat ≤ 70
        · rw [if_pos h3, if_pos h3]; simp only; omega
        · rw [if_neg h3, if_neg h3])
  obtain ⟨x, hx⟩ : ∃ x : Nat, c.toNat = x := ⟨_, rfl⟩
  rw [hx] at HV hlt ⊢
  clear hx
  have hr : x < 48 ∨ (48 ≤ x ∧ x ≤ 57) ∨ (58 ≤ x ∧ x ≤ 64) ∨ (65 ≤ x ∧ x ≤ 70) ∨ (71 ≤ x ∧ x ≤ 96) ∨ (97 ≤ x ∧ x ≤ 102) ∨ 103 ≤ x := by omega
  rcases hr with h | h | h | h | h | h | h
  all_goals
    have w1 : 48 ≤ x → IntKind.u8.wrap ((x : Int) - 48) = (x : Int) - 48 := fun h => IntWalk.u8_in _ (by omega)
    have w2 : 97 ≤ x → IntKind.u8.wrap ((x : Int) - 97) = (x : Int) - 97 := fun h => IntWalk.u8_in _ (by omega)
    have w3 : 65 ≤ x → IntKind.u8.wrap ((x : Int) - 65) = (x : Int) - 65 := fun h => IntWalk.u8_in _ (by omega)
    first | (have p1 : (48 : Int) ≤ (x : Int) := by omega) | (have p1 : ¬ (48 : Int) ≤ (x : Int) := by omega)
    first | (have p2 : (x : Int) ≤ 57 := by omega) | (have p2 : ¬ (x : Int) ≤ 57 := by omega)
    first | (have p3 : (97 : Int) ≤ (x : Int) := by omega) | (have p3 : ¬ (97 : Int) ≤ (x : Int) := by omega)
    first | (have p4 : (x : Int) ≤ 102 := by omega) | (have p4 : ¬ (x : Int) ≤ 102 := by omega)
    first | (have p5 : (65 : Int) ≤ (x : Int) := by omega) | (have p5 : ¬ (65 : Int) ≤ (x : Int) := by omega)
    first | (have p6 : (x : Int) ≤ 70 := by omega) | (have p6 : ¬ (x : Int) ≤ 70 := by omega)
    first | replace w1 := w1 (by omega) | clear w1
    first | replace w2 := w2 (by omega) | clear w2
    first | replace w3 := w3 (by omega) | clear w3
    first
      | (have HW := hide (HV.out.trans (if_pos (by omega))))
      | (have HW := hide (HV.out.trans ((if_neg (by omega)).trans (if_pos (by omega)))))
      | (have HW := hide (HV.out.trans ((if_neg (by omega)).trans ((if_neg (by omega)).trans (if_pos (by omega))))))
      | (have HW := hide (HV.out.trans ((if_neg (by omega)).trans ((if_neg (by omega)).trans (if_neg (by omega))))))
    clear h hlt HV
    go_enter Tryz.func88, Tryz.ntmps88
    go_wp2_with fail
    go_ret
    refine ⟨?_, rfl⟩
    rw [HW.out]
    first
      | rfl
      | (congr 2; omega)
      | (show Ending.returned (Value.int .i64 _) = _; congr 2; omega)
theorem digitP_any (c : UInt8) (w : World) : Calls Tryz.prog 56 #[.int .u8 (c.toNat : Int)] w fun e w' => e = .returned (.bool (digB c)) ∧ w' = w := by
  have HV : Hid (digB c = (decide (48 ≤ (c.toNat : Int)) && decide ((c.toNat : Int) ≤ 57))) := hide (by unfold digB; congr 1 <;> (apply decide_eq_decide.2; omega))
  rw [HV.out]
  by_cases h1 : 48 ≤ (c.toNat : Int)
  · by_cases h2 : (c.toNat : Int) ≤ 57
    · go_enter Tryz.func56, Tryz.ntmps56
      go_wp2_with fail
      go_ret
      exact ⟨by simp [h1, h2], rfl⟩
    · go_enter Tryz.func56, Tryz.ntmps56
      go_wp2_with fail
      go_ret
      exact ⟨by simp [h1, h2], rfl⟩
  · go_enter Tryz.func56, Tryz.ntmps56
    go_wp2_with fail
    go_ret
    exact ⟨by simp; omega, rfl⟩
set_option maxHeartbeats 4000000 in
set_option maxRecDepth 100000 in
theorem upTo3_any (s : ByteArray) (w : World) (hs : s.size ≤ 1000000) :
    Calls Tryz.prog 89 #[.string s] w fun e w' => e = .returned (.tuple #[.int .i64 (valL (s.data.toList.take (dgK s.data.toList)) : Int), .int .i64 (dgK s.data.toList : Int)]) ∧ w' = w := by
  have HL := hide (len_size s)
  go_enter Tryz.func89, Tryz.ntmps89
  go_wp2_with fail
  go_loopw [4, 5] (fun vv nv wr => ∃ (v n : Nat), vv = .int .i64 (v : Int) ∧ nv = .int .i64 (n : Int) ∧ n ≤ s.size ∧ n ≤ 3 ∧ v < 10 ^ n ∧ Hid (v = valL (s.data.toList.take n)) ∧ Hid (DigL (s.data.toList.take n)) ∧ wr = w) (fun _ nv _ => 3 - (intOf nv).toNat)
  case atStart => exact ⟨0, 0, rfl, rfl, by omega, by omega, by simp, hide (by simp [valL]), hide (by intro c hc; simp at hc), rfl⟩
  case round =>
    obtain ⟨v, n, rfl, rfl, hn, h3, hv, HV, HD, rfl⟩ := hrel
    have hv9 : v < 1000 := Nat.lt_of_lt_of_le hv (Nat.pow_le_pow_right (by omega) h3)
    clear hv
    have fin : ∀ _ : n = 3 ∨ n = s.data.toList.length ∨ ∃ c, s.data.toList[n]? = some c ∧ digB c = false, (v : Int) = (valL (s.data.toList.take (dgK s.data.toList)) : Int) ∧ (n : Int) = (dgK s.data.toList : Int) := fun h => by
      have e := dgK_is HD.out (by rw [HL.out]; exact hn) h3 h
      rw [e, ← HV.out]; exact ⟨rfl, rfl⟩
    have FIN := hide fin
    clear fin
    by_cases h1 : n < s.size
    · have g1 : (n : Int) < (s.size : Int) := by omega
      by_cases h2 : n < 3
      · have g2 : (n : Int) < 3 := by omega
        have hget : s.data.toList[n]? = some (s[n]'h1) := by rw [List.getElem?_eq_getElem (by rw [HL.out]; exact h1)]; rfl
        have HG := hide hget
        have HDG := hide (fun W => digitP_any (s[n]'h1) W)
        clear hget
        cases hd : digB (s[n]'h1) with
        | true =>
          rw [hd] at HDG
          have hdd : 48 ≤ (s[n]'h1).toNat ∧ (s[n]'h1).toNat ≤ 57 := by unfold digB at hd; simpa using hd
          have hw : IntKind.u8.wrap (((s[n]'h1).toNat : Int) - 48) = ((s[n]'h1).toNat : Int) - 48 := IntWalk.u8_in _ (by omega)
          have HV2 : Hid (10 * v + ((s[n]'h1).toNat - 48) = valL (s.data.toList.take (n + 1))) := hide (by
            rw [List.take_add_one, HG.out]; show _ = valL (_ ++ [s[n]]); rw [valL_next, ← HV.out]; omega)
          have HD2 : Hid (DigL (s.data.toList.take (n + 1))) := hide (by
            intro c hc
            rw [List.take_add_one, HG.out] at hc
            rcases List.mem_append.1 hc with hc | hc
            · exact HD.out c hc
            · obtain rfl := List.mem_singleton.1 hc; exact hdd)
          have hv2 : 10 * v + ((s[n]'h1).toNat - 48) < 10 ^ (n + 1) := by
            rw [HV2.out]
            have := valL_lt _ HD2.out
            rw [List.length_take, HL.out] at this
            rwa [Nat.min_eq_left (by omega)] at this
          obtain ⟨hd1, hd2⟩ := hdd
          clear hd
          go_wp2_with fail
          refine (HDG.out _).mono ?_
          rintro e w2 ⟨rfl, rfl⟩
          go_wp2_with fail
          go_roundw
          case rel => exact ⟨10 * v + ((s[n]'h1).toNat - 48), n + 1, by congr 1; omega, by first | go_num | (simp; omega), by omega, by omega, hv2, HV2, HD2, by first | rfl | trivial⟩
          case measure => simp [intOf]; omega
        | false =>
          rw [hd] at HDG
          obtain ⟨q1, q2⟩ := FIN.out (Or.inr (Or.inr ⟨_, HG.out, hd⟩))
          have Q1 := hide q1
          have Q2 := hide q2
          clear hd q1 q2
          go_wp2_with fail
          refine (HDG.out _).mono ?_
          rintro e w2 ⟨rfl, rfl⟩
          go_wp2_with fail
          go_ret2
          exact ⟨by rw [← Q1.out, ← Q2.out]; rfl, by first | rfl | trivial⟩
      · have g2 : ¬ (n : Int) < 3 := by omega
        obtain ⟨q1, q2⟩ := FIN.out (Or.inl (by omega))
        have Q1 := hide q1
        have Q2 := hide q2
        clear q1 q2
        go_wp2_with fail
        go_ret2
        exact ⟨by rw [← Q1.out, ← Q2.out]; rfl, by first | rfl | trivial⟩
    · have g1 : ¬ (n : Int) < (s.size : Int) := by omega
      obtain ⟨q1, q2⟩ := FIN.out (Or.inr (Or.inl (by rw [HL.out]; omega)))
      have Q1 := hide q1
      have Q2 := hide q2
      clear q1 q2
      go_wp2_with fail
      go_ret2
      exact ⟨by rw [← Q1.out, ← Q2.out]; rfl, by first | rfl | trivial⟩
end Go.Proofs.YtifpmigghplmoaaGreatDoor

/- PfU -/
set_option linter.unusedVariables false
namespace Go.Pw
open Go.RowKit
theorem vB_snoc (b : Nat) (c : UInt8) : ∀ (l : List UInt8) (acc : Nat), vB b acc (l ++ [c]) = vB b acc l * b + (hexV c).getD 0
  | [], acc => by simp [vB]
  | x :: r, acc => by rw [List.cons_append, vB, vB_snoc b c r, vB]
/-- how far the reference has read a number -/
def WnAt (b : Nat) (ds : List UInt8) (i v : Nat) (lg : Bool) : Prop :=
  (∀ c ∈ ds.take i, okD b c = true) ∧ v ≤ 9223372036854775808 ∧ (lg = false → v = vB b 0 (ds.take i)) ∧ (lg = true → 9223372036854775808 < vB b 0 (ds.take i))
theorem WnAt.start (b : Nat) (ds : List UInt8) : WnAt b ds 0 0 false := ⟨by intro c hc; simp at hc, by omega, fun _ => by simp [vB], fun h => by cases h⟩
theorem take_next {ds : List UInt8} {i : Nat} {c : UInt8} (h : ds[i]? = some c) : ds.take (i + 1) = ds.take i ++ [c] := by
  rw [List.take_add_one, h]; rfl
theorem WnAt.good {b : Nat} {ds : List UInt8} {i v d : Nat} {lg : Bool} {c : UInt8} (h : WnAt b ds i v lg) (hc : ds[i]? = some c) (hd : hexV c = some d) (hb : d < b) :
    ∀ x ∈ ds.take (i + 1), okD b x = true := by
  intro x hx
  rw [take_next hc] at hx
  rcases List.mem_append.1 hx with hx | hx
  · exact h.1 x hx
  · obtain rfl := List.mem_singleton.1 hx
    unfold okD; rw [hd]; simpa using hb
theorem WnAt.large {b : Nat} {ds : List UInt8} {i v d : Nat} {lg : Bool} {c : UInt8} (h : WnAt b ds i v lg) (hc : ds[i]? = some c) (hd : hexV c = some d) (hb : d < b) (hl : (9223372036854775808 - d) / b < v) : WnAt b ds (i + 1) v true := by
  obtain ⟨h1, h2, h3, h4⟩ := h
  refine ⟨WnAt.good ⟨h1, h2, h3, h4⟩ hc hd hb, h2, (fun h => by cases h), fun _ => ?_⟩
  rw [take_next hc, vB_snoc, hd]
  simp only [Option.getD_some]
  cases lg with
  | false =>
    rw [← h3 rfl]
    have := (Nat.div_lt_iff_lt_mul (by omega : 0 < b)).1 hl
    omega
  | true =>
    have h5 := h4 rfl
    have : vB b 0 (ds.take i) * 1 ≤ vB b 0 (ds.take i) * b := Nat.mul_le_mul_left _ (by omega)
    omega
theorem WnAt.fits {b : Nat} {ds : List UInt8} {i v d : Nat} {lg : Bool} {c : UInt8} (h : WnAt b ds i v lg) (hc : ds[i]? = some c) (hd : hexV c = some d) (hb : d < b) (h16 : b ≤ 16) (hl : ¬ (9223372036854775808 - d) / b < v) : WnAt b ds (i + 1) (v * b + d) lg := by
  obtain ⟨h1, h2, h3, h4⟩ := h
  have hle : v * b ≤ 9223372036854775808 - d := by
    have h5 : v ≤ (9223372036854775808 - d) / b := by omega
    exact (Nat.le_div_iff_mul_le (by omega : 0 < b)).1 h5
  refine ⟨WnAt.good ⟨h1, h2, h3, h4⟩ hc hd hb, by omega, fun h => ?_, fun h => ?_⟩
  · rw [take_next hc, vB_snoc, hd, ← h3 h]; rfl
  · rw [take_next hc, vB_snoc, hd]
    simp only [Option.getD_some]
    have h5 := h4 h
    have : vB b 0 (ds.take i) * 1 ≤ vB b 0 (ds.take i) * b := Nat.mul_le_mul_left _ (by omega)
    omega
theorem WnAt.bad {b : Nat} {ds : List UInt8} {i : Nat} {c : UInt8} (hc : ds[i]? = some c) (hd : okD b c = false) (neg : Bool) : numT neg b ds = (0, 5) := by
  unfold numT
  rw [if_neg]
  rintro ⟨h, -⟩
  have := List.all_eq_true.1 h c (List.mem_of_getElem? hc)
  rw [hd] at this; cases this
theorem WnAt.done {b : Nat} {ds : List UInt8} {i v : Nat} {lg : Bool} (h : WnAt b ds i v lg) (hi : ds.length ≤ i) (hne : ds ≠ []) (neg : Bool) :
    numT neg b ds = if lg = true ∨ (v = 9223372036854775808 ∧ neg = false) then (0, 3) else (if neg then -(v : Int) else (v : Int), 0) := by
  obtain ⟨h1, h2, h3, h4⟩ := h
  rw [List.take_of_length_le hi] at h1 h3 h4
  unfold numT
  rw [if_pos ⟨List.all_eq_true.2 h1, hne⟩]
  cases lg with
  | true =>
    have h5 := h4 rfl
    rw [if_pos (Or.inl rfl)]
    cases neg
    · simp only [Bool.false_eq_true, if_false]; rw [if_neg (by omega)]
    · simp only [if_true]; rw [if_neg (by omega)]
  | false =>
    rw [← h3 rfl]
    cases neg
    · simp only [Bool.false_eq_true, if_false, false_or, and_true]
      by_cases hv : v = 9223372036854775808
      · rw [if_neg (by omega), if_pos hv]
      · rw [if_pos (by omega), if_neg hv]
    · simp only [Bool.false_eq_true, if_true, false_or, and_false, if_false, reduceCtorEq]
      rw [if_pos (by omega)]
/-- how far the reference has come with the digits of a number -/
def BsAt (b u v : Nat) (s : List UInt8) : Prop := (v = 0 ∧ s = [] ∧ u = 0) ∨ (v = 0 ∧ s = basP b u) ∨ (0 < v ∧ basP b u = basP b v ++ s)
theorem BsAt.start (b u : Nat) : BsAt b u u [] := by
  by_cases h : u = 0
  · exact .inl ⟨h, rfl, h⟩
  · exact .inr (.inr ⟨by omega, by simp⟩)
theorem BsAt.step {b u v : Nat} {s : List UInt8} (hb : 2 ≤ b) (h : BsAt b u v s) (hv : 0 < v) : BsAt b u (v / b) (dgc (v % b) :: s) := by
  rcases h with ⟨h, -⟩ | ⟨h, -⟩ | ⟨-, h⟩
  · omega
  · omega
  · by_cases hs : v < b
    · refine .inr (.inl ⟨Nat.div_eq_of_lt hs, ?_⟩)
      rw [h, basP_small hs, Nat.mod_eq_of_lt hs]; rfl
    · refine .inr (.inr ⟨Nat.div_pos (by omega) (by omega), ?_⟩)
      rw [h, basP_big hb hs]; simp
theorem BsAt.done {b u v : Nat} {s : List UInt8} (hb : 2 ≤ b) (h : BsAt b u v s) (hv : v = 0) : basP b u = if s = [] then [48] else s := by
  rcases h with ⟨-, rfl, rfl⟩ | ⟨-, rfl⟩ | ⟨h, -⟩
  · rw [if_pos rfl, basP_small (by omega)]; rfl
  · rw [if_neg (basP_ne _ _)]
  · omega
theorem BsAt.len {b u v n : Nat} {s : List UInt8} (hb : 2 ≤ b) (h : BsAt b u v s) (hu : (basP b u).length ≤ n) : s.length ≤ n := by
  rcases h with ⟨-, rfl, -⟩ | ⟨-, rfl⟩ | ⟨-, h⟩
  · simp
  · exact hu
  · rw [h, List.length_append] at hu; omega
end Go.Pw
