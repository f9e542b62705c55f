/- CodesMatch: what the law calls, and delta.Codes. -/
import Derived.Test.YtfjbdbdjhkmifaaCdN
import Derived.Test.YtfjbdbdjhkmifaaDiffers
set_option linter.unusedVariables false
set_option linter.unusedSimpArgs false
namespace Go.Pw
/-- a count is out of range -/
def badI (l : List Int) : Bool := l.any fun n => !decide ((0 : Int) ≤ n ∧ n ≤ 262144)
theorem badI_drop (l : List Int) (k : Nat) (h : k < l.length) : badI (l.drop k) = (!decide ((0 : Int) ≤ l[k] ∧ l[k] ≤ 262144) || badI (l.drop (k + 1))) := by
  rw [List.drop_eq_getElem_cons h]
  rfl
/-- the counts as natural numbers -/
theorem good_nats {l : List Int} (h : badI l = false) : ∃ c : List Nat, l = c.map (fun n : Nat => (n : Int)) ∧ c.length = l.length ∧ ∀ s ∈ c, s ≤ 262144 := by
  have hm : ∀ x ∈ l, 0 ≤ x ∧ x ≤ 262144 := fun x hx => by
    unfold badI at h
    rw [List.any_eq_false] at h
    simpa using h x hx
  refine ⟨l.map Int.toNat, ?_, by simp, fun s hs => ?_⟩
  · rw [List.map_map]
    conv => lhs; rw [← List.map_id l]
    exact List.map_congr_left fun x hx => by
      have := hm x hx
      show x = ((x.toNat : Nat) : Int)
      omega
  · obtain ⟨x, hx, rfl⟩ := List.mem_map.1 hs
    have := hm x hx
    omega
end Go.Pw
namespace Go.Proofs.Ytfjbdbdjhkmifaa
open Go.RowKit Go.Pw
theorem first_p (v : Value) (l : List Int) (w : World) (h : Rd w 1 v l.length (l.map (Value.int .i64))) :
    Calls Try.prog 13 #[v] w fun e w' => e = .returned (.int .i64 (firstNZ l)) ∧ w = w' := by
  obtain ⟨_, A, cap, rfl, hcap, hmax, hx⟩ := h
  unfold maxLen at hmax
  have HX := hide hx
  clear hx
  go_enter Try.func13, Try.ntmps13
  go_wp2
  go_loop [7] (fun i => ∃ k : Nat, k ≤ l.length ∧ i = .int .i64 (k : Int) ∧ Hid (firstNZ l = firstNZ ((l.drop k).map id))) (fun i => l.length - (intOf i).toNat)
  case atStart => exact ⟨0, by omega, rfl, by show _ = _; simp⟩
  case round =>
    obtain ⟨k, hk, rfl, hf⟩ := hrel
    by_cases hlt : k < l.length
    · obtain ⟨b, o, rfl, hb, hj⟩ := HX.out (by omega)
      have hc : w.cell? ⟨b, o + k, none⟩ = some (.int .i64 l[k]) := hj k _ (by simp [hlt])
      clear hj
      go_wp2_with fail
      · have hne : (l[k] != 0) = true := by assumption
        go_ret
        exact ⟨ret_int (fnz_hit hf hlt rfl (by simpa using hne)), rfl⟩
      · have hne : (l[k] != 0) = false := by assumption
        go_round
        case rel => exact ⟨k + 1, by omega, by go_num, fnz_miss hf hlt (by simpa using hne)⟩
        case measure => simp [intOf]; omega
    · go_wp2_with fail
      go_ret
      exact ⟨ret_int (fnz_end hf hlt), rfl⟩
theorem when_p (c : Bool) (n : Int) (w : World) :
    Calls Try.prog 15 #[.bool c, .int .i64 n] w fun e w' => e = .returned (.int .i64 (if c then n else 0)) ∧ w = w' := by
  cases c
  · go_enter Try.func15, Try.ntmps15
    go_wp2
    go_ret
    exact ⟨rfl, rfl⟩
  · go_enter Try.func15, Try.ntmps15
    go_wp2
    go_ret
    exact ⟨rfl, rfl⟩
theorem withinL_p (n lo hi : Int) (w : World) : Calls Try.prog 16 #[.int .i64 n, .int .i64 lo, .int .i64 hi] w fun e w' => e = .returned (.bool (decide (lo ≤ n ∧ n ≤ hi))) ∧ w = w' := by
  by_cases h1 : lo ≤ n
  · by_cases h2 : n ≤ hi
    · have HD : Hid (decide (lo ≤ n ∧ n ≤ hi) = true) := hide (by simp [h1, h2])
      go_enter Try.func16, Try.ntmps16
      go_wp2
      go_ret
      exact ⟨by first | (rw [HD.out]; rfl) | rfl, rfl⟩
    · have HD : Hid (decide (lo ≤ n ∧ n ≤ hi) = false) := hide (by simp [h2])
      have h2' : decide (n ≤ hi) = false := by simpa using h2
      go_enter Try.func16, Try.ntmps16
      go_wp2
      go_ret
      exact ⟨by first | (rw [HD.out]; rfl) | rfl, rfl⟩
  · have HD : Hid (decide (lo ≤ n ∧ n ≤ hi) = false) := hide (by simp [h1])
    have h1' : decide (lo ≤ n) = false := by simpa using h1
    go_enter Try.func16, Try.ntmps16
    go_wp2
    go_ret
    exact ⟨by first | (rw [HD.out]; rfl) | rfl, rfl⟩
theorem withinD_any (n lo hi : Int) (w : World) : Calls Try.prog 47 #[.int .i64 n, .int .i64 lo, .int .i64 hi] w fun e w' => e = .returned (.bool (decide (lo ≤ n ∧ n ≤ hi))) ∧ w = w' := by
  by_cases h1 : lo ≤ n
  · by_cases h2 : n ≤ hi
    · have HD : Hid (decide (lo ≤ n ∧ n ≤ hi) = true) := hide (by simp [h1, h2])
      go_enter Try.func47, Try.ntmps47
      go_wp2
      go_ret
      exact ⟨by first | (rw [HD.out]; rfl) | rfl, rfl⟩
    · have HD : Hid (decide (lo ≤ n ∧ n ≤ hi) = false) := hide (by simp [h2])
      have h2' : decide (n ≤ hi) = false := by simpa using h2
      go_enter Try.func47, Try.ntmps47
      go_wp2
      go_ret
      exact ⟨by first | (rw [HD.out]; rfl) | rfl, rfl⟩
  · have HD : Hid (decide (lo ≤ n ∧ n ≤ hi) = false) := hide (by simp [h1])
    have h1' : decide (lo ≤ n) = false := by simpa using h1
    go_enter Try.func47, Try.ntmps47
    go_wp2
    go_ret
    exact ⟨by first | (rw [HD.out]; rfl) | rfl, rfl⟩
theorem badD_any (n : Int) (w : World) : Calls Try.prog 52 #[.int .i64 n] w fun e w' => e = .returned (.bool (!decide ((0 : Int) ≤ n ∧ n ≤ 262144))) ∧ w = w' := by
  obtain ⟨b, hb⟩ : ∃ b, decide ((0 : Int) ≤ n ∧ n ≤ 262144) = b := ⟨_, rfl⟩
  rw [hb]
  have HB := hide hb
  clear hb
  go_enter Try.func52, Try.ntmps52
  go_wp2_with fail
  refine (withinD_any _ _ _ _).mono ?_
  rintro e w1 ⟨rfl, rfl⟩
  rw [HB.out]
  cases b
  · go_wp2_with fail
    go_ret
    exact ⟨rfl, rfl⟩
  · go_wp2_with fail
    go_ret
    exact ⟨rfl, rfl⟩
theorem badL_any (n : Int) (w : World) : Calls Try.prog 24 #[.int .i64 n] w fun e w' => e = .returned (.bool (!decide ((0 : Int) ≤ n ∧ n ≤ 262144))) ∧ w = w' := by
  obtain ⟨b, hb⟩ : ∃ b, decide ((0 : Int) ≤ n ∧ n ≤ 262144) = b := ⟨_, rfl⟩
  rw [hb]
  have HB := hide hb
  clear hb
  go_enter Try.func24, Try.ntmps24
  go_wp2_with fail
  refine (withinL_p _ _ _ _).mono ?_
  rintro e w1 ⟨rfl, rfl⟩
  rw [HB.out]
  cases b
  · go_wp2_with fail
    go_ret
    exact ⟨rfl, rfl⟩
  · go_wp2_with fail
    go_ret
    exact ⟨rfl, rfl⟩
set_option maxHeartbeats 1000000 in
theorem index_badD (v : Value) (l : List Int) (w : World) (h : Rd w 1 v l.length (l.map (Value.int .i64))) :
    Calls Try.prog 55 #[v, .func (.func 52) #[] #[]] w fun e w' => ∃ n : Int, e = .returned (.int .i64 n) ∧ decide ((0 : Int) ≤ n) = badI l ∧ w = w' := by
  obtain ⟨_, A, cap, rfl, hcap, hmax, hx⟩ := h
  unfold maxLen at hmax
  have HX := hide hx
  clear hx
  go_enter Try.func55, Try.ntmps55
  go_wp2_with fail
  go_loop [8] (fun i => ∃ k : Nat, k ≤ l.length ∧ i = .int .i64 (k : Int) ∧ Hid (badI l = badI (l.drop k))) (fun i => l.length - (intOf i).toNat)
  case atStart => exact ⟨0, Nat.zero_le _, rfl, by show _ = _; simp⟩
  case round =>
    obtain ⟨k, hk, rfl, hf⟩ := hrel
    by_cases hlt : k < l.length
    · obtain ⟨b, o, rfl, hb, hj⟩ := HX.out (by omega)
      have hc : w.cell? ⟨b, o + k, none⟩ = some (.int .i64 l[k]) := hj k _ (by simp [hlt])
      clear hj
      have hst := badI_drop l k hlt
      obtain ⟨z, hz⟩ : ∃ z, l[k] = z := ⟨_, rfl⟩
      rw [hz] at hc hst
      obtain ⟨q, hq⟩ : ∃ q, decide ((0 : Int) ≤ z ∧ z ≤ 262144) = q := ⟨_, rfl⟩
      rw [hq] at hst
      have HST := hide hst
      have HQ := hide hq
      clear hz hst hq
      go_wp2_with fail
      refine (badD_any _ _).mono ?_
      rintro e w1 ⟨rfl, rfl⟩
      rw [HQ.out]
      cases q
      · go_wp2_with fail
        go_ret
        refine ⟨_, rfl, ?_, rfl⟩
        rw [hf.out, HST.out]
        simp
      · go_wp2_with fail
        go_round
        case rel => exact ⟨k + 1, by omega, by go_num, by show _ = _; rw [hf.out, HST.out]; simp⟩
        case measure => simp [intOf]; omega
    · go_wp2_with fail
      go_ret
      refine ⟨_, rfl, ?_, rfl⟩
      rw [hf.out, List.drop_eq_nil_of_le (by omega)]
      rfl
theorem contains_badD (v : Value) (l : List Int) (w : World) (h : Rd w 1 v l.length (l.map (Value.int .i64))) :
    Calls Try.prog 23 #[v, .func (.func 52) #[] #[]] w fun e w' => e = .returned (.bool (badI l)) ∧ w = w' := by
  go_enter Try.func23, Try.ntmps23
  go_wp2_with fail
  refine (index_badD v l w h).mono ?_
  rintro e w1 ⟨n, rfl, hn, rfl⟩
  go_wp2_with fail
  go_ret
  exact ⟨by rw [← hn]; rfl, rfl⟩
set_option maxHeartbeats 1000000 in
theorem index_badL (v : Value) (l : List Int) (w : World) (h : Rd w 1 v l.length (l.map (Value.int .i64))) :
    Calls Try.prog 55 #[v, .func (.func 24) #[] #[]] w fun e w' => ∃ n : Int, e = .returned (.int .i64 n) ∧ decide ((0 : Int) ≤ n) = badI l ∧ w = w' := by
  obtain ⟨_, A, cap, rfl, hcap, hmax, hx⟩ := h
  unfold maxLen at hmax
  have HX := hide hx
  clear hx
  go_enter Try.func55, Try.ntmps55
  go_wp2_with fail
  go_loop [8] (fun i => ∃ k : Nat, k ≤ l.length ∧ i = .int .i64 (k : Int) ∧ Hid (badI l = badI (l.drop k))) (fun i => l.length - (intOf i).toNat)
  case atStart => exact ⟨0, Nat.zero_le _, rfl, by show _ = _; simp⟩
  case round =>
    obtain ⟨k, hk, rfl, hf⟩ := hrel
    by_cases hlt : k < l.length
    · obtain ⟨b, o, rfl, hb, hj⟩ := HX.out (by omega)
      have hc : w.cell? ⟨b, o + k, none⟩ = some (.int .i64 l[k]) := hj k _ (by simp [hlt])
      clear hj
      have hst := badI_drop l k hlt
      obtain ⟨z, hz⟩ : ∃ z, l[k] = z := ⟨_, rfl⟩
      rw [hz] at hc hst
      obtain ⟨q, hq⟩ : ∃ q, decide ((0 : Int) ≤ z ∧ z ≤ 262144) = q := ⟨_, rfl⟩
      rw [hq] at hst
      have HST := hide hst
      have HQ := hide hq
      clear hz hst hq
      go_wp2_with fail
      refine (badL_any _ _).mono ?_
      rintro e w1 ⟨rfl, rfl⟩
      rw [HQ.out]
      cases q
      · go_wp2_with fail
        go_ret
        refine ⟨_, rfl, ?_, rfl⟩
        rw [hf.out, HST.out]
        simp
      · go_wp2_with fail
        go_round
        case rel => exact ⟨k + 1, by omega, by go_num, by show _ = _; rw [hf.out, HST.out]; simp⟩
        case measure => simp [intOf]; omega
    · go_wp2_with fail
      go_ret
      refine ⟨_, rfl, ?_, rfl⟩
      rw [hf.out, List.drop_eq_nil_of_le (by omega)]
      rfl
theorem contains_badL (v : Value) (l : List Int) (w : World) (h : Rd w 1 v l.length (l.map (Value.int .i64))) :
    Calls Try.prog 23 #[v, .func (.func 24) #[] #[]] w fun e w' => e = .returned (.bool (badI l)) ∧ w = w' := by
  go_enter Try.func23, Try.ntmps23
  go_wp2_with fail
  refine (index_badL v l w h).mono ?_
  rintro e w1 ⟨n, rfl, hn, rfl⟩
  go_wp2_with fail
  go_ret
  exact ⟨by rw [← hn]; rfl, rfl⟩
theorem OutAt.nats {w : World} {O : Nat} {r : List Nat} (h : OutAt w O r) (hr : r.length ≤ maxLen) : Nats w (.slice (some ⟨O, 0, none⟩) r.length r.length) r := by
  refine ⟨by simp [natV], _, _, rfl, Nat.le_refl _, hr, fun _ => ⟨O, 0, rfl, h.lt, fun j u hu => ?_⟩⟩
  have h2 := h
  unfold OutAt at h2
  have hj := (List.getElem?_eq_some_iff.1 hu).1
  simp [World.cell?, h2]
  simpa using hu
theorem StrsAt.strs {w : World} {O : Nat} {r : List ByteArray} (h : StrsAt w O r) (hr : r.length ≤ maxLen) (hs : ∀ s ∈ r, s.size ≤ maxLen) : Strs w (.slice (some ⟨O, 0, none⟩) r.length r.length) r := by
  refine ⟨⟨by simp, _, _, rfl, Nat.le_refl _, hr, fun _ => ⟨O, 0, rfl, h.lt, fun j u hu => ?_⟩⟩, hs⟩
  have h2 := h
  unfold StrsAt at h2
  simp [World.cell?, h2]
  simpa using hu
set_option maxHeartbeats 1000000 in
theorem Codes_large (v : Value) (l : List Int) (w : World) (h : Rd w 1 v l.length (l.map (Value.int .i64))) (hl : 300 < l.length) :
    Calls Try.prog 22 #[v] w fun e w' => e = .returned (.tuple #[.slice none 0 0, .int .i64 2]) ∧ Below w.heap.size w w' := by
  obtain ⟨_, A, cap, rfl, hcap, hmax, hx⟩ := h
  have hl' : (300 : Int) < (l.length : Int) := by omega
  go_enter Try.func22, Try.ntmps22
  go_wp2_with fail
  go_ret2
  exact ⟨rfl, Below.refl _ _⟩
set_option maxHeartbeats 1000000 in
theorem Codes_range (v : Value) (l : List Int) (w : World) (h : Rd w 1 v l.length (l.map (Value.int .i64))) (hl : ¬ 300 < l.length) (hb : badI l = true) :
    Calls Try.prog 22 #[v] w fun e w' => e = .returned (.tuple #[.slice none 0 0, .int .i64 3]) ∧ Below w.heap.size w w' := by
  have HC := hide (contains_badD v l w h)
  rw [hb] at HC
  obtain ⟨_, A, cap, rfl, hcap, hmax, hx⟩ := h
  have hl' : ¬ (300 : Int) < (l.length : Int) := by omega
  have hl'' : decide ((300 : Int) < (l.length : Int)) = false := by simpa using hl'
  go_enter Try.func22, Try.ntmps22
  go_wp2_with fail
  refine HC.out.mono ?_
  rintro e w1 ⟨rfl, rfl⟩
  go_wp2_with fail
  go_ret2
  exact ⟨rfl, Below.refl _ _⟩
set_option maxHeartbeats 1000000 in
theorem Codes_good (v : Value) (c : List Nat) (w : World) (h : Nats w v c) (hl : c.length ≤ 300) (hm : ∀ s ∈ c, s ≤ 262144) (hb : badI (c.map fun n : Nat => (n : Int)) = false) :
    Calls Try.prog 22 #[v] w fun e w' => ∃ (r : List Nat) (SB : Nat), LensOf c r ∧ e = .returned (.tuple #[.slice (some ⟨SB, 0, none⟩) c.length c.length, .int .i64 0]) ∧ StrsAt w' SB (codesL r) ∧ Below w.heap.size w w' := by
  have hi : Rd w 1 v (c.map fun n : Nat => (n : Int)).length ((c.map fun n : Nat => (n : Int)).map (Value.int .i64)) := by
    unfold Nats natV at h
    rw [List.map_map, List.length_map]
    exact h
  have HC := hide (contains_badD v _ w hi)
  rw [hb] at HC
  have HL := hide (lengths_any v c w h hl (fun s hs => Nat.le_trans (hm s hs) (by omega)))
  obtain ⟨_, A, cap, rfl, hcap, hmax, hx⟩ := h
  have hl' : ¬ (300 : Int) < (c.length : Int) := by omega
  have hl'' : decide ((300 : Int) < (c.length : Int)) = false := by simpa using hl'
  go_enter Try.func22, Try.ntmps22
  go_wp2_with fail
  refine HC.out.mono ?_
  rintro e w1 ⟨rfl, rfl⟩
  go_wp2_with fail
  refine HL.out.mono ?_
  rintro e w1 ⟨r, hr, rfl, ho, hb1⟩
  have hrl := lens_length hr
  have hn2 := ho.nats (by unfold maxLen; omega)
  rw [hrl] at hn2
  go_wp2_with fail
  refine (codes_any _ r w1 hn2 (by omega) (lens_good hr)).mono ?_
  rintro e w2 ⟨SB, rfl, hs, hb2⟩
  rw [hrl]
  have hb3 := hb1.trans (hb2.mono hb1.size)
  go_wp2_with fail
  go_ret2
  exact ⟨r, SB, hr, rfl, hs, hb3⟩
end Go.Proofs.Ytfjbdbdjhkmifaa
