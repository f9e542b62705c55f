/- The law PatchMatches: what it calls. -/
import Derived.Test.YtfjbdbdjhkmifaaPtR
import Derived.Test.YtfjbdbdjhkmifaaHunkErrs
import Derived.Test.YtfjbdbdjhkmifaaDiffers
set_option linter.unusedVariables false
set_option linter.unusedSimpArgs false
namespace Go.Proofs.Ytfjbdbdjhkmifaa
open Go.RowKit Go.Pw
theorem first_p (v : Value) (l : List Int) (w : World) (h : Rd w 1 v l.length (l.map (Value.int .i64))) :
    Calls Try.prog 13 #[v] w fun e w' => e = .returned (.int .i64 (firstNZ l)) ∧ w = w' := by
  obtain ⟨_, A, cap, rfl, hcap, hmax, hx⟩ := h
  unfold maxLen at hmax
  have HX := hide hx
  clear hx
  go_enter Try.func13, Try.ntmps13
  go_wp2
  go_loop [7] (fun i => ∃ k : Nat, k ≤ l.length ∧ i = .int .i64 (k : Int) ∧ Hid (firstNZ l = firstNZ ((l.drop k).map id))) (fun i => l.length - (intOf i).toNat)
  case atStart => exact ⟨0, by omega, rfl, by show _ = _; simp⟩
  case round =>
    obtain ⟨k, hk, rfl, hf⟩ := hrel
    by_cases hlt : k < l.length
    · obtain ⟨b, o, rfl, hb, hj⟩ := HX.out (by omega)
      have hc : w.cell? ⟨b, o + k, none⟩ = some (.int .i64 l[k]) := hj k _ (by simp [hlt])
      clear hj
      go_wp2_with fail
      · have hne : (l[k] != 0) = true := by assumption
        go_ret
        exact ⟨ret_int (fnz_hit hf hlt rfl (by simpa using hne)), rfl⟩
      · have hne : (l[k] != 0) = false := by assumption
        go_round
        case rel => exact ⟨k + 1, by omega, by go_num, fnz_miss hf hlt (by simpa using hne)⟩
        case measure => simp [intOf]; omega
    · go_wp2_with fail
      go_ret
      exact ⟨ret_int (fnz_end hf hlt), rfl⟩
theorem when_p (c : Bool) (n : Int) (w : World) :
    Calls Try.prog 15 #[.bool c, .int .i64 n] w fun e w' => e = .returned (.int .i64 (if c then n else 0)) ∧ w = w' := by
  cases c
  · go_enter Try.func15, Try.ntmps15
    go_wp2
    go_ret
    exact ⟨rfl, rfl⟩
  · go_enter Try.func15, Try.ntmps15
    go_wp2
    go_ret
    exact ⟨rfl, rfl⟩
theorem withinL_p (n lo hi : Int) (w : World) : Calls Try.prog 16 #[.int .i64 n, .int .i64 lo, .int .i64 hi] w fun e w' => e = .returned (.bool (decide (lo ≤ n ∧ n ≤ hi))) ∧ w = w' := by
  by_cases h1 : lo ≤ n
  · by_cases h2 : n ≤ hi
    · have HD : Hid (decide (lo ≤ n ∧ n ≤ hi) = true) := hide (by simp [h1, h2])
      go_enter Try.func16, Try.ntmps16
      go_wp2
      go_ret
      exact ⟨by first | (rw [HD.out]; rfl) | rfl, rfl⟩
    · have HD : Hid (decide (lo ≤ n ∧ n ≤ hi) = false) := hide (by simp [h2])
      have h2' : decide (n ≤ hi) = false := by simpa using h2
      go_enter Try.func16, Try.ntmps16
      go_wp2
      go_ret
      exact ⟨by first | (rw [HD.out]; rfl) | rfl, rfl⟩
  · have HD : Hid (decide (lo ≤ n ∧ n ≤ hi) = false) := hide (by simp [h1])
    have h1' : decide (lo ≤ n) = false := by simpa using h1
    go_enter Try.func16, Try.ntmps16
    go_wp2
    go_ret
    exact ⟨by first | (rw [HD.out]; rfl) | rfl, rfl⟩
/-- is a hunk far off -/
theorem farH_any (x : Value) (f t : Int) (vo vn : Value) (w : World) (hx : x = .agg #[.int .i64 f, .int .i64 t, vo, vn]) : Calls Try.prog 18 #[x] w fun e w' => e = .returned (.bool (decide ((2000 : Int) < f))) ∧ Below w.heap.size w w' := by
  subst hx
  have hb := (Below.refl w.heap.size w).alloc (Nat.le_refl _) (.cells #[.int .i64 f, .int .i64 t, vo, vn] 43)
  by_cases h : (2000 : Int) < f
  · have h' : decide ((2000 : Int) < f) = true := by simpa using h
    have HD := hide h'
    go_enter Try.func18, Try.ntmps18
    go_wp2_with fail
    go_ret
    exact ⟨by first | (rw [HD.out]; rfl) | rfl, hb⟩
  · have h' : decide ((2000 : Int) < f) = false := by simpa using h
    have HD := hide h'
    go_enter Try.func18, Try.ntmps18
    go_wp2_with fail
    go_ret
    exact ⟨by first | (rw [HD.out]; rfl) | rfl, hb⟩
set_option maxHeartbeats 1000000 in
theorem indexH_any (v : Value) (hs : List Hk) (w : World) (h : Hunks w v hs) :
    Calls Try.prog 49 #[v, .func (.func 18) #[] #[]] w fun e w' => (∃ n : Int, e = .returned (.int .i64 n)) ∧ Below w.heap.size w w' := by
  obtain ⟨vs, hvs, ⟨_, B, cb, rfl, hcb, hmb, hxb⟩, hik, hel⟩ := h
  unfold maxLen at hmb
  have HVS := hide hvs
  have HXB := hide hxb
  clear hvs hxb hel
  go_enter Try.func49, Try.ntmps49
  go_wp2_with fail
  go_loopw [8] (fun i wr => ∃ k : Nat, k ≤ hs.length ∧ i = .int .i64 (k : Int) ∧ Hid (Below w.heap.size w wr)) (fun i _ => hs.length - (intOf i).toNat)
  case atStart => exact ⟨0, Nat.zero_le _, rfl, Below.refl _ _⟩
  case round =>
    obtain ⟨k, hk, rfl, hbw⟩ := hrel
    by_cases hlt : k < hs.length
    · obtain ⟨ba, oa, rfl, hba, hja⟩ := HXB.out (by omega)
      have kv : k < vs.length := by rw [HVS.out]; exact hlt
      have cs := hkCells_at hs vs k hs[k] vs[k] (List.getElem?_eq_getElem hlt) (List.getElem?_eq_getElem kv) HVS.out
      rw [Nat.mul_comm] at cs
      have a0 := (hbw.out.cell hba).trans (hja _ _ cs.1)
      have a1 := (hbw.out.cell hba).trans (hja _ _ cs.2.1)
      have a2 := (hbw.out.cell hba).trans (hja _ _ cs.2.2.1)
      have a3 := (hbw.out.cell hba).trans (hja _ _ cs.2.2.2)
      clear cs hja
      simp only [← Nat.add_assoc] at a0 a1 a2 a3
      go_wp2_with fail
      refine (farH_any _ _ _ _ _ _ rfl).mono ?_
      rintro e w1 ⟨rfl, hb1⟩
      obtain ⟨b, hbb⟩ : ∃ b, decide ((2000 : Int) < hs[k].frm) = b := ⟨_, rfl⟩
      rw [hbb]
      clear hbb
      have hb2 := hide (hbw.out.trans (hb1.mono hbw.out.size))
      clear a0 a1 a2 a3 hb1 hbw
      cases b
      · go_wp2_with fail
        go_roundw
        case rel => exact ⟨k + 1, by omega, by go_num, hb2⟩
        case measure => simp [intOf]; omega
      · go_wp2_with fail
        go_ret
        exact ⟨⟨_, rfl⟩, hb2.out⟩
    · go_wp2_with fail
      go_ret
      exact ⟨⟨_, rfl⟩, hbw.out⟩
theorem containsH_any (v : Value) (hs : List Hk) (w : World) (h : Hunks w v hs) :
    Calls Try.prog 17 #[v, .func (.func 18) #[] #[]] w fun e w' => (∃ b : Bool, e = .returned (.bool b)) ∧ Below w.heap.size w w' := by
  go_enter Try.func17, Try.ntmps17
  go_wp2_with fail
  refine (indexH_any v hs w h).mono ?_
  rintro e w1 ⟨⟨n, rfl⟩, hb⟩
  go_wp2_with fail
  go_ret
  exact ⟨⟨_, rfl⟩, hb⟩
theorem plCells_at (l : List Pl) (k : Nat) (hk : k < l.length) : (plCells l)[k * 5]? = some (.int .i64 (l[k].hunk : Int)) ∧ (plCells l)[k * 5 + 1]? = some (.int .i64 l[k].line) ∧ (plCells l)[k * 5 + 2]? = some (.int .i64 l[k].off) ∧ (plCells l)[k * 5 + 3]? = some (.int .i64 l[k].fuzz) ∧ (plCells l)[k * 5 + 4]? = some (.bool l[k].done) := by
  induction l generalizing k with
  | nil => simp at hk
  | cons p l ih =>
    cases k with
    | zero => simp [plCells]
    | succ k =>
      have := ih k (by simpa using hk)
      rw [show (k + 1) * 5 = k * 5 + 5 by omega]
      have e : ∀ j, (plCells (p :: l))[j + 5]? = (plCells l)[j]? := fun j => by simp [plCells]
      refine ⟨by rw [e]; exact this.1, by rw [show k * 5 + 5 + 1 = k * 5 + 1 + 5 by omega, e]; exact this.2.1, by rw [show k * 5 + 5 + 2 = k * 5 + 2 + 5 by omega, e]; exact this.2.2.1, by rw [show k * 5 + 5 + 3 = k * 5 + 3 + 5 by omega, e]; exact this.2.2.2.1, by rw [show k * 5 + 5 + 4 = k * 5 + 4 + 5 by omega, e]; exact this.2.2.2.2⟩
set_option maxHeartbeats 1000000 in
theorem equalPl_same (v1 v2 : Value) (l : List Pl) (w : World) (h1 : Rd w 5 v1 l.length (plCells l)) (h2 : Rd w 5 v2 l.length (plCells l)) :
    Calls Try.prog 21 #[v1, v2] w fun e w' => e = .returned (.bool true) ∧ ∃ q, w' = w.drewN q := by
  obtain ⟨_, A, ca, rfl, hca, hma, hxa⟩ := h1
  obtain ⟨_, B, cb, rfl, hcb, hmb, hxb⟩ := h2
  unfold maxLen at hma hmb
  have HXA := hide hxa
  have HXB := hide hxb
  clear hxa hxb
  go_enter Try.func21, Try.ntmps21
  go_wp2_with fail
  go_loopw [13] (fun i wr => ∃ k q : Nat, k ≤ l.length ∧ i = .int .i64 (k : Int) ∧ Hid (wr = w.drewN q)) (fun i _ => l.length - (intOf i).toNat)
  case atStart => exact ⟨0, 0, Nat.zero_le _, rfl, rfl⟩
  case round =>
    obtain ⟨k, q, hk, rfl, hwr⟩ := hrel
    have hwr' := hwr.out
    subst hwr'
    clear hwr
    by_cases hlt : k < l.length
    · obtain ⟨ba, oa, rfl, hba, hja⟩ := HXA.out (by omega)
      obtain ⟨bb, ob, rfl, hbb, hjb⟩ := HXB.out (by omega)
      obtain ⟨p0, p1, p2, p3, p4⟩ := plCells_at l k hlt
      have a0 := hja _ _ p0
      have a1 := hja _ _ p1
      have a2 := hja _ _ p2
      have a3 := hja _ _ p3
      have a4 := hja _ _ p4
      have b0 := hjb _ _ p0
      have b1 := hjb _ _ p1
      have b2 := hjb _ _ p2
      have b3 := hjb _ _ p3
      have b4 := hjb _ _ p4
      simp only [← Nat.add_assoc] at a0 a1 a2 a3 a4 b0 b1 b2 b3 b4
      clear p0 p1 p2 p3 p4 hja hjb
      go_wp2_with fail
      go_quiet (fail)
      clear a0 a1 a2 a3 a4 b0 b1 b2 b3 b4
      go_wp2_with fail
      go_roundw
      case rel => exact ⟨k + 1, _, by omega, by go_num, hide rfl⟩
      case measure => simp [intOf]; omega
    · go_wp2_with fail
      go_ret
      exact ⟨rfl, q, rfl⟩
end Go.Proofs.Ytfjbdbdjhkmifaa
