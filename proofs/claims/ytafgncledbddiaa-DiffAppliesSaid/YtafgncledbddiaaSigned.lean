import Derived.Test.YtafgncledbddiaaPiece
import Derived.Test.YtafgncledbddiaaLetters
import Derived.Test.YtafgncledbddiaaLists
set_option linter.unusedSimpArgs false
set_option linter.unusedVariables false
namespace Go.Proofs.Ytafgncledbddiaa
open Go.RowKit Go.Pw

theorem linesW_take (l : List ByteArray) (k : Nat) : linesW (l.take k) ≤ linesW l := by
  induction l generalizing k with
  | nil => simp
  | cons s l ih =>
    cases k with
    | zero => simp [linesW]
    | succ k => have := ih k; simp [linesW]; omega
theorem linesW_mem {l : List ByteArray} {s : ByteArray} (h : s ∈ l) : s.size + 1 ≤ linesW l := by
  induction l with
  | nil => cases h
  | cons x l ih =>
    simp only [linesW]
    rcases List.mem_cons.1 h with e | e
    · subst e; omega
    · have := ih e; omega
theorem strL_list (s : ByteArray) : strL s.data.toList = s := by
  obtain ⟨⟨l⟩⟩ := s
  rfl

set_option maxHeartbeats 1000000 in
theorem resultOf_any (v : Value) (l : List ByteArray) (w : World) (h : Strs w v l) (hw : linesW l ≤ 1048576) :
    Calls Try.prog 67 #[v] w fun e w' => e = .returned (.string (strL (resT l))) ∧ w = w' := by
  obtain ⟨⟨_, A, cap, rfl, hcap, hmax, hx⟩, hsz⟩ := h
  unfold maxLen at hmax
  have HX := hide hx
  clear hx hsz
  go_enter Try.func67, Try.ntmps67
  go_wp2
  go_loop [3, 8] (fun s i => ∃ k : Nat, k ≤ l.length ∧ i = .int .i64 (k : Int) ∧ s = .string (strL (resT (l.take k)))) (fun _ i => l.length - (intOf i).toNat)
  case atStart => exact ⟨0, by omega, rfl, rfl⟩
  case round =>
    obtain ⟨k, hk, rfl, rfl⟩ := hrel
    by_cases hlt : k < l.length
    · obtain ⟨b, o, rfl, hb, hj⟩ := HX.out (by omega)
      have hc : w.cell? ⟨b, o + k, none⟩ = some (.string l[k]) := hj k _ (by simp [hlt])
      have hz : l[k].size + 1 ≤ 1048576 := Nat.le_trans (linesW_mem (List.getElem_mem hlt)) hw
      have ho : (strL (resT (l.take k))).size ≤ 1048576 := by rw [strL_size, resT_length]; exact Nat.le_trans (linesW_take l k) hw
      have HN : Hid (strL (resT (l.take (k + 1))) = strL (resT (l.take k)) ++ (l[k] ++ (⟨#[10]⟩ : ByteArray))) := by
        show _ = _
        rw [List.take_succ_eq_append_getElem hlt, resT, signedT_snoc, ← strL_append, List.nil_append, ← strL_append, strL_list]
        rfl
      obtain ⟨x, hx⟩ : ∃ x, strL (resT (l.take k)) = x := ⟨_, rfl⟩
      rw [hx] at ho HN ⊢
      clear hx hj
      go_wp2_with fail
      go_round
      case rel => exact ⟨k + 1, by omega, by go_num, by rw [HN.out]⟩
      case measure => simp [intOf]; omega
    · obtain rfl : k = l.length := by omega
      rw [List.take_length]
      go_wp2_with fail
      go_ret
      exact ⟨rfl, rfl⟩

/-- lines are written into a builder of the call's own; they lie in blocks below B, the world's size when the lines were there -/
theorem signed_any (B b : Nat) (acc sg : List UInt8) (v : Value) (l : List ByteArray) (w0 w : World) (h : Strs w0 v l) (hB0 : w0.heap.size ≤ B) (hb0 : Below w0.heap.size w0 w) (hB : B ≤ w.heap.size)
    (hb : Bld B b acc w) (hw : linesW l ≤ 1048576) (hsg : sg.length ≤ 1) (hacc : acc.length ≤ 1000000000000) :
    Calls Try.prog 64 #[.pointer (some ⟨b, 0, none⟩), .string (strL sg), v] w fun e w' => e = .returned (.tuple #[]) ∧ (Bld B b (acc ++ signedT sg l) w' ∧ Below B w w' ∧ OffB w w') := by
  obtain ⟨⟨_, A, cap, rfl, hcap, hmax, hx⟩, hsz⟩ := h
  unfold maxLen at hmax
  have HX := hide hx
  clear hx hsz
  go_enter Try.func64, Try.ntmps64
  go_wp2
  go_loopw [10] (fun i wr => ∃ k : Nat, k ≤ l.length ∧ i = .int .i64 (k : Int) ∧ Bld B b (acc ++ signedT sg (l.take k)) wr ∧ Below B w wr ∧ OffB w wr) (fun i _ => l.length - (intOf i).toNat)
  case atStart => exact ⟨0, by omega, rfl, by simpa [signedT] using hb, Below.refl _ _, OffB.refl _⟩
  case round =>
    obtain ⟨k, hk, rfl, hbk, hbw, hoff⟩ := hrel
    by_cases hlt : k < l.length
    · obtain ⟨bb, o, rfl, hbb, hj⟩ := HX.out (by omega)
      have hb0k : Below w0.heap.size w0 wr := hb0.trans (hbw.mono hB0)
      have hc : wr.cell? ⟨bb, o + k, none⟩ = some (.string l[k]) := (hb0k.cell (p := ⟨bb, o + k, none⟩) hbb).trans (hj k _ (by simp [hlt]))
      have hz : l[k].size + 1 ≤ 1048576 := Nat.le_trans (linesW_mem (List.getElem_mem hlt)) hw
      have hsgz : (strL sg).size ≤ 1 := by rw [strL_size]; exact hsg
      have hlen : (signedT sg (l.take k)).length ≤ 1048576 + 1048576 := by
        have : ∀ m : List ByteArray, (signedT sg m).length ≤ linesW m + m.length := by
          intro m
          induction m with
          | nil => simp [signedT]
          | cons s m ih => simp [signedT, linesW]; omega
        have h1 := this (l.take k)
        have h2 := linesW_take l k
        have h3 : ∀ m : List ByteArray, m.length ≤ linesW m := by
          intro m
          induction m with
          | nil => simp
          | cons s m ih => simp [linesW]; omega
        have := h3 (l.take k)
        omega
      have hzz : B ≤ wr.heap.size := by have := hbw.size; omega
      have HN : Hid ((acc ++ signedT sg (l.take k)) ++ (strL sg ++ l[k] ++ (⟨#[10]⟩ : ByteArray)).data.toList = acc ++ signedT sg (l.take (k + 1))) := by
        show _ = _
        rw [List.take_succ_eq_append_getElem hlt, signedT_snoc]
        simp [strL]
      have hsum : (acc ++ signedT sg (l.take k)).length + (strL sg ++ l[k] ++ (⟨#[10]⟩ : ByteArray)).size ≤ 140737488355328 := by
        rw [List.length_append, ByteArray.size_append, ByteArray.size_append]
        have : (⟨#[10]⟩ : ByteArray).size = 1 := rfl
        omega
      clear hj hb0k hlen
      go_wp2_with fail
      refine (writeString_off _ _ _ _ _ hbk hsum hzz).mono ?_
      rintro e w2 ⟨rfl, hb2, hbe2, hoff2⟩
      rw [HN.out] at hb2
      have hbw2 := hbw.trans hbe2
      go_wp2_with fail
      go_roundw
      case rel => exact ⟨k + 1, by omega, by go_num, hb2, hbw2, hoff.trans hoff2⟩
      case measure => simp [intOf]; omega
    · obtain rfl : k = l.length := by omega
      rw [List.take_length] at hbk
      go_wp2_with fail
      go_end0
      exact ⟨rfl, hbk, hbw, hoff⟩

/-- the first error of some -/
theorem first_any (v : Value) (l : List Int) (w : World) (h : Rd w 1 v l.length (l.map (Value.int .i64))) :
    Calls Try.prog 22 #[v] w fun e w' => e = .returned (.int .i64 (firstNZ l)) ∧ w = w' := by
  obtain ⟨_, A, cap, rfl, hcap, hmax, hx⟩ := h
  unfold maxLen at hmax
  have HX := hide hx
  clear hx
  go_enter Try.func22, Try.ntmps22
  go_wp2
  go_loop [7] (fun i => ∃ k : Nat, k ≤ l.length ∧ i = .int .i64 (k : Int) ∧ Hid (firstNZ l = firstNZ ((l.drop k).map id))) (fun i => l.length - (intOf i).toNat)
  case atStart => exact ⟨0, by omega, rfl, by show _ = _; simp⟩
  case round =>
    obtain ⟨k, hk, rfl, hf⟩ := hrel
    by_cases hlt : k < l.length
    · obtain ⟨b, o, rfl, hb, hj⟩ := HX.out (by omega)
      have hc : w.cell? ⟨b, o + k, none⟩ = some (.int .i64 l[k]) := hj k _ (by simp [hlt])
      clear hj
      go_wp2_with fail
      · have hne : (l[k] != 0) = true := by assumption
        go_ret
        exact ⟨ret_int (fnz_hit hf hlt rfl (by simpa using hne)), rfl⟩
      · have hne : (l[k] != 0) = false := by assumption
        go_round
        case rel => exact ⟨k + 1, by omega, by go_num, fnz_miss hf hlt (by simpa using hne)⟩
        case measure => simp [intOf]; omega
    · go_wp2_with fail
      go_ret
      exact ⟨ret_int (fnz_end hf hlt), rfl⟩
theorem when_any (c : Bool) (n : Int) (w : World) :
    Calls Try.prog 23 #[.bool c, .int .i64 n] w fun e w' => e = .returned (.int .i64 (if c then n else 0)) ∧ w = w' := by
  cases c
  · go_enter Try.func23, Try.ntmps23
    go_wp2
    go_ret
    exact ⟨rfl, rfl⟩
  · go_enter Try.func23, Try.ntmps23
    go_wp2
    go_ret
    exact ⟨rfl, rfl⟩
/-- outcome, where it is as it should be -/
theorem outcome_bad (t : ByteArray) (n : Int) (w : World) (h : ¬ n = 0) :
    Calls Try.prog 24 #[.string ⟨#[]⟩, .int .i64 n, .string t, .int .i64 n] w fun e w' => e = .returned (.bool true) ∧ w = w' := by
  have h' : (n != 0) = true := by simpa using h
  go_enter Try.func24, Try.ntmps24
  go_wp2
  go_ret
  exact ⟨ret_bool (by simp), rfl⟩
theorem outcome_good (t : ByteArray) (w : World) :
    Calls Try.prog 24 #[.string t, .int .i64 0, .string t, .int .i64 0] w fun e w' => e = .returned (.bool true) ∧ w = w' := by
  go_enter Try.func24, Try.ntmps24
  go_wp2
  go_ret
  exact ⟨ret_bool (by simp), rfl⟩
end Go.Proofs.Ytafgncledbddiaa
