import Derived.Test.YtafgncledbddiaaB64W
import Derived.Test.YtafgncledbddiaaHunk
import Derived.Laws.BytesArg
set_option linter.unusedSimpArgs false
set_option linter.unusedVariables false
namespace Go.Proofs.Ytafgncledbddiaa
open Go.RowKit Go.Pw

/-- the letters, as the program's constant -/
def lettersC : ByteArray := ⟨letters64.toArray⟩
/-- what the search for a letter holds -/
def scan (c : UInt8) : Nat → Int
  | 0 => -1
  | k + 1 => if letters64[k]? = some c then (k : Int) else scan c k

theorem scan_all : ∀ c : UInt8, scan c 64 = look64 c := by
  have : ∀ n : Fin 256, scan (UInt8.ofNat n.val) 64 = look64 (UInt8.ofNat n.val) := by decide +kernel
  intro c
  have h := this ⟨c.toNat, c.toNat_lt⟩
  simpa using h
theorem scan_hit {c : UInt8} {k : Nat} (h : letters64[k]? = some c) : scan c (k + 1) = (k : Int) := by rw [scan, if_pos h]
theorem scan_miss {c : UInt8} {k : Nat} (h : ¬ letters64[k]? = some c) : scan c (k + 1) = scan c k := by rw [scan, if_neg h]
theorem u8_eq {a b : UInt8} (h : ((a.toNat : Int) == (b.toNat : Int)) = true) : a = b := UInt8.toNat_inj.1 (by simp at h; omega)
theorem u8_ne {a b : UInt8} (h : ((a.toNat : Int) == (b.toNat : Int)) = false) : ¬ a = b := fun e => by subst e; simp at h
theorem u8_is {a : UInt8} (x : UInt8) (h : ¬ a = x) : ((a.toNat : Int) == (x.toNat : Int)) = false := by
  simp only [beq_eq_false_iff_ne, ne_eq]
  intro e
  exact h (UInt8.toNat_inj.1 (by omega))
theorem lettersC_size : lettersC.size = 64 := rfl
theorem lettersC_at (m : Nat) (h : m < lettersC.size) : letters64[m]? = some lettersC[m] := by
  have h' : m < letters64.length := h
  rw [List.getElem?_eq_getElem h']
  rfl
theorem scan_yes {c : UInt8} {m : Nat} (h : m < lettersC.size) (he : ((lettersC[m].toNat : Int) == (c.toNat : Int)) = true) : (m : Int) = scan c (m + 1) :=
  (scan_hit (by rw [lettersC_at m h, u8_eq he])).symm
theorem scan_no {c : UInt8} {m : Nat} {sc : Int} (h : m < lettersC.size) (hsc : Hid (sc = scan c m)) (he : ((lettersC[m].toNat : Int) == (c.toNat : Int)) = false) : sc = scan c (m + 1) := by
  rw [scan_miss (by rw [lettersC_at m h]; intro e; injection e with e; exact u8_ne he e)]
  exact hsc

/-- what the reference returns -/
def refOut (s : ByteArray) : ByteArray × Int × Bool := match rrun s.data.toList r0 0 with
  | .inl k => (⟨#[]⟩, (k : Int), false)
  | .inr st => if st.many % 4 = 0 then (⟨st.last.toArray⟩, 0, true) else (⟨#[]⟩, (s.size : Int), false)
def refVal (s : ByteArray) : Value := .tuple #[.string (refOut s).1, .int .i64 (refOut s).2.1, .bool (refOut s).2.2]
theorem ref_stop {s : ByteArray} {k : Nat} (h : Hid (rrun s.data.toList r0 0 = .inl k)) : refVal s = .tuple #[.string ⟨#[]⟩, .int .i64 (k : Int), .bool false] := by
  unfold refVal refOut; rw [h.out]

section
variable {c : UInt8} {st : RS}
theorem rstep_letter {v : Nat} (h10 : ¬ c = 10) (hv : (v : Int) = look64 c) (hm : st.marks = 0) : rstep c st = some ⟨st.all ++ bitsN 6 v, st.marks, st.many + 1⟩ := by
  rw [rstep, if_neg h10, if_pos ⟨by omega, hm⟩, ← hv]; rfl
theorem rstep_bad (h10 : ¬ c = 10) (h61 : ¬ c = 61) (h : ¬ (0 ≤ look64 c ∧ st.marks = 0)) : rstep c st = none := by
  rw [rstep, if_neg h10, if_neg h, if_neg (fun h => h61 h.1)]
theorem look61 : look64 61 = -1 := by decide +kernel
theorem rstep_low (h61 : c = 61) (h : st.many % 4 < 2) : rstep c st = none := by
  subst h61
  rw [rstep, if_neg (by decide), if_neg (fun h' => by have := h'.1; rw [look61] at this; omega), if_neg (fun h' => by have := h'.2.1; omega)]
theorem rstep_tail (h61 : c = 61) (hm : st.marks = 0) (ht : rtail st.all (st.many % 4) = false) : rstep c st = none := by
  subst h61
  rw [rstep, if_neg (by decide), if_neg (fun h' => by have := h'.1; rw [look61] at this; omega), if_neg]
  rintro ⟨_, _, h | h⟩
  · omega
  · rw [ht] at h; cases h
theorem rstep_eq (h61 : c = 61) (h2 : 2 ≤ st.many % 4) (ht : 0 < st.marks ∨ rtail st.all (st.many % 4) = true) (h3 : ¬ (st.many % 4 = 3 ∧ 2 < st.marks + 1)) : rstep c st = some ⟨st.all, st.marks + 1, st.many + 1⟩ := by
  subst h61
  rw [rstep, if_neg (by decide), if_neg (fun h' => by have := h'.1; rw [look61] at this; omega), if_pos ⟨rfl, h2, ht⟩, if_neg h3]
theorem rstep_many (h61 : c = 61) (h2 : 2 ≤ st.many % 4) (ht : 0 < st.marks ∨ rtail st.all (st.many % 4) = true) (h3 : st.many % 4 = 3 ∧ 2 < st.marks + 1) : rstep c st = none := by
  subst h61
  rw [rstep, if_neg (by decide), if_neg (fun h' => by have := h'.1; rw [look61] at this; omega), if_pos ⟨rfl, h2, ht⟩, if_pos h3]
end
theorem bytesB_take : ∀ (q : Nat) (l : List Bool) (n : Nat), 8 * q ≤ n → bytesB q l = bytesB q (l.take n)
  | 0, l, n, h => rfl
  | q + 1, l, n, h => by
    rw [bytesB, bytesB, List.take_take, Nat.min_eq_left (by omega), List.drop_take]
    rw [bytesB_take q (l.drop 8) (n - 8) (by omega)]
theorem bytesB_snoc : ∀ (q : Nat) (l : List Bool), bytesB (q + 1) l = bytesB q l ++ [UInt8.ofNat (valB ((l.drop (8 * q)).take 8))]
  | 0, l => rfl
  | q + 1, l => by
    rw [bytesB, bytesB_snoc q (l.drop 8), bytesB, List.drop_drop]
    simp only [List.cons_append]
    rw [show 8 + 8 * q = 8 * (q + 1) by omega]
theorem strB_take (l : List Bool) (n : Nat) : strB (l.take n) = (strB l).extract 0 n := by
  rw [Lib.extract_eq]
  simp [strB, List.map_take]
theorem foldB_lt : ∀ (l : List Bool) (a : Nat), l.foldl (fun a b => 2 * a + b.toNat) a < (a + 1) * 2 ^ l.length
  | [], a => by simp
  | b :: l, a => by
    have h := foldB_lt l (2 * a + b.toNat)
    have hb : 2 * a + b.toNat + 1 ≤ 2 * (a + 1) := by cases b <;> simp <;> omega
    have h2 : (2 * a + b.toNat + 1) * 2 ^ l.length ≤ 2 * (a + 1) * 2 ^ l.length := Nat.mul_le_mul_right _ hb
    have e : (a + 1) * 2 ^ (b :: l).length = 2 * (a + 1) * 2 ^ l.length := by
      rw [List.length_cons, Nat.pow_succ, Nat.mul_comm (2 ^ l.length) 2, ← Nat.mul_assoc, Nat.mul_comm (a + 1) 2]
    rw [List.foldl_cons, e]
    omega
theorem valB_lt (l : List Bool) (n : Nat) (h : l.length ≤ n) : valB l < 2 ^ n := by
  have h1 := foldB_lt l 0
  have h2 : 2 ^ l.length ≤ 2 ^ n := Nat.pow_le_pow_right (by omega) h
  unfold valB
  omega
theorem strB_append (l m : List Bool) : strB l ++ strB m = strB (l ++ m) := by
  apply ByteArray.ext
  simp [strB]

section
variable {s : ByteArray} {k : Nat} {st st' : RS} {R : Nat ⊕ RS}
theorem rrun_go (h : Hid (R = rrun (s.data.toList.drop k) st k)) (hk : k < s.size) (hs : rstep s[k] st = some st') : Hid (R = rrun (s.data.toList.drop (k + 1)) st' (k + 1)) := by
  have := h.out
  rw [drop_byte s k hk, rrun, hs] at this
  exact this
theorem rrun_stop (h : Hid (R = rrun (s.data.toList.drop k) st k)) (hk : k < s.size) (hs : rstep s[k] st = none) : Hid (R = .inl k) := by
  have := h.out
  rw [drop_byte s k hk, rrun, hs] at this
  exact this
theorem rrun_end (h : Hid (R = rrun (s.data.toList.drop k) st k)) (hk : ¬ k < s.size) : Hid (R = .inr st) := by
  have := h.out
  rw [List.drop_of_length_le (by simp; omega)] at this
  exact this
end

theorem zeroTail_int (B : List Bool) (n : Nat) (q : Int) (w : World) (hq : (n : Int) = q) (h4 : 4 ≤ B.length) (hB : B.length ≤ 9223372036854775807) :
    Calls Try.prog 63 #[.string (strB B), .int .i64 q] w fun e w' => e = .returned (.bool (rtail B n)) ∧ w = w' := by
  subst hq
  exact zeroTail_any B n w h4 hB

theorem info_byte : (Try.prog.info? 5).map (fun i => (i.zero, i.size, i.bytes)) = some (some (.int .u8 0), 1, 1) := by kernel_rfl
theorem one_cell_new (w : World) (x : Value) (t : TypeId) : ∀ (j : Nat) (u : Value), [x][j]? = some u → (w.alloc (.cells #[x] t)).cell? (Addr.add ⟨w.heap.size, 0, none⟩ j) = some u
  | 0, u, h => by simp at h; subst h; simp [Addr.add, World.cell?_alloc_new]
  | j + 1, u, h => by simp at h
/-- a byte as a cell -/
def byteV (b : UInt8) : Value := .int .u8 (b.toNat : Int)
theorem valB_next {C : List Bool} {p m : Nat} (h : p + m < C.length) : valB ((C.drop p).take (m + 1)) = 2 * valB ((C.drop p).take m) + (C[p + m]).toNat := by
  rw [List.take_succ_eq_append_getElem (by simp; omega), valB_snoc]
  simp
set_option maxRecDepth 100000 in
/-- string(out) of a row of bytes that the call owns -/
theorem conv_own {w : World} {base q : Nat} {v : Value} {l : List UInt8} (h : w.ownsRow base 5 1 v q (l.map byteV)) :
    (convert 83 9 v).run Try.prog w = .ok (.string ⟨l.toArray⟩) w := by
  have hl : l.length = q := by have := h.1; simpa using this
  rcases h.2 with ⟨rfl, h0⟩ | ⟨g, cap, cur, rfl, hg, hh, hn, hm, hs, hx⟩
  · have : l = [] := List.eq_nil_of_length_eq_zero (by omega)
    subst this
    exact run_convert_bytes_nil w 83 5 Try.underlying83 Try.underlying5 0 0 9 Try.underlying9
  · have hc := (Rd.of_own h)
    obtain ⟨_, A, cp, e, _, _, hr⟩ := hc
    injection e with e1 e2 e3
    subst e1 e3
    by_cases h0 : 0 < q
    · obtain ⟨b, o, e4, _, hj⟩ := hr h0
      injection e4 with e4
      injection e4 with e5 e6
      subst e5 e6
      subst hl
      exact run_convert_bytes_back (P := Try.prog) w 83 9 5 ⟨g, 0, none⟩ cap l Try.underlying83 Try.underlying5 Try.underlying9 (fun j hj' => by
        have := hj j (byteV l[j]) (by simp [hj'])
        have e7 : Addr.add ⟨g, 0, none⟩ j = ⟨g, 0 + j, none⟩ := by unfold Addr.add; split <;> simp_all
        rw [e7]
        exact this)
    · have : l = [] := List.eq_nil_of_length_eq_zero (by omega)
      subst this
      subst hl
      exact run_convert_bytes_back (P := Try.prog) w 83 9 5 ⟨g, 0, none⟩ cap [] Try.underlying83 Try.underlying5 Try.underlying9 (fun j hj' => by simp at hj')

set_option maxHeartbeats 4000000 in
set_option maxRecDepth 100000 in
theorem fromLetters_any (s : ByteArray) (w : World) (hs : s.size ≤ 140737488355328) :
    Calls Try.prog 20 #[.string s] w fun e w' => e = .returned (refVal s) ∧ Below w.heap.size w w' := by
  go_enter Try.func20, Try.ntmps20
  go_wp2
  go_loopw [5, 6, 7, 19] (fun al mk mn i wr => ∃ (k : Nat) (B : List Bool) (marks many : Nat), k ≤ s.size ∧ i = .int .i64 (k : Int) ∧ al = .string (strB B) ∧ mk = .int .i64 (marks : Int) ∧ mn = .int .i64 (many : Int) ∧ B.length ≤ 6 * k ∧ marks ≤ k ∧ many ≤ k ∧ (marks = 0 → 6 * many ≤ B.length) ∧
      Hid (rrun s.data.toList r0 0 = rrun (s.data.toList.drop k) ⟨B, marks, many⟩ k) ∧ Below w.heap.size w wr) (fun _ _ _ i _ => s.size - (intOf i).toNat)
  case atStart => exact ⟨0, [], 0, 0, by omega, rfl, rfl, rfl, rfl, by simp, by omega, by omega, by simp, rfl, Below.refl _ _⟩
  case round =>
    obtain ⟨k, B, marks, many, hk, rfl, rfl, rfl, rfl, hBl, hmk, hmn, hinv0, hrun, hbl⟩ := hrel
    have hinv := hide hinv0
    clear hinv0
    by_cases hlt : k < s.size
    · --<LP
      by_cases h10 : s[k] = 10
      · have h10' : (((s[k]).toNat : Int) == 10) = true := by rw [h10]; rfl
        have HS := hide (rrun_go hrun hlt (show rstep s[k] ⟨B, marks, many⟩ = some ⟨B, marks, many⟩ by rw [rstep, if_pos h10]))
        clear h10
        go_wp2
        go_roundw
        case rel => exact ⟨k + 1, B, marks, many, by omega, by go_num, rfl, rfl, rfl, by omega, by omega, by omega, hinv.out, HS.out, hbl⟩
        case measure => simp [intOf]; omega
      · have h10' : (((s[k]).toNat : Int) == 10) = false := u8_is 10 h10
        have H10 := hide h10
        clear h10
        go_wp2
        go_loop [10, 27] (fun v j => ∃ m : Nat, m ≤ 64 ∧ j = .int .i64 (m : Int) ∧ v = .int .i64 (scan s[k] m)) (fun _ j => 64 - (intOf j).toNat)
        case atStart => exact ⟨0, by omega, rfl, rfl⟩
        case round =>
          obtain ⟨m, hm, rfl, rfl⟩ := hrel
          obtain ⟨sc, hsc⟩ : ∃ sc, sc = scan s[k] m := ⟨_, rfl⟩
          rw [← hsc]
          have HSC := hide hsc
          clear hsc
          by_cases hm64 : m < 64
          · go_wp2
            · have hq : ((lettersC[m].toNat : Int) == (s[k].toNat : Int)) = true := by assumption
              go_round
              case rel => exact ⟨m + 1, by omega, by go_num, by rw [← scan_yes _ hq]⟩
              case measure => simp [intOf]; omega
            · have hq : ((lettersC[m].toNat : Int) == (s[k].toNat : Int)) = false := by assumption
              go_round
              case rel => exact ⟨m + 1, by omega, by go_num, by rw [← scan_no _ HSC hq]⟩
              case measure => simp [intOf]; omega
          · obtain rfl : m = 64 := by omega
            have hlk : sc = look64 s[k] := by rw [HSC.out, scan_all]
            clear HSC
            have b1 := look64_lt s[k]
            have b2 := look64_ge s[k]
            rw [← hlk] at b1 b2
            have HL := hide hlk
            clear hlk
            by_cases h61 : s[k] = 61
            · have h61' : (((s[k]).toNat : Int) == 61) = true := by rw [h61]; rfl
              have hsc1 : sc = -1 := by rw [HL.out, h61, look61]
              subst hsc1
              have H61 := hide h61
              clear h61
              have hq4 : ((many % 4 : Nat) : Int) = (many : Int) % 4 := by omega
              by_cases hq2 : many % 4 < 2
              · have HS := hide (ref_stop (rrun_stop hrun hlt (rstep_low H61.out hq2)))
                have hq2' : (many : Int) % 4 < 2 := by omega
                clear hq4
                go_wp2_with fail
                go_ret3
                exact ⟨by rw [HS.out]; rfl, hbl⟩
              · have hq2' : 2 ≤ (many : Int) % 4 := by omega
                by_cases hm0 : marks = 0
                · have hBl4 : 4 ≤ B.length := by have := hinv.out hm0; omega
                  have hm0' : decide (0 < marks) = false := by simp; omega
                  have HM0 := hide hm0
                  clear hm0
                  rcases ht : rtail B (many % 4) with _ | _
                  · have HS := hide (ref_stop (rrun_stop hrun hlt (rstep_tail H61.out HM0.out ht)))
                    have HT := hide ht
                    clear ht
                    go_wp2_with fail
                    refine (zeroTail_int B (many % 4) _ _ (by omega) hBl4 (by omega)).mono ?_
                    rintro e w1 ⟨rfl, rfl⟩
                    rw [HT.out]
                    go_wp2_with fail
                    go_ret3
                    exact ⟨by rw [HS.out]; rfl, hbl⟩
                  · have HT := hide ht
                    clear ht
                    by_cases hq3 : many % 4 = 3
                    · have hq3' : ((many : Int) % 4 == 3) = true := by simp; omega
                      by_cases hmm : 2 < marks + 1
                      · have HS := hide (ref_stop (rrun_stop hrun hlt (rstep_many H61.out (by show 2 ≤ many % 4; omega) (.inr HT.out) ⟨hq3, hmm⟩)))
                        have hmm' : decide ((2 : Int) < (marks : Int) + 1) = true := by simp; omega
                        clear hq4
                        go_wp2_with fail
                        refine (zeroTail_int B (many % 4) _ _ (by omega) hBl4 (by omega)).mono ?_
                        rintro e w1 ⟨rfl, rfl⟩
                        rw [HT.out]
                        go_wp2_with fail
                        go_ret3
                        exact ⟨by rw [HS.out]; rfl, hbl⟩
                      · have HS := hide (rrun_go hrun hlt (rstep_eq H61.out (by show 2 ≤ many % 4; omega) (.inr HT.out) (fun h => hmm h.2)))
                        have hmm' : decide ((2 : Int) < (marks : Int) + 1) = false := by simp; omega
                        clear hq4
                        go_wp2_with fail
                        refine (zeroTail_int B (many % 4) _ _ (by omega) hBl4 (by omega)).mono ?_
                        rintro e w1 ⟨rfl, rfl⟩
                        rw [HT.out]
                        go_wp2_with fail
                        go_roundw
                        case rel => exact ⟨k + 1, B, marks + 1, many + 1, by omega, by go_num, rfl, by go_num, by go_num, by omega, by omega, by omega, fun h => absurd h (by omega), HS.out, hbl⟩
                        case measure => simp [intOf]; omega
                    · have hq3' : ((many : Int) % 4 == 3) = false := by simp; omega
                      have HS := hide (rrun_go hrun hlt (rstep_eq H61.out (by show 2 ≤ many % 4; omega) (.inr HT.out) (fun h => hq3 h.1)))
                      clear hq4
                      go_wp2_with fail
                      refine (zeroTail_int B (many % 4) _ _ (by omega) hBl4 (by omega)).mono ?_
                      rintro e w1 ⟨rfl, rfl⟩
                      rw [HT.out]
                      go_wp2_with fail
                      go_roundw
                      case rel => exact ⟨k + 1, B, marks + 1, many + 1, by omega, by go_num, rfl, by go_num, by go_num, by omega, by omega, by omega, fun h => absurd h (by omega), HS.out, hbl⟩
                      case measure => simp [intOf]; omega
                · have hm0' : decide (0 < marks) = true := by simp; omega
                  have hmpos : 0 < marks := by omega
                  by_cases hq3 : many % 4 = 3
                  · have hq3' : ((many : Int) % 4 == 3) = true := by simp; omega
                    by_cases hmm : 2 < marks + 1
                    · have HS := hide (ref_stop (rrun_stop hrun hlt (rstep_many H61.out (by show 2 ≤ many % 4; omega) (.inl hmpos) ⟨hq3, hmm⟩)))
                      have hmm' : decide ((2 : Int) < (marks : Int) + 1) = true := by simp; omega
                      clear hq4
                      go_wp2_with fail
                      go_ret3
                      exact ⟨by rw [HS.out]; rfl, hbl⟩
                    · have HS := hide (rrun_go hrun hlt (rstep_eq H61.out (by show 2 ≤ many % 4; omega) (.inl hmpos) (fun h => hmm h.2)))
                      have hmm' : decide ((2 : Int) < (marks : Int) + 1) = false := by simp; omega
                      clear hq4
                      go_wp2_with fail
                      go_roundw
                      case rel => exact ⟨k + 1, B, marks + 1, many + 1, by omega, by go_num, rfl, by go_num, by go_num, by omega, by omega, by omega, fun h => absurd h (by omega), HS.out, hbl⟩
                      case measure => simp [intOf]; omega
                  · have hq3' : ((many : Int) % 4 == 3) = false := by simp; omega
                    have HS := hide (rrun_go hrun hlt (rstep_eq H61.out (by show 2 ≤ many % 4; omega) (.inl hmpos) (fun h => hq3 h.1)))
                    clear hq4
                    go_wp2_with fail
                    go_roundw
                    case rel => exact ⟨k + 1, B, marks + 1, many + 1, by omega, by go_num, rfl, by go_num, by go_num, by omega, by omega, by omega, fun h => absurd h (by omega), HS.out, hbl⟩
                    case measure => simp [intOf]; omega
            · have h61' : (((s[k]).toNat : Int) == 61) = false := u8_is 61 h61
              have H61 := hide h61
              clear h61
              by_cases hA : 0 ≤ sc ∧ marks = 0
              · obtain ⟨hA1, hA2⟩ := hA
                obtain ⟨v, rfl⟩ := Int.eq_ofNat_of_zero_le hA1
                have HS := hide (rrun_go hrun hlt (rstep_letter (v := v) H10.out HL.out hA2))
                have hA2' : ((marks : Int) == 0) = true := by simp; omega
                have hA3 : decide (0 < marks) = false := by simp; omega
                have HA2 := hide hA2
                clear hA2
                have hBz : (strB B).size = B.length := strB_size B
                have hBs : (strB B).size ≤ 6 * k := by omega
                have hBz' := hide hBz
                clear hBz
                go_wp2_with fail
                refine (bits_any v 6 _ (by omega) (by omega)).mono ?_
                rintro e w1 ⟨rfl, hb1⟩
                have hsb : (strB (bitsN 6 v)).size ≤ 6 := by rw [strB_size, bitsN_length]; omega
                have hbl1 : Below w.heap.size w w1 := hbl.trans (hb1.mono hbl.size)
                obtain ⟨sb, hsb2⟩ : ∃ sb, sb = strB (bitsN 6 v) := ⟨_, rfl⟩
                rw [← hsb2] at hsb ⊢
                have HSB := hide hsb2
                clear hsb2 hb1
                go_wp2_with fail
                go_roundw
                case rel => exact ⟨k + 1, B ++ bitsN 6 v, marks, many + 1, by omega, by go_num, by rw [HSB.out, strB_append], rfl, by go_num, by simp [bitsN_length]; omega, by omega, by omega, fun h => by have := hinv.out h; simp [bitsN_length]; omega, HS.out, hbl1⟩
                case measure => simp [intOf]; omega
              · have HS := hide (ref_stop (rrun_stop hrun hlt (rstep_bad (st := ⟨B, marks, many⟩) H10.out H61.out (by rw [← HL.out]; exact hA))))
                have HA := hide hA
                clear hA
                go_wp2_with fail
                · exact absurd ⟨by assumption, by have : ((marks : Int) == 0) = true := by assumption
                                                  simp at this; omega⟩ HA.out
                · go_ret3
                  exact ⟨by rw [HS.out]; rfl, hbl⟩
                · go_ret3
                  exact ⟨by rw [HS.out]; rfl, hbl⟩
      --LP>
    · --<FIN
      have HE := rrun_end hrun hlt
      clear hrun
      have hq4 : ((many % 4 : Nat) : Int) = (many : Int) % 4 := by omega
      by_cases hm4 : many % 4 = 0
      · have hm4' : ((many : Int) % 4 != 0) = false := by simp; omega
        have HV : Hid (refVal s = .tuple #[.string ⟨(bytesB (B.length / 8) B).toArray⟩, .int .i64 0, .bool true]) := by
          show refVal s = _
          unfold refVal refOut
          rw [HE.out]
          simp only [RS.last]
          rw [if_pos hm4]
        clear HE hq4 hm4
        -- what is left of all bits: whole bytes
        obtain ⟨C, hC⟩ : ∃ C, C = if 0 < marks then B.take (B.length - B.length % 8) else B := ⟨_, rfl⟩
        have hCl : C.length / 8 = B.length / 8 := by rw [hC]; split <;> simp <;> omega
        have hCb : bytesB (B.length / 8) B = bytesB (C.length / 8) C := by
          rw [hCl, hC]
          split
          · exact bytesB_take _ _ _ (by omega)
          · rfl
        have hCm : C.length ≤ 6 * k := by
          rw [hC]
          split
          · rw [List.length_take]; omega
          · exact hBl
        rw [hCb] at HV
        have hsz : (strB B).size = B.length := strB_size B
        have hBs : (strB B).size ≤ 6 * k := by omega
        by_cases hmp : 0 < marks
        · have hmp' : decide (0 < marks) = true := by simpa using hmp
          have hcut : (strB B).extract 0 ((strB B).size - (strB B).size % 8) = strB C := by rw [hC, if_pos hmp, strB_take, hsz]
          have HC := hide hcut
          clear hcut hC hCb hCl
          have HSZ := hide hsz
          clear hsz hmp
          go_wp2_with fail
          rw [HC.out]
          have hCz : (strB C).size = C.length := strB_size C
          have hCs : (strB C).size ≤ 6 * k := by omega
          have HCZ := hide hCz
          clear hCz
          obtain ⟨ip, hip, hpz, hps, hpb⟩ := info_parts info_byte
          go_loopw [13, 14] (fun v i wr => ∃ q : Nat, 8 * q ≤ C.length ∧ i = .int .i64 ((8 * q : Nat) : Int) ∧ wr.ownsRow w.heap.size 5 1 v q ((bytesB q C).map byteV) ∧ Below w.heap.size w wr) (fun _ i _ => C.length + 8 - (intOf i).toNat)
          case atStart => exact ⟨0, by omega, rfl, World.ownsRow_nil _ _ _ _, hbl⟩
          case round =>
            obtain ⟨q, hq, rfl, hown, hblq⟩ := hrel
            obtain ⟨p8, hp8⟩ : ∃ p8, p8 = 8 * q := ⟨_, rfl⟩
            rw [← hp8] at hq ⊢
            have HP8 := hide hp8
            have hq8 : 8 * q ≤ p8 := by omega
            clear hp8
            by_cases hlt8 : p8 + 8 ≤ (strB C).size
            · have hlt8' : decide ((p8 : Int) + 8 ≤ ((strB C).size : Int)) = true := by simp; omega
              have hlt9 : decide (p8 + 8 ≤ (strB C).size) = true := by simp; omega
              go_wp2_with fail
              go_loop [15, 108] (fun v j => ∃ m : Nat, m ≤ 8 ∧ j = .int .i64 (m : Int) ∧ v = .int .i64 ((valB ((C.drop p8).take m) : Nat) : Int)) (fun _ j => 8 - (intOf j).toNat)
              case atStart => exact ⟨0, by omega, rfl, rfl⟩
              case round =>
                obtain ⟨m, hm, rfl, rfl⟩ := hrel
                have hvb := valB_lt ((C.drop p8).take m) m (by simp; omega)
                have hv8 : 2 ^ m ≤ 256 := Nat.pow_le_pow_right (by omega) hm
                obtain ⟨vv, hvv⟩ : ∃ vv, vv = valB ((C.drop p8).take m) := ⟨_, rfl⟩
                rw [← hvv] at hvb ⊢
                have hvl : vv < 256 := by omega
                have HVV := hide hvv
                clear hvv hvb hv8
                by_cases hm8 : m < 8
                · have hix : p8 + m < (strB C).size := by omega
                  have hixC : p8 + m < C.length := by have := HCZ.out; omega
                  have hch := strB_at C (p8 + m) hix hixC
                  obtain ⟨n0, hn0⟩ : ∃ n0 : Nat, n0 = ((strB C)[p8 + m]).toNat := ⟨_, rfl⟩
                  have hn1 : n0 = 48 + (C[p8 + m]).toNat := by rw [hn0, hch]; cases C[p8 + m] <;> rfl
                  have hb1 : (C[p8 + m]).toNat ≤ 1 := by cases C[p8 + m] <;> decide
                  have lo : 48 ≤ ((strB C)[p8 + m]).toNat := by omega
                  have hi : ((strB C)[p8 + m]).toNat ≤ 49 := by omega
                  have HN := hide (show (((strB C)[p8 + m]).toNat : Int) - 48 = ((C[p8 + m]).toNat : Int) by omega)
                  clear hch hn0 hn1 hb1
                  have HVN := hide (valB_next hixC)
                  go_wp2_with fail
                  go_round
                  case rel => exact ⟨m + 1, by omega, by go_num, by rw [HVN.out, ← HVV.out]; exact congrArg (Value.int .i64) (by have := HN.out; omega)⟩
                  case measure => simp [intOf]; omega
                · obtain rfl : m = 8 := by omega
                  have hqq : q + 1 ≤ 1000000000000000 := by omega
                  go_wp2_with (at_builtin; refine wpList_append_own _ rfl _ _ 83 rfl w.heap.size 5 ip _ 1 1 Try.underlying83 hip hpz hps hpb rfl (by decide) _ _ _ rfl (hown.alloc _) ⟨wr.heap.size, 0, none⟩ 1 1 [.int .u8 (vv : Int)] rfl rfl (one_cell_new _ _ _) (by simp [Value.oneCell']) (by unfold maxLen; omega) (by omega) (by have := hblq.size; simp; omega) ?_; intro v' w3 hown' hgrow hnil'; have hb3 : Below w.heap.size w w3 := hblq.trans (below_append hown hblq.size hgrow); have ho3 := hide hown'; clear hown' hgrow hnil' hown hblq)
                  go_roundw
                  case rel =>
                    refine ⟨q + 1, by have := HP8.out; have := HCZ.out; omega, ?_, ?_, hb3⟩
                    · exact congrArg (Value.int .i64) (by have := HP8.out; omega)
                    · rw [bytesB_snoc, List.map_append, ← HP8.out, ← HVV.out]
                      have e : byteV (UInt8.ofNat vv) = .int .u8 (vv : Int) := by unfold byteV; simp; omega
                      rw [List.map_cons, List.map_nil, e]
                      exact ho3.out
                  case measure => simp [intOf]; omega
            · have hqd : q = C.length / 8 := by have := HP8.out; have := HCZ.out; omega
              have HQ := hide hqd
              have hlt8' : ¬ ((p8 : Int) + 8 ≤ ((strB C).size : Int)) := by omega
              clear hqd hlt8
              have hcv := conv_own hown
              have HO := hide hown
              clear hown
              go_wp2_with fail
              go_ret3
              refine ⟨?_, hblq⟩
              rw [HV.out, ← HQ.out]
              rfl
        · have hmp' : decide (0 < marks) = false := by simpa using hmp
          rw [if_neg hmp] at hC
          subst hC
          clear hCb hCl hsz
          go_wp2_with fail
          have hCz : (strB C).size = C.length := strB_size C
          have hCs : (strB C).size ≤ 6 * k := by omega
          have HCZ := hide hCz
          clear hCz
          obtain ⟨ip, hip, hpz, hps, hpb⟩ := info_parts info_byte
          go_loopw [13, 14] (fun v i wr => ∃ q : Nat, 8 * q ≤ C.length ∧ i = .int .i64 ((8 * q : Nat) : Int) ∧ wr.ownsRow w.heap.size 5 1 v q ((bytesB q C).map byteV) ∧ Below w.heap.size w wr) (fun _ i _ => C.length + 8 - (intOf i).toNat)
          case atStart => exact ⟨0, by omega, rfl, World.ownsRow_nil _ _ _ _, hbl⟩
          case round =>
            obtain ⟨q, hq, rfl, hown, hblq⟩ := hrel
            obtain ⟨p8, hp8⟩ : ∃ p8, p8 = 8 * q := ⟨_, rfl⟩
            rw [← hp8] at hq ⊢
            have HP8 := hide hp8
            have hq8 : 8 * q ≤ p8 := by omega
            clear hp8
            by_cases hlt8 : p8 + 8 ≤ (strB C).size
            · have hlt8' : decide ((p8 : Int) + 8 ≤ ((strB C).size : Int)) = true := by simp; omega
              have hlt9 : decide (p8 + 8 ≤ (strB C).size) = true := by simp; omega
              go_wp2_with fail
              go_loop [15, 108] (fun v j => ∃ m : Nat, m ≤ 8 ∧ j = .int .i64 (m : Int) ∧ v = .int .i64 ((valB ((C.drop p8).take m) : Nat) : Int)) (fun _ j => 8 - (intOf j).toNat)
              case atStart => exact ⟨0, by omega, rfl, rfl⟩
              case round =>
                obtain ⟨m, hm, rfl, rfl⟩ := hrel
                have hvb := valB_lt ((C.drop p8).take m) m (by simp; omega)
                have hv8 : 2 ^ m ≤ 256 := Nat.pow_le_pow_right (by omega) hm
                obtain ⟨vv, hvv⟩ : ∃ vv, vv = valB ((C.drop p8).take m) := ⟨_, rfl⟩
                rw [← hvv] at hvb ⊢
                have hvl : vv < 256 := by omega
                have HVV := hide hvv
                clear hvv hvb hv8
                by_cases hm8 : m < 8
                · have hix : p8 + m < (strB C).size := by omega
                  have hixC : p8 + m < C.length := by have := HCZ.out; omega
                  have hch := strB_at C (p8 + m) hix hixC
                  obtain ⟨n0, hn0⟩ : ∃ n0 : Nat, n0 = ((strB C)[p8 + m]).toNat := ⟨_, rfl⟩
                  have hn1 : n0 = 48 + (C[p8 + m]).toNat := by rw [hn0, hch]; cases C[p8 + m] <;> rfl
                  have hb1 : (C[p8 + m]).toNat ≤ 1 := by cases C[p8 + m] <;> decide
                  have lo : 48 ≤ ((strB C)[p8 + m]).toNat := by omega
                  have hi : ((strB C)[p8 + m]).toNat ≤ 49 := by omega
                  have HN := hide (show (((strB C)[p8 + m]).toNat : Int) - 48 = ((C[p8 + m]).toNat : Int) by omega)
                  clear hch hn0 hn1 hb1
                  have HVN := hide (valB_next hixC)
                  go_wp2_with fail
                  go_round
                  case rel => exact ⟨m + 1, by omega, by go_num, by rw [HVN.out, ← HVV.out]; exact congrArg (Value.int .i64) (by have := HN.out; omega)⟩
                  case measure => simp [intOf]; omega
                · obtain rfl : m = 8 := by omega
                  have hqq : q + 1 ≤ 1000000000000000 := by omega
                  go_wp2_with (at_builtin; refine wpList_append_own _ rfl _ _ 83 rfl w.heap.size 5 ip _ 1 1 Try.underlying83 hip hpz hps hpb rfl (by decide) _ _ _ rfl (hown.alloc _) ⟨wr.heap.size, 0, none⟩ 1 1 [.int .u8 (vv : Int)] rfl rfl (one_cell_new _ _ _) (by simp [Value.oneCell']) (by unfold maxLen; omega) (by omega) (by have := hblq.size; simp; omega) ?_; intro v' w3 hown' hgrow hnil'; have hb3 : Below w.heap.size w w3 := hblq.trans (below_append hown hblq.size hgrow); have ho3 := hide hown'; clear hown' hgrow hnil' hown hblq)
                  go_roundw
                  case rel =>
                    refine ⟨q + 1, by have := HP8.out; have := HCZ.out; omega, ?_, ?_, hb3⟩
                    · exact congrArg (Value.int .i64) (by have := HP8.out; omega)
                    · rw [bytesB_snoc, List.map_append, ← HP8.out, ← HVV.out]
                      have e : byteV (UInt8.ofNat vv) = .int .u8 (vv : Int) := by unfold byteV; simp; omega
                      rw [List.map_cons, List.map_nil, e]
                      exact ho3.out
                  case measure => simp [intOf]; omega
            · have hqd : q = C.length / 8 := by have := HP8.out; have := HCZ.out; omega
              have HQ := hide hqd
              have hlt8' : ¬ ((p8 : Int) + 8 ≤ ((strB C).size : Int)) := by omega
              clear hqd hlt8
              have hcv := conv_own hown
              have HO := hide hown
              clear hown
              go_wp2_with fail
              go_ret3
              refine ⟨?_, hblq⟩
              rw [HV.out, ← HQ.out]
              rfl
      · have hm4' : ((many : Int) % 4 != 0) = true := by simp; omega
        have HV : Hid (refVal s = .tuple #[.string ⟨#[]⟩, .int .i64 (s.size : Int), .bool false]) := by
          show refVal s = _
          unfold refVal refOut
          rw [HE.out]
          simp only
          rw [if_neg hm4]
        clear HE hq4 hm4
        go_wp2_with fail
        go_ret3
        exact ⟨by rw [HV.out]; rfl, hbl⟩
      --FIN>
end Go.Proofs.Ytafgncledbddiaa
