import Derived.Test.YtafgncledbddiaaFromL
import Derived.Lib.ConvBytes
import Derived.Lib.AtoiErrMem
set_option linter.unusedSimpArgs false
set_option linter.unusedVariables false
namespace Go.Proofs.Ytafgncledbddiaa
open Go.RowKit Go.Pw

/-- what the program returns -/
def progOut (s : ByteArray) : ByteArray × Int × Int := if 262144 < s.size then (⟨#[]⟩, 0, 2) else match prun s.data.toList p0 0 with
  | .inl k => (⟨#[]⟩, (k : Int), 1)
  | .inr st => if st.count + st.filled = 0 ∨ st.count + st.filled = 4 then (⟨st.last.toArray⟩, 0, 0) else (⟨#[]⟩, (s.size : Int), 1)
def progVal (s : ByteArray) : Value := .tuple #[.string (progOut s).1, .int .i64 (progOut s).2.1, .int .i64 (progOut s).2.2]

section
variable {s : ByteArray} {k : Nat} {R : Nat ⊕ PS} {st st' : PS}
theorem prun_go (h : Hid (R = prun (s.data.toList.drop k) st k)) (hk : k < s.size) (hs : pstep s[k] st = some st') : Hid (R = prun (s.data.toList.drop (k + 1)) st' (k + 1)) := by
  have := h.out
  rw [drop_byte s k hk, prun, hs] at this
  exact this
theorem prun_stop (h : Hid (R = prun (s.data.toList.drop k) st k)) (hk : k < s.size) (hs : pstep s[k] st = none) : Hid (R = .inl k) := by
  have := h.out
  rw [drop_byte s k hk, prun, hs] at this
  exact this
theorem prun_end (h : Hid (R = prun (s.data.toList.drop k) st k)) (hk : ¬ k < s.size) : Hid (R = .inr st) := by
  have := h.out
  rw [List.drop_of_length_le (by simp; omega)] at this
  exact this
theorem prog_stop (hl : ¬ 262144 < s.size) (h : Hid (prun s.data.toList p0 0 = .inl k)) : progVal s = .tuple #[.string ⟨#[]⟩, .int .i64 (k : Int), .int .i64 1] := by
  unfold progVal progOut
  rw [if_neg hl, h.out]
end

theorem bits_or_i64_nat (a b : Nat) (ha : a < 9223372036854775808) (hb : b < 9223372036854775808) : bits .or .i64 (a : Int) (b : Int) = ((a ||| b : Nat) : Int) := by
  have hx : a ||| b < 2 ^ 63 := Nat.or_lt_two_pow (by omega) (by omega)
  have h1 : (BitVec.ofInt 64 (a : Int)).toNat = a := by
    rw [BitVec.ofInt_natCast, BitVec.toNat_ofNat]; exact Nat.mod_eq_of_lt (by omega)
  have h2 : (BitVec.ofInt 64 (b : Int)).toNat = b := by
    rw [BitVec.ofInt_natCast, BitVec.toNat_ofNat]; exact Nat.mod_eq_of_lt (by omega)
  show IntKind.i64.wrap ((BitVec.ofInt 64 (a : Int) ||| BitVec.ofInt 64 (b : Int)).toNat : Int) = _
  rw [BitVec.toNat_or, h1, h2]
  simp [IntKind.wrap, IntKind.bits, IntKind.signed]
  omega
theorem bits_and_i64_nat (a b : Nat) (ha : a < 9223372036854775808) (hb : b < 9223372036854775808) : bits .and .i64 (a : Int) (b : Int) = ((a &&& b : Nat) : Int) := by
  have hx : a &&& b ≤ a := Nat.and_le_left
  have h1 : (BitVec.ofInt 64 (a : Int)).toNat = a := by
    rw [BitVec.ofInt_natCast, BitVec.toNat_ofNat]; exact Nat.mod_eq_of_lt (by omega)
  have h2 : (BitVec.ofInt 64 (b : Int)).toNat = b := by
    rw [BitVec.ofInt_natCast, BitVec.toNat_ofNat]; exact Nat.mod_eq_of_lt (by omega)
  show IntKind.i64.wrap ((BitVec.ofInt 64 (a : Int) &&& BitVec.ofInt 64 (b : Int)).toNat : Int) = _
  rw [BitVec.toNat_and, h1, h2]
  simp [IntKind.wrap, IntKind.bits, IntKind.signed]
  omega
theorem or64 (n m : Nat) (hn : n < 262144) (hm : m < 64) : bits .or .i64 ((n : Int) * 64) (m : Int) = ((n * 64 + m : Nat) : Int) := by
  have h := bits_or_i64_nat (n * 64) m (by omega) (by omega)
  have e : ((n * 64 : Nat) : Int) = (n : Int) * 64 := by omega
  rw [← e, h]
  congr 1
  have := Nat.two_pow_add_eq_or_of_lt (i := 6) (b := m) (by omega) n
  rw [Nat.mul_comm n 64]
  exact this.symm
theorem and_low (n i : Nat) (hn : n < 262144) (hi : i < 60) : bits .and .i64 (n : Int) ((2 ^ i - 1 : Nat) : Int) = ((n % 2 ^ i : Nat) : Int) := by
  have hp : 2 ^ i ≤ 2 ^ 60 := Nat.pow_le_pow_right (by omega) (by omega)
  rw [bits_and_i64_nat _ _ (by omega) (by omega), Nat.and_two_pow_sub_one_eq_mod]

theorem letter_ok {n count m : Nat} {out : List UInt8} (h : (⟨n, count, 0, out⟩ : PS).ok) (hm : m < 64) (h4 : ¬ count + 1 = 4) : (⟨n * 64 + m, count + 1, 0, out⟩ : PS).ok := by
  obtain ⟨h1, h2, h3, h5⟩ := h
  simp only at h1 h2 h3 h5
  refine ⟨by show count + 1 < 4; omega, ?_, by show count + 1 + 0 ≤ 4; omega, by simp⟩
  show n * 64 + m < 64 ^ (count + 1)
  rw [Nat.pow_succ]
  omega
theorem three_cells (w : World) (x y z : Value) (t : TypeId) : ∀ (j : Nat) (u : Value), [x, y, z][j]? = some u → (w.alloc (.cells #[x, y, z] t)).cell? (Addr.add ⟨w.heap.size, 0, none⟩ j) = some u := by
  intro j u h
  rcases j with _ | _ | _ | j <;> simp at h <;> subst h <;> simp [Addr.add]
theorem byte_of (n : Nat) : (.int .u8 ((n : Int) % 256) : Value) = byteV (UInt8.ofNat n) := by
  unfold byteV
  simp

theorem bytes3_V (N : Nat) (h : N < 16777216) : (bytes3 N).map byteV = [.int .u8 ((N : Int) / 65536), .int .u8 ((N : Int) / 256 % 256), .int .u8 ((N : Int) % 256)] := by
  have h1 : (UInt8.ofNat (N / 65536)).toNat = N / 65536 % 256 := by simp
  have h2 : (UInt8.ofNat (N / 256)).toNat = N / 256 % 256 := by simp
  have h3 : (UInt8.ofNat N).toNat = N % 256 := by simp
  simp only [bytes3, List.map_cons, List.map_nil, byteV, h1, h2, h3]
  have e1 : ((N / 65536 % 256 : Nat) : Int) = (N : Int) / 65536 := by omega
  have e2 : ((N / 256 % 256 : Nat) : Int) = (N : Int) / 256 % 256 := by omega
  have e3 : ((N % 256 : Nat) : Int) = (N : Int) % 256 := by omega
  rw [e1, e2, e3]
theorem ok_mk {n count filled : Nat} {out : List UInt8} (h1 : count < 4) (h2 : n < 64 ^ count) (h3 : count + filled ≤ 4) (h4 : 2 ≤ count ∨ filled = 0) : (⟨n, count, filled, out⟩ : PS).ok := ⟨h1, h2, h3, fun (h : 0 < filled) => show 2 ≤ count by omega⟩
theorem ok_zero (out : List UInt8) : (⟨0, 0, 0, out⟩ : PS).ok := ok_mk (by decide) (by decide) (by decide) (.inr rfl)
section
variable {c : UInt8} {n count filled : Nat} {out : List UInt8}
theorem pstep_bad (h10 : ¬ c = 10) (h61 : ¬ c = 61) (h : ¬ (0 ≤ look64 c ∧ filled = 0)) : pstep c ⟨n, count, filled, out⟩ = none := by
  rw [pstep, if_neg h10, if_neg h, if_neg (fun h => h61 h.1)]
theorem pstep_eq (h61 : c = 61) (h : 2 ≤ count ∧ count + filled < 4 ∧ n % 2 ^ (2 * (4 - count)) = 0) : pstep c ⟨n, count, filled, out⟩ = some ⟨n, count, filled + 1, out⟩ := by
  subst h61
  rw [pstep, if_neg (by decide), if_neg (fun h' => by have := h'.1; rw [look61] at this; omega), if_pos ⟨rfl, h.1, h.2.1, by simp [PS.tail0, h.2.2]⟩]
theorem pstep_no (h61 : c = 61) (h : ¬ (2 ≤ count ∧ count + filled < 4 ∧ n % 2 ^ (2 * (4 - count)) = 0)) : pstep c ⟨n, count, filled, out⟩ = none := by
  subst h61
  rw [pstep, if_neg (by decide), if_neg (fun h' => by have := h'.1; rw [look61] at this; omega), if_neg]
  rintro ⟨_, h1, h2, h3⟩
  exact h ⟨h1, h2, by simpa [PS.tail0] using h3⟩
end
theorem and_15 (n : Nat) (hn : n < 262144) : bits .and .i64 (n : Int) 15 = ((n % 16 : Nat) : Int) := and_low n 4 hn (by omega)
theorem and_3 (n : Nat) (hn : n < 262144) : bits .and .i64 (n : Int) 3 = ((n % 4 : Nat) : Int) := and_low n 2 hn (by omega)
theorem prog_end {s : ByteArray} {st : PS} (hl : ¬ 262144 < s.size) (h : Hid (prun s.data.toList p0 0 = .inr st)) (he : st.count + st.filled = 0 ∨ st.count + st.filled = 4) : progVal s = .tuple #[.string ⟨st.last.toArray⟩, .int .i64 0, .int .i64 0] := by
  unfold progVal progOut
  rw [if_neg hl, h.out]
  simp only [if_pos he]
theorem prog_short {s : ByteArray} {st : PS} (hl : ¬ 262144 < s.size) (h : Hid (prun s.data.toList p0 0 = .inr st)) (he : ¬ (st.count + st.filled = 0 ∨ st.count + st.filled = 4)) : progVal s = .tuple #[.string ⟨#[]⟩, .int .i64 (s.size : Int), .int .i64 1] := by
  unfold progVal progOut
  rw [if_neg hl, h.out]
  simp only [if_neg he]
theorem byteV_of (x : Nat) (h : x < 256) : byteV (UInt8.ofNat x) = .int .u8 (x : Int) := by
  unfold byteV; simp; omega

theorem look_any (c : UInt8) (L : Int) (hL : look64 c = L) (w : World) :
    Calls Try.prog 61 #[.string ⟨#[65, 66, 67, 68, 69, 70, 71, 72, 73, 74, 75, 76, 77, 78, 79, 80, 81, 82, 83, 84, 85, 86, 87, 88, 89, 90, 97, 98, 99, 100, 101, 102, 103, 104, 105, 106, 107, 108, 109, 110, 111, 112, 113, 114, 115, 116, 117, 118, 119, 120, 121, 122, 48, 49, 50, 51, 52, 53, 54, 55, 56, 57, 43, 47]⟩, .int .u8 (c.toNat : Int)] w fun e w' => e = .returned (.int .i64 L) ∧ w' = w := by
  subst hL
  refine (Try.strings_IndexByte _ _ _).mono ?_
  rintro e w' ⟨rfl, rfl⟩
  have : ((c.toNat : Int).toNat).toUInt8 = c := by simp
  rw [this]
  exact ⟨rfl, rfl⟩

set_option maxHeartbeats 4000000 in
set_option maxRecDepth 100000 in
theorem bytes64_any (s : ByteArray) (w : World) (hs : s.size ≤ 140737488355328) :
    Calls Try.prog 19 #[.string s] w fun e w' => e = .returned (progVal s) ∧ Below w.heap.size w w' := by
  by_cases hl : 262144 < s.size
  · have hl' : decide ((262144 : Int) < (s.size : Int)) = true := by simp; omega
    have HV : Hid (progVal s = .tuple #[.string ⟨#[]⟩, .int .i64 0, .int .i64 2]) := by
      show progVal s = _
      unfold progVal progOut; rw [if_pos hl]
    go_enter Try.func19, Try.ntmps19
    go_wp2_with fail
    go_ret3
    exact ⟨by rw [HV.out]; rfl, Below.refl _ _⟩
  · have hl' : decide ((262144 : Int) < (s.size : Int)) = false := by simp; omega
    have hcv := fun W => Lib.run_convert_string_bytes (P := Try.prog) W 9 83 5 s Try.underlying9 Try.underlying83 Try.underlying5
    go_enter Try.func19, Try.ntmps19
    go_wp2_with fail
    have HB0 : Hid (∀ j (hj : j < s.size), (Lib.bytesWorld w 5 s).cell? ⟨w.heap.size, j, none⟩ = some (byteV s[j])) := by
      intro j hj
      rw [Lib.bytesWorld_cell _ _ _ _ hj]
      have : s.data.toList.getD j 0 = s[j] := by
        rw [List.getD_eq_getElem?_getD, List.getElem?_eq_getElem (by simpa using hj)]
        rfl
      rw [this]; rfl
    have hbw : Below w.heap.size w (Lib.bytesWorld w 5 s) := Lib.bytesWorld_below _ _ _
    have hsw : (Lib.bytesWorld w 5 s).heap.size = w.heap.size + 1 := Lib.bytesWorld_size _ _ _
    clear hcv
    generalize Lib.bytesWorld w 5 s = w0 at *
    obtain ⟨gc, hgc⟩ : ∃ gc, gc = grownCap w s.size 0 5 := ⟨_, rfl⟩
    rw [← hgc]
    clear hgc
    have HSW := hide hsw
    clear hsw
    obtain ⟨ip, hip, hpz, hps, hpb⟩ := info_parts info_byte
    go_loopw [5, 6, 7, 8, 18] (fun v n c f i wr => ∃ (k : Nat) (st : PS), k ≤ s.size ∧ i = .int .i64 (k : Int) ∧ n = .int .i64 (st.n : Int) ∧ c = .int .i64 (st.count : Int) ∧ f = .int .i64 (st.filled : Int) ∧ Hid st.ok ∧ st.out.length ≤ 3 * k ∧ wr.ownsRow (w.heap.size + 1) 5 1 v st.out.length (st.out.map byteV) ∧
        Hid (prun s.data.toList p0 0 = prun (s.data.toList.drop k) st k) ∧ Below (w.heap.size + 1) w0 wr) (fun _ _ _ _ i _ => s.size - (intOf i).toNat)
    case atStart => exact ⟨0, p0, by omega, rfl, rfl, rfl, rfl, sim0.ok, by simp [p0], World.ownsRow_nil _ _ _ _, rfl, Below.refl _ _⟩
    case round =>
      obtain ⟨k, st, hk, rfl, rfl, rfl, rfl, hok, hol, hown, hrun, hblr⟩ := hrel
      by_cases hlt : k < s.size
      · have hcell : wr.cell? ⟨w.heap.size, k, none⟩ = some (.int .u8 (s[k].toNat : Int)) := (hblr.cell (by show w.heap.size < w.heap.size + 1; omega)).trans (HB0.out k hlt)
        obtain ⟨k1, k2, k3, k4⟩ := hok.out
        have hn3 : 64 ^ st.count ≤ 64 ^ 3 := Nat.pow_le_pow_right (by omega) (by omega)
        have hnb : st.n < 262144 := by omega
        clear hn3 k2
        obtain ⟨L, hL⟩ : ∃ L, look64 s[k] = L := ⟨_, rfl⟩
        have HL := hide hL
        have hlo := look64_ge s[k]
        have hhi := look64_lt s[k]
        rw [hL] at hlo hhi
        clear hL
        obtain ⟨n, count, filled, out⟩ := st
        simp only at k1 k3 k4 hnb hol hown
        by_cases h10 : s[k] = 10
        · have t10 : (((s[k].toNat : Nat) : Int) == 10) = true := by rw [h10]; rfl
          have HS := hide (prun_go hrun hlt (show pstep s[k] ⟨n, count, filled, out⟩ = some ⟨n, count, filled, out⟩ by rw [pstep, if_pos h10]))
          clear h10
          go_wp2_with (go_at_call 61; refine (look_any _ _ HL.out _).mono ?_; rintro e w1 ⟨rfl, rfl⟩)
          go_roundw
          case rel => exact ⟨k + 1, ⟨n, count, filled, out⟩, by omega, by go_num, rfl, rfl, rfl, hok, by show out.length ≤ _; omega, hown, HS.out, hblr⟩
          case measure => simp [intOf]; omega
        · have t10 : (((s[k].toNat : Nat) : Int) == 10) = false := u8_is 10 h10
          have H10 := hide h10
          clear h10
          by_cases hlet : 0 ≤ L ∧ filled = 0
          · obtain ⟨hL0, rfl⟩ := hlet
            obtain ⟨m, rfl⟩ : ∃ m : Nat, L = (m : Int) := ⟨L.toNat, by omega⟩
            have HS := hide (prun_go hrun hlt (show pstep s[k] ⟨n, count, 0, out⟩ = some (PS.letter ⟨n, count, 0, out⟩ m) by rw [pstep, if_neg H10.out, if_pos ⟨by rw [HL.out]; omega, rfl⟩, HL.out]; rfl))
            have hor : bits .or .i64 ((n : Int) * 64) (m : Int) = ((n * 64 + m : Nat) : Int) := or64 n m hnb (by omega)
            obtain ⟨N, hN⟩ : ∃ N, n * 64 + m = N := ⟨_, rfl⟩
            rw [hN] at hor
            have hNb : N < 16777216 := by omega
            have HN := hide hN
            clear hN
            by_cases h4 : count + 1 = 4
            · obtain rfl : count = 3 := by omega
              --<B1
              go_wp2_with (first
                | (go_at_call 61; refine (look_any _ _ HL.out _).mono ?_; rintro e w1 ⟨rfl, rfl⟩)
                | (at_builtin; refine wpList_append_own _ rfl _ _ 83 rfl (w.heap.size + 1) 5 ip _ 1 1 Try.underlying83 hip hpz hps hpb rfl (by decide) _ _ _ rfl (hown.alloc _) ⟨w1.heap.size, 0, none⟩ 3 3 [.int .u8 ((N : Int) / 65536), .int .u8 ((N : Int) / 256 % 256), .int .u8 ((N : Int) % 256)] rfl rfl (three_cells _ _ _ _ _) (by simp [Value.oneCell']) (by unfold maxLen; omega) (by omega) (by have := hblr.size; have := HSW.out; simp; omega) ?_; intro v' w3 hown' hgrow hnil'; have hb3 : Below (w.heap.size + 1) w0 w3 := hblr.trans (below_append hown (by have := hblr.size; have := HSW.out; omega) hgrow); have ho3 := hide hown'; clear hown' hgrow hnil' hown hblr))
              go_roundw
              case rel =>
                refine ⟨k + 1, ⟨0, 0, 0, out ++ bytes3 N⟩, by omega, by go_num, rfl, rfl, rfl, ok_zero _, by simp [bytes3]; omega, ?_, ?_, hb3⟩
                · rw [List.map_append, bytes3_V N hNb, List.length_append]
                  exact ho3.out
                · have := HS.out.out; rw [PS.letter, if_pos (by rfl)] at this; simp only [HN.out] at this; exact this
              case measure => simp [intOf]; omega
              --B1>
            · have h4' : ((count : Int) + 1 == 4) = false := by simp; omega
              --<B2
              go_wp2_with (go_at_call 61; refine (look_any _ _ HL.out _).mono ?_; rintro e w1 ⟨rfl, rfl⟩)
              go_roundw
              case rel => exact ⟨k + 1, ⟨N, count + 1, 0, out⟩, by omega, by go_num, rfl, by go_num, rfl, by rw [← HN.out]; exact letter_ok hok.out (by omega) h4, by show out.length ≤ _; omega, hown, by have := HS.out.out; rw [PS.letter, if_neg h4] at this; simp only [HN.out] at this; exact this, hblr⟩
              case measure => simp [intOf]; omega
              --B2>
          · by_cases h61 : s[k] = 61
            · have t61 : (((s[k].toNat : Nat) : Int) == 61) = true := by rw [h61]; rfl
              obtain rfl : L = -1 := by rw [← HL.out, h61]; exact look61
              have H61 := hide h61
              clear h61 hlet
              have hst : (count = 0 ∧ filled = 0) ∨ (count = 1 ∧ filled = 0) ∨ (count = 2 ∧ filled = 0) ∨ (count = 2 ∧ filled = 1) ∨ (count = 2 ∧ filled = 2) ∨ (count = 3 ∧ filled = 0) ∨ (count = 3 ∧ filled = 1) := by omega
              clear k1 k3 k4
              --<B3
              rcases hst with ⟨rfl, rfl⟩ | ⟨rfl, rfl⟩ | ⟨rfl, rfl⟩ | ⟨rfl, rfl⟩ | ⟨rfl, rfl⟩ | ⟨rfl, rfl⟩ | ⟨rfl, rfl⟩
              · have HS := hide (prog_stop hl (prun_stop hrun hlt (pstep_no (n := n) (count := 0) (filled := 0) (out := out) H61.out (by omega))))
                go_wp2_with (go_at_call 61; refine (look_any _ _ HL.out _).mono ?_; rintro e w1 ⟨rfl, rfl⟩)
                go_ret3
                exact ⟨by rw [HS.out]; rfl, hbw.trans (hblr.mono (by omega))⟩
              · have HS := hide (prog_stop hl (prun_stop hrun hlt (pstep_no (n := n) (count := 1) (filled := 0) (out := out) H61.out (by omega))))
                go_wp2_with (go_at_call 61; refine (look_any _ _ HL.out _).mono ?_; rintro e w1 ⟨rfl, rfl⟩)
                go_ret3
                exact ⟨by rw [HS.out]; rfl, hbw.trans (hblr.mono (by omega))⟩
              · have ha := and_15 n hnb
                by_cases hz : n % 16 = 0
                · rw [hz] at ha
                  have HS := hide (prun_go hrun hlt (pstep_eq (n := n) (count := 2) (filled := 0) (out := out) H61.out ⟨by omega, by omega, hz⟩))
                  clear hz
                  go_wp2_with (go_at_call 61; refine (look_any _ _ HL.out _).mono ?_; rintro e w1 ⟨rfl, rfl⟩)
                  go_roundw
                  case rel => exact ⟨k + 1, ⟨n, 2, 1, out⟩, by omega, by go_num, rfl, rfl, rfl, ok_mk (by decide) hok.out.2.1 (by decide) (.inl (by decide)), by show out.length ≤ _; omega, hown, HS.out, hblr⟩
                  case measure => simp [intOf]; omega
                · have HS := hide (prog_stop hl (prun_stop hrun hlt (pstep_no (n := n) (count := 2) (filled := 0) (out := out) H61.out (by intro h; exact hz h.2.2))))
                  obtain ⟨q, hq⟩ : ∃ q, n % 16 = q := ⟨_, rfl⟩
                  rw [hq] at ha hz
                  have hq0 : ((q : Int) == 0) = false := by simp; omega
                  clear hq hz
                  go_wp2_with (go_at_call 61; refine (look_any _ _ HL.out _).mono ?_; rintro e w1 ⟨rfl, rfl⟩)
                  go_ret3
                  exact ⟨by rw [HS.out]; rfl, hbw.trans (hblr.mono (by omega))⟩
              · have ha := and_15 n hnb
                by_cases hz : n % 16 = 0
                · rw [hz] at ha
                  have HS := hide (prun_go hrun hlt (pstep_eq (n := n) (count := 2) (filled := 1) (out := out) H61.out ⟨by omega, by omega, hz⟩))
                  clear hz
                  go_wp2_with (go_at_call 61; refine (look_any _ _ HL.out _).mono ?_; rintro e w1 ⟨rfl, rfl⟩)
                  go_roundw
                  case rel => exact ⟨k + 1, ⟨n, 2, 2, out⟩, by omega, by go_num, rfl, rfl, rfl, ok_mk (by decide) hok.out.2.1 (by decide) (.inl (by decide)), by show out.length ≤ _; omega, hown, HS.out, hblr⟩
                  case measure => simp [intOf]; omega
                · have HS := hide (prog_stop hl (prun_stop hrun hlt (pstep_no (n := n) (count := 2) (filled := 1) (out := out) H61.out (by intro h; exact hz h.2.2))))
                  obtain ⟨q, hq⟩ : ∃ q, n % 16 = q := ⟨_, rfl⟩
                  rw [hq] at ha hz
                  have hq0 : ((q : Int) == 0) = false := by simp; omega
                  clear hq hz
                  go_wp2_with (go_at_call 61; refine (look_any _ _ HL.out _).mono ?_; rintro e w1 ⟨rfl, rfl⟩)
                  go_ret3
                  exact ⟨by rw [HS.out]; rfl, hbw.trans (hblr.mono (by omega))⟩
              · have HS := hide (prog_stop hl (prun_stop hrun hlt (pstep_no (n := n) (count := 2) (filled := 2) (out := out) H61.out (by omega))))
                go_wp2_with (go_at_call 61; refine (look_any _ _ HL.out _).mono ?_; rintro e w1 ⟨rfl, rfl⟩)
                go_ret3
                exact ⟨by rw [HS.out]; rfl, hbw.trans (hblr.mono (by omega))⟩
              · have ha := and_3 n hnb
                by_cases hz : n % 4 = 0
                · rw [hz] at ha
                  have HS := hide (prun_go hrun hlt (pstep_eq (n := n) (count := 3) (filled := 0) (out := out) H61.out ⟨by omega, by omega, hz⟩))
                  clear hz
                  go_wp2_with (go_at_call 61; refine (look_any _ _ HL.out _).mono ?_; rintro e w1 ⟨rfl, rfl⟩)
                  go_roundw
                  case rel => exact ⟨k + 1, ⟨n, 3, 1, out⟩, by omega, by go_num, rfl, rfl, rfl, ok_mk (by decide) hok.out.2.1 (by decide) (.inl (by decide)), by show out.length ≤ _; omega, hown, HS.out, hblr⟩
                  case measure => simp [intOf]; omega
                · have HS := hide (prog_stop hl (prun_stop hrun hlt (pstep_no (n := n) (count := 3) (filled := 0) (out := out) H61.out (by intro h; exact hz h.2.2))))
                  obtain ⟨q, hq⟩ : ∃ q, n % 4 = q := ⟨_, rfl⟩
                  rw [hq] at ha hz
                  have hq0 : ((q : Int) == 0) = false := by simp; omega
                  clear hq hz
                  go_wp2_with (go_at_call 61; refine (look_any _ _ HL.out _).mono ?_; rintro e w1 ⟨rfl, rfl⟩)
                  go_ret3
                  exact ⟨by rw [HS.out]; rfl, hbw.trans (hblr.mono (by omega))⟩
              · have HS := hide (prog_stop hl (prun_stop hrun hlt (pstep_no (n := n) (count := 3) (filled := 1) (out := out) H61.out (by omega))))
                go_wp2_with (go_at_call 61; refine (look_any _ _ HL.out _).mono ?_; rintro e w1 ⟨rfl, rfl⟩)
                go_ret3
                exact ⟨by rw [HS.out]; rfl, hbw.trans (hblr.mono (by omega))⟩
              --B3>
            · have t61 : (((s[k].toNat : Nat) : Int) == 61) = false := u8_is 61 h61
              have HS := hide (prog_stop hl (prun_stop hrun hlt (pstep_bad (n := n) (count := count) (out := out) H10.out h61 (by rw [HL.out]; exact hlet))))
              clear h61
              --<B4
              by_cases hL0 : 0 ≤ L
              · have hf' : ((filled : Int) == 0) = false := by simp; omega
                have hL1 : decide (0 ≤ L) = true := by simpa using hL0
                clear hlet
                go_wp2_with (go_at_call 61; refine (look_any _ _ HL.out _).mono ?_; rintro e w1 ⟨rfl, rfl⟩)
                go_ret3
                exact ⟨by rw [HS.out]; rfl, hbw.trans (hblr.mono (by omega))⟩
              · obtain rfl : L = -1 := by omega
                clear hlet
                go_wp2_with (go_at_call 61; refine (look_any _ _ HL.out _).mono ?_; rintro e w1 ⟨rfl, rfl⟩)
                go_ret3
                exact ⟨by rw [HS.out]; rfl, hbw.trans (hblr.mono (by omega))⟩
              --B4>
      · obtain ⟨n, count, filled, out⟩ := st
        have HE := prun_end hrun hlt
        obtain ⟨k1, k2, k3, k4⟩ := hok.out
        simp only at k1 k2 k3 k4 hol hown
        have hst : (count = 0 ∧ filled = 0) ∨ (count = 1 ∧ filled = 0) ∨ (count = 2 ∧ filled = 0) ∨ (count = 2 ∧ filled = 1) ∨ (count = 2 ∧ filled = 2) ∨ (count = 3 ∧ filled = 0) ∨ (count = 3 ∧ filled = 1) := by omega
        clear k1 k3 k4 hrun hok
        have hbz := hblr.size
        have hbf : Below w.heap.size w wr := hbw.trans (hblr.mono (by omega))
        rcases hst with ⟨rfl, rfl⟩ | ⟨rfl, rfl⟩ | ⟨rfl, rfl⟩ | ⟨rfl, rfl⟩ | ⟨rfl, rfl⟩ | ⟨rfl, rfl⟩ | ⟨rfl, rfl⟩
        --<C0
        · have HV := hide (prog_end hl HE (.inl rfl))
          have hcv := conv_own hown
          clear HE hown
          go_wp2_with fail
          go_ret3
          exact ⟨by rw [HV.out]; rfl, hbf⟩
        · have HV := hide (prog_short hl HE (by show ¬ (1 + 0 = 0 ∨ 1 + 0 = 4); omega))
          clear HE hown
          go_wp2_with fail
          go_ret3
          exact ⟨by rw [HV.out]; rfl, hbf⟩
        · have HV := hide (prog_short hl HE (by show ¬ (2 + 0 = 0 ∨ 2 + 0 = 4); omega))
          clear HE hown
          go_wp2_with fail
          go_ret3
          exact ⟨by rw [HV.out]; rfl, hbf⟩
        · have HV := hide (prog_short hl HE (by show ¬ (2 + 1 = 0 ∨ 2 + 1 = 4); omega))
          clear HE hown
          go_wp2_with fail
          go_ret3
          exact ⟨by rw [HV.out]; rfl, hbf⟩
        --C0>
        --<C1
        · have HV := hide (prog_end hl HE (.inr rfl))
          have hn4 : n < 4096 := k2
          clear HE k2
          go_wp2_with (at_builtin; refine wpList_append_own _ rfl _ _ 83 rfl (w.heap.size + 1) 5 ip _ 1 1 Try.underlying83 hip hpz hps hpb rfl (by decide) _ _ _ rfl (hown.alloc _) ⟨wr.heap.size, 0, none⟩ 1 1 [.int .u8 ((n : Int) / 16)] rfl rfl (one_cell_new _ _ _) (by simp [Value.oneCell']) (by unfold maxLen; omega) (by omega) (by have := HSW.out; simp; omega) ?_; intro v' w3 hown' hgrow hnil'; have hb3 : Below (w.heap.size + 1) wr w3 := below_append hown (by have := HSW.out; omega) hgrow; have ho3 : w3.ownsRow (w.heap.size + 1) 5 1 v' (out.length + 1) ((out ++ [UInt8.ofNat (n / 16)]).map byteV) := (by rw [List.map_append, List.map_cons, List.map_nil, byteV_of _ (by omega)]; exact hown'); have hcv := conv_own ho3; clear hown' hgrow hnil' hown ho3)
          go_ret3
          exact ⟨by rw [HV.out]; rfl, hbf.trans (hb3.mono (by omega))⟩
        --C1>
        --<C2
        · have HV := hide (prog_short hl HE (by show ¬ (3 + 0 = 0 ∨ 3 + 0 = 4); omega))
          clear HE hown
          go_wp2_with fail
          go_ret3
          exact ⟨by rw [HV.out]; rfl, hbf⟩
        --C2>
        --<C3
        · have HV := hide (prog_end hl HE (.inr rfl))
          have hn4 : n < 262144 := k2
          clear HE k2
          go_wp2_with (at_builtin; refine wpList_append_own _ rfl _ _ 83 rfl (w.heap.size + 1) 5 ip _ 1 1 Try.underlying83 hip hpz hps hpb rfl (by decide) _ _ _ rfl (hown.alloc _) ⟨wr.heap.size, 0, none⟩ 2 2 [.int .u8 ((n : Int) / 1024), .int .u8 ((n : Int) / 4 % 256)] rfl rfl (two_new _ _ _ _) (by simp [Value.oneCell']) (by unfold maxLen; omega) (by omega) (by have := HSW.out; simp; omega) ?_; intro v' w3 hown' hgrow hnil'; have hb3 : Below (w.heap.size + 1) wr w3 := below_append hown (by have := HSW.out; omega) hgrow; have ho3 : w3.ownsRow (w.heap.size + 1) 5 1 v' (out.length + 2) ((out ++ [UInt8.ofNat (n / 1024), UInt8.ofNat (n / 4)]).map byteV) := (by rw [List.map_append, List.map_cons, List.map_cons, List.map_nil, byteV_of _ (by omega), ← byte_of, show ((n / 4 : Nat) : Int) = (n : Int) / 4 by omega]; exact hown'); have hcv := conv_own ho3; clear hown' hgrow hnil' hown ho3)
          go_ret3
          exact ⟨by rw [HV.out]; rfl, hbf.trans (hb3.mono (by omega))⟩
        --C3>
end Go.Proofs.Ytafgncledbddiaa
