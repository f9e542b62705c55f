import Derived.Test.YtafgncledbddiaaBytes64
import Derived.Test.YtafgncledbddiaaEnc64
import Derived.Test.YtafgncledbddiaaBuilder
set_option linter.unusedSimpArgs false
set_option linter.unusedVariables false
namespace Go.Proofs.Ytafgncledbddiaa
open Go.RowKit Go.Pw

def strLen : Value → Nat
  | .string s => s.size
  | _ => 0
def numTo (l : List UInt8) : Nat → Nat
  | 0 => 0
  | k + 1 => numTo l k * 256 + (l.getD k 0).toNat
theorem numTo_lt (l : List UInt8) : ∀ k, numTo l k < 256 ^ k
  | 0 => by simp [numTo]
  | k + 1 => by
    have h := numTo_lt l k
    have := (l.getD k 0).toNat_lt
    rw [numTo, Nat.pow_succ]; omega
theorem numTo_3 (l : List UInt8) : numTo l 3 = num3 l := by
  simp [numTo, num3]; omega
theorem numTo_in {s : ByteArray} {k : Nat} (h : k < s.size) : numTo s.data.toList (k + 1) = numTo s.data.toList k * 256 + s[k].toNat := by
  rw [numTo, List.getD_eq_getElem?_getD, List.getElem?_eq_getElem (by simpa using h)]
  rfl
theorem numTo_out {s : ByteArray} {k : Nat} (h : ¬ k < s.size) : numTo s.data.toList (k + 1) = numTo s.data.toList k * 256 := by
  rw [numTo, List.getD_eq_getElem?_getD, List.getElem?_eq_none (by simp; omega)]
  simp
theorem or256 (n m : Nat) (hn : n < 65536) (hm : m < 256) : bits .or .i64 ((n : Int) * 256) (m : Int) = ((n * 256 + m : Nat) : Int) := by
  have h := bits_or_i64_nat (n * 256) m (by omega) (by omega)
  have e : ((n * 256 : Nat) : Int) = (n : Int) * 256 := by omega
  rw [← e, h]
  congr 1
  have := Nat.two_pow_add_eq_or_of_lt (i := 8) (b := m) (by omega) n
  rw [Nat.mul_comm n 256]
  exact this.symm
theorem bld_new (w : World) : Bld w.heap.size w.heap.size [] (w.alloc (.cells #[.pointer none, .slice none 0 0] 100)) := by
  refine Or.inl ⟨Nat.le_refl _, .slice none 0 0, heap_alloc_new w _, World.ownsRow_nil _ _ _ _, by simp [Value.ownBlock]⟩
theorem own_below' {w w' : World} {base : Nat} {e : TypeId} {size : Nat} {v : Value} {n : Nat} {xs : List Value} (h : w.ownsRow base e size v n xs) (hb : Below w.heap.size w w') : w'.ownsRow base e size v n xs := own_below h hb
theorem Bld.below {B b : Nat} {l : List UInt8} {w w' : World} (h : Bld B b l w) (hb : Below w.heap.size w w') : Bld B b l w' := by
  have key : ∀ p, Lib.BuilderAt 100 5 B b p (Lib.byteCells l) w → Lib.BuilderAt 100 5 B b p (Lib.byteCells l) w' := by
    intro p hp
    have hlt := hp.lt
    obtain ⟨h1, v, h2, h3, h4⟩ := hp
    exact ⟨h1, v, (hb.block b hlt).trans h2, own_below h3 hb, h4⟩
  rcases h with h | h
  · exact .inl (key _ h)
  · exact .inr (key _ h)
theorem Bld.lt {B b : Nat} {l : List UInt8} {w : World} (h : Bld B b l w) : b < w.heap.size := by
  rcases h with h | h <;> exact h.lt

theorem and_63 (n : Nat) (hn : n < 16777216) : bits .and .i64 (n : Int) 63 = ((n % 64 : Nat) : Int) := by
  have h := bits_and_i64_nat n 63 (by omega) (by omega)
  have e : n &&& 63 = n % 64 := Nat.and_two_pow_sub_one_eq_mod n 6
  rw [e] at h
  exact h
theorem letter_at (m : Nat) (h : m < lettersC.size) : ((letter m).toNat : Int) = (lettersC[m].toNat : Int) := by
  have := lettersC_at m h
  rw [letter, List.getD_eq_getElem?_getD, this]
  rfl
theorem bld_next {B b N len : Nat} {out : List UInt8} {w : World} {k : Nat} (hk : k < 4) (h : Bld B b (out ++ (encG N len).take k ++ [sign N len k]) w) : Bld B b (out ++ (encG N len).take (k + 1)) w := by
  have e : (encG N len).take k ++ [sign N len k] = (encG N len).take (k + 1) := by
    obtain rfl | rfl | rfl | rfl : k = 0 ∨ k = 1 ∨ k = 2 ∨ k = 3 := by omega
    all_goals rfl
  rw [List.append_assoc, e] at h
  exact h
theorem take_enc_le (N len k : Nat) (out : List UInt8) (h : out.length ≤ 1048572) : (out ++ (encG N len).take k).length + 1 ≤ 140737488355328 := by
  have : ((encG N len).take k).length ≤ 4 := by
    have h2 : (encG N len).length = 4 := rfl
    have := List.length_take_le' k (encG N len)
    omega
  rw [List.length_append]; omega

theorem rest_list (r : ByteArray) : (r.extract (min 3 (r.size : Int)).toNat r.size).data.toList = r.data.toList.drop 3 := by
  rw [Lib.extract_data]
  have e : (min 3 (r.size : Int)).toNat = min 3 r.size := by omega
  have e2 : r.data.toList.length = r.size := Array.length_toList
  rw [e, List.take_of_length_le (by rw [List.length_drop]; omega)]
  by_cases h : r.size ≤ 3
  · rw [List.drop_of_length_le (by omega), List.drop_of_length_le (by omega)]
  · rw [show min 3 r.size = 3 by omega]
theorem rest_size (r : ByteArray) : (r.extract (min 3 (r.size : Int)).toNat r.size).size = r.size - 3 := by
  have h := congrArg List.length (rest_list r)
  have e2 : r.data.toList.length = r.size := Array.length_toList
  have e3 : (r.extract (min 3 (r.size : Int)).toNat r.size).data.toList.length = (r.extract (min 3 (r.size : Int)).toNat r.size).size := Array.length_toList
  rw [List.length_drop] at h
  omega

set_option maxHeartbeats 4000000 in
set_option maxRecDepth 100000 in
theorem text64_any (s : ByteArray) (w : World) (hl : s.size ≤ 262144) :
    Calls Try.prog 26 #[.string s] w fun e w' => e = .returned (.tuple #[.string ⟨(enc s.data.toList).toArray⟩, .int .i64 0]) ∧ Below w.heap.size w w' := by
  have hl' : decide ((262144 : Int) < (s.size : Int)) = false := by simp; omega
  have hel : (enc s.data.toList).length ≤ 1048576 := by
    have e2 : s.data.toList.length = s.size := Array.length_toList
    rw [enc_length, e2]; omega
  have HEL := hide hel
  clear hel
  go_enter Try.func26, Try.ntmps26
  go_wp2_with fail
  go_loopw [0] (fun v wr => ∃ (r : ByteArray) (out : List UInt8), v = .string r ∧ r.size ≤ s.size ∧ Hid (enc s.data.toList = out ++ enc r.data.toList) ∧ Bld w.heap.size w.heap.size out wr ∧ Below w.heap.size w wr) (fun v _ => strLen v)
  case atStart => exact ⟨s, [], rfl, Nat.le_refl _, rfl, bld_new w, (Below.refl _ _).alloc (Nat.le_refl _) _⟩
  case round =>
    obtain ⟨r, out, rfl, hrs, heq, hbl, hbw⟩ := hrel
    by_cases h0 : r.size = 0
    · have e1 : r.data.toList = [] := List.eq_nil_of_length_eq_zero (by simpa using h0)
      have e2 : r.toList = [] := by rw [Lib.toList_data]; exact e1
      have hout : enc s.data.toList = out := by rw [heq.out, e1]; simp [enc]
      have HO := hide hout
      clear hout e1
      have hz := hbw.size
      go_wp2_with fail
      refine (bldString_any _ _ _ _ hbl hz).mono ?_
      rintro e w2 ⟨rfl, hb2⟩
      go_wp2_with fail
      go_ret2
      exact ⟨by rw [HO.out]; rfl, hbw.trans hb2⟩
    · have e1 : r.data.toList ≠ [] := fun e => h0 (by have := congrArg List.length e; simpa using this)
      have e2 : r.toList.isEmpty = false := by rw [Lib.toList_data]; simpa using e1
      have hst := enc_step _ e1
      have hlr : r.data.toList.length = r.size := by simp
      have HST := hide hst
      have hlen : out.length ≤ 1048572 := by
        have h1 := congrArg List.length heq.out
        rw [hst] at h1
        simp [encG] at h1
        have := HEL.out
        omega
      clear hst e1 hlr
      go_wp2_with fail
      go_loop [5, 18] (fun n i => ∃ k : Nat, k ≤ 3 ∧ i = .int .i64 (k : Int) ∧ n = .int .i64 ((numTo r.data.toList k : Nat) : Int)) (fun _ i => 3 - (intOf i).toNat)
      case atStart => exact ⟨0, by omega, rfl, rfl⟩
      case round =>
        obtain ⟨k, hk, rfl, rfl⟩ := hrel
        have hn := numTo_lt r.data.toList k
        by_cases hk3 : k < 3
        · have hn2 : 256 ^ k ≤ 256 ^ 2 := Nat.pow_le_pow_right (by omega) (by omega)
          by_cases hkr : k < r.size
          · have HN := hide (numTo_in hkr)
            obtain ⟨N, hN⟩ : ∃ N, numTo r.data.toList k = N := ⟨_, rfl⟩
            rw [hN] at hn HN ⊢
            have hNb : N < 65536 := by omega
            clear hN hn hn2
            have hrk : r[k].toNat < 256 := r[k].toNat_lt
            have hor := or256 N r[k].toNat hNb hrk
            rw [← HN.out] at hor
            go_wp2_with fail
            go_round
            case rel => exact ⟨k + 1, by omega, by go_num, rfl⟩
            case measure => simp [intOf]; omega
          · have HN := hide (numTo_out hkr)
            obtain ⟨N, hN⟩ : ∃ N, numTo r.data.toList k = N := ⟨_, rfl⟩
            rw [hN] at hn HN ⊢
            have hNb : N < 65536 := by omega
            clear hN hn hn2
            go_wp2_with fail
            go_round
            case rel => exact ⟨k + 1, by omega, by go_num, by rw [HN.out]; go_num⟩
            case measure => simp [intOf]; omega
        · obtain rfl : k = 3 := by omega
          rw [numTo_3]
          clear hn hk
          obtain ⟨N, hN⟩ : ∃ N, num3 r.data.toList = N := ⟨_, rfl⟩
          have hNb : N < 16777216 := by rw [← hN]; exact num3_lt _
          rw [hN]
          have HN := hide hN
          clear hN
          go_wp2_with fail
          go_loopw [34] (fun i w3 => ∃ k : Nat, k ≤ 4 ∧ i = .int .i64 (k : Int) ∧ Bld w.heap.size w.heap.size (out ++ (encG N r.size).take k) w3 ∧ Below w.heap.size w w3) (fun i _ => 4 - (intOf i).toNat)
          case atStart => exact ⟨0, by omega, rfl, by simpa using hbl, hbw⟩
          case round =>
            obtain ⟨k, hk, rfl, hbk, hbwk⟩ := hrel
            have hz := hbwk.size
            by_cases hk4 : k < 4
            · obtain rfl | rfl | rfl | rfl : k = 0 ∨ k = 1 ∨ k = 2 ∨ k = 3 := by omega
              · have ha : bits .and .i64 ((N : Int) / 262144) 63 = ((N / 262144 % 64 : Nat) : Int) := and_63 (N / 262144) (by omega)
                have HSG := hide (sign_0 N r.size)
                go_wp2_with fail
                refine (writeByte_any _ _ _ (sign N r.size 0) _ _ hbk (take_enc_le _ _ _ _ hlen) hz (by rw [HSG.out]; exact letter_at _ _)).mono ?_
                rintro e w4 ⟨rfl, hb4, hbe4⟩
                go_wp2_with fail
                go_roundw
                case rel => exact ⟨0 + 1, by omega, by go_num, bld_next (by omega) hb4, hbwk.trans hbe4⟩
                case measure => simp [intOf]
              · have ha : bits .and .i64 ((N : Int) / 4096) 63 = ((N / 4096 % 64 : Nat) : Int) := and_63 (N / 4096) (by omega)
                have HSG := hide (sign_1 N r.size (by omega))
                go_wp2_with fail
                refine (writeByte_any _ _ _ (sign N r.size 1) _ _ hbk (take_enc_le _ _ _ _ hlen) hz (by rw [HSG.out]; exact letter_at _ _)).mono ?_
                rintro e w4 ⟨rfl, hb4, hbe4⟩
                go_wp2_with fail
                go_roundw
                case rel => exact ⟨1 + 1, by omega, by go_num, bld_next (by omega) hb4, hbwk.trans hbe4⟩
                case measure => simp [intOf]
              · by_cases hf : r.size < 2
                · have HSG := hide (sign_fill N r.size 2 (by omega))
                  go_wp2_with fail
                  refine (writeByte_any _ _ _ (sign N r.size 2) _ _ hbk (take_enc_le _ _ _ _ hlen) hz (by rw [HSG.out]; rfl)).mono ?_
                  rintro e w4 ⟨rfl, hb4, hbe4⟩
                  go_wp2_with fail
                  go_roundw
                  case rel => exact ⟨2 + 1, by omega, by go_num, bld_next (by omega) hb4, hbwk.trans hbe4⟩
                  case measure => simp [intOf]
                · have ha : bits .and .i64 ((N : Int) / 64) 63 = ((N / 64 % 64 : Nat) : Int) := and_63 (N / 64) (by omega)
                  have HSG := hide (sign_2 N r.size (by omega))
                  go_wp2_with fail
                  refine (writeByte_any _ _ _ (sign N r.size 2) _ _ hbk (take_enc_le _ _ _ _ hlen) hz (by rw [HSG.out]; exact letter_at _ _)).mono ?_
                  rintro e w4 ⟨rfl, hb4, hbe4⟩
                  go_wp2_with fail
                  go_roundw
                  case rel => exact ⟨2 + 1, by omega, by go_num, bld_next (by omega) hb4, hbwk.trans hbe4⟩
                  case measure => simp [intOf]
              · by_cases hf : r.size < 3
                · have HSG := hide (sign_fill N r.size 3 (by omega))
                  go_wp2_with fail
                  refine (writeByte_any _ _ _ (sign N r.size 3) _ _ hbk (take_enc_le _ _ _ _ hlen) hz (by rw [HSG.out]; rfl)).mono ?_
                  rintro e w4 ⟨rfl, hb4, hbe4⟩
                  go_wp2_with fail
                  go_roundw
                  case rel => exact ⟨3 + 1, by omega, by go_num, bld_next (by omega) hb4, hbwk.trans hbe4⟩
                  case measure => simp [intOf]
                · have ha : bits .and .i64 ((N : Int)) 63 = ((N % 64 : Nat) : Int) := and_63 (N) (by omega)
                  have HSG := hide (sign_3 N r.size (by omega))
                  go_wp2_with fail
                  refine (writeByte_any _ _ _ (sign N r.size 3) _ _ hbk (take_enc_le _ _ _ _ hlen) hz (by rw [HSG.out]; exact letter_at _ _)).mono ?_
                  rintro e w4 ⟨rfl, hb4, hbe4⟩
                  go_wp2_with fail
                  go_roundw
                  case rel => exact ⟨3 + 1, by omega, by go_num, bld_next (by omega) hb4, hbwk.trans hbe4⟩
                  case measure => simp [intOf]
            · obtain rfl : k = 4 := by omega
              have e4 : (encG N r.size).take 4 = encG N r.size := rfl
              rw [e4] at hbk
              have hne : enc s.data.toList = out ++ encG N r.size ++ enc (r.data.toList.drop 3) := by rw [heq.out, HST.out, HN.out, List.append_assoc]; simp
              have HNE := hide hne
              clear hne e4
              go_wp2_with fail
              go_roundw
              case rel => exact ⟨_, _, rfl, by rw [rest_size]; omega, by show enc _ = _; rw [rest_list, ← HNE.out], hbk, hbwk⟩
              case measure => show (r.extract (min 3 (r.size : Int)).toNat r.size).size < r.size; rw [rest_size]; omega
theorem text64_large (s : ByteArray) (w : World) (hl : 262144 < s.size) :
    Calls Try.prog 26 #[.string s] w fun e w' => e = .returned (.tuple #[.string ⟨#[]⟩, .int .i64 2]) ∧ w = w' := by
  have hl' : decide ((262144 : Int) < (s.size : Int)) = true := by simp; omega
  go_enter Try.func26, Try.ntmps26
  go_wp2_with fail
  go_ret2
  exact ⟨rfl, rfl⟩
end Go.Proofs.Ytafgncledbddiaa
