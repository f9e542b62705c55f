import Derived.Test.YtafgncledbddiaaText64
set_option linter.unusedSimpArgs false
set_option linter.unusedVariables false
namespace Go.Proofs.Ytafgncledbddiaa
open Go.RowKit Go.Pw

def strL (l : List UInt8) : ByteArray := ⟨l.toArray⟩
theorem strL_size (l : List UInt8) : (strL l).size = l.length := by simp [strL, ByteArray.size]
theorem strL_append (l m : List UInt8) : strL l ++ strL m = strL (l ++ m) := by
  apply ByteArray.ext
  simp [strL]
theorem bitsTo_snoc {s : ByteArray} {k : Nat} (h : k < s.size) : bitsOfBytes (s.data.toList.take (k + 1)) = bitsOfBytes (s.data.toList.take k) ++ bitsN 8 s[k].toNat := by
  rw [take_snoc s k h, bitsOfBytes_append]
  simp [bitsOfBytes]
theorem cut_letter (v : Nat) (h : v < 64) : lettersC.extract v (v + 1) = strL [letter v] := by
  have : ∀ x : Fin 64, lettersC.extract x.val (x.val + 1) = strL [letter x.val] := by decide +kernel
  exact this ⟨v, h⟩
theorem sixTo_in {B : List Bool} {p m : Nat} (h : p + m < B.length) : sixTo B p (m + 1) = 2 * sixTo B p m + (B[p + m]).toNat := by
  rw [sixTo, List.getD_eq_getElem?_getD, List.getElem?_eq_getElem h]
  rfl
theorem sixTo_out {B : List Bool} {p m : Nat} (h : ¬ p + m < B.length) : sixTo B p (m + 1) = 2 * sixTo B p m := by
  rw [sixTo, List.getD_eq_getElem?_getD, List.getElem?_eq_none (by omega)]
  simp
theorem lets_length (k : Nat) (B : List Bool) : (lets k B).length = k := by simp [lets]

set_option maxHeartbeats 4000000 in
set_option maxRecDepth 100000 in
theorem letters_any (s : ByteArray) (w : World) (hl : s.size ≤ 3000) :
    Calls Try.prog 27 #[.string s] w fun e w' => e = .returned (.string (strL (enc s.data.toList))) ∧ Below w.heap.size w w' := by
  go_enter Try.func27, Try.ntmps27
  go_wp2_with fail
  go_loopw [3, 11] (fun al i wr => ∃ k : Nat, k ≤ s.size ∧ i = .int .i64 (k : Int) ∧ al = .string (strB (bitsOfBytes (s.data.toList.take k))) ∧ Below w.heap.size w wr) (fun _ i _ => s.size - (intOf i).toNat)
  case atStart => exact ⟨0, by omega, rfl, rfl, Below.refl _ _⟩
  case round =>
    obtain ⟨k, hk, rfl, rfl, hbw⟩ := hrel
    by_cases hlt : k < s.size
    · have HB := hide (bitsTo_snoc hlt)
      have hBl : (bitsOfBytes (s.data.toList.take k)).length ≤ 24000 := by
        rw [bitsOfBytes_length, List.length_take]; omega
      obtain ⟨B, hB⟩ : ∃ B, bitsOfBytes (s.data.toList.take k) = B := ⟨_, rfl⟩
      rw [hB] at HB hBl ⊢
      clear hB
      have hBz : (strB B).size ≤ 24000 := by rw [strB_size]; exact hBl
      have hsk : s[k].toNat < 256 := s[k].toNat_lt
      go_wp2_with fail
      refine (bits_any s[k].toNat 8 _ (by omega) (by omega)).mono ?_
      rintro e w1 ⟨rfl, hb1⟩
      have hsb : (strB (bitsN 8 s[k].toNat)).size ≤ 8 := by rw [strB_size, bitsN_length]; omega
      obtain ⟨sb, hsb2⟩ : ∃ sb, sb = strB (bitsN 8 s[k].toNat) := ⟨_, rfl⟩
      rw [← hsb2] at hsb ⊢
      have HSB := hide hsb2
      have hbw1 := hbw.trans (hb1.mono hbw.size)
      clear hsb2 hb1
      go_wp2_with fail
      go_roundw
      case rel => exact ⟨k + 1, by omega, by go_num, by rw [HB.out, HSB.out, strB_append], hbw1⟩
      case measure => simp [intOf]; omega
    · obtain rfl : k = s.size := by omega
      have hall : s.data.toList.take s.size = s.data.toList := List.take_of_length_le (by simp)
      rw [hall]
      clear hall hlt hk
      have hBl : (bitsOfBytes s.data.toList).length = 8 * s.size := by rw [bitsOfBytes_length]; simp
      have hR : refLetters s.data.toList = pad4 (lets ((8 * s.size + 5) / 6) (bitsOfBytes s.data.toList)) := by unfold refLetters; simp
      rw [refLetters_enc] at hR
      have HR := hide hR
      obtain ⟨B, hB⟩ : ∃ B, bitsOfBytes s.data.toList = B := ⟨_, rfl⟩
      rw [hB] at HR hBl ⊢
      clear hB hR
      have hsz : (strB B).size = 8 * s.size := by rw [strB_size, hBl]
      have hszb : (strB B).size ≤ 24000 := by omega
      have HSZ := hide hsz
      have HBL := hide hBl
      clear hsz hBl
      go_wp2_with fail
      go_loop [5, 6] (fun o i => ∃ q : Nat, q ≤ (8 * s.size + 5) / 6 ∧ i = .int .i64 ((6 * q : Nat) : Int) ∧ o = .string (strL (lets q B))) (fun _ i => 24010 - (intOf i).toNat)
      case atStart => exact ⟨0, by omega, rfl, rfl⟩
      case round =>
        obtain ⟨q, hq, rfl, rfl⟩ := hrel
        have hoz : (strL (lets q B)).size ≤ 4001 := by rw [strL_size, lets_length]; omega
        have HLN := hide (lets_snoc q B)
        obtain ⟨o, ho⟩ : ∃ o, strL (lets q B) = o := ⟨_, rfl⟩
        rw [ho] at hoz ⊢
        have HOO := hide ho
        clear ho
        obtain ⟨p, hp⟩ : ∃ p, 6 * q = p := ⟨_, rfl⟩
        rw [hp] at HLN ⊢
        have hpb : p ≤ 24006 := by omega
        have HP := hide hp
        clear hp
        by_cases hlt : p < (strB B).size
        · have hq1 : q + 1 ≤ (8 * s.size + 5) / 6 := by have := HSZ.out; have := HP.out; omega
          go_wp2_with fail
          go_loop [7, 28] (fun v j => ∃ m : Nat, m ≤ 6 ∧ j = .int .i64 (m : Int) ∧ v = .int .i64 ((sixTo B p m : Nat) : Int)) (fun _ j => 6 - (intOf j).toNat)
          case atStart => exact ⟨0, by omega, rfl, rfl⟩
          case round =>
            obtain ⟨m, hm, rfl, rfl⟩ := hrel
            have hvb := sixTo_lt B p m
            have hv6 : 2 ^ m ≤ 64 := Nat.pow_le_pow_right (by omega) hm
            by_cases hm6 : m < 6
            · by_cases hin : p + m < (strB B).size
              · have hinC : p + m < B.length := by have := strB_size B; omega
                have HVN := hide (sixTo_in hinC)
                have hch := strB_at B (p + m) hin hinC
                obtain ⟨vv, hvv⟩ : ∃ vv, sixTo B p m = vv := ⟨_, rfl⟩
                rw [hvv] at hvb HVN ⊢
                have hvl : vv < 64 := by omega
                clear hvv hvb hv6
                obtain ⟨n0, hn0⟩ : ∃ n0 : Nat, n0 = ((strB B)[p + m]).toNat := ⟨_, rfl⟩
                have hn1 : n0 = 48 + (B[p + m]).toNat := by rw [hn0, hch]; cases B[p + m] <;> rfl
                have hb1 : (B[p + m]).toNat ≤ 1 := by cases B[p + m] <;> decide
                have lo : 48 ≤ ((strB B)[p + m]).toNat := by omega
                have hi : ((strB B)[p + m]).toNat ≤ 49 := by omega
                have HN := hide (show (((strB B)[p + m]).toNat : Int) - 48 = ((B[p + m]).toNat : Int) by omega)
                clear hch hn0 hn1 hb1
                go_wp2_with fail
                go_round
                case rel => exact ⟨m + 1, by omega, by go_num, by rw [HVN.out]; exact congrArg (Value.int .i64) (by have := HN.out; omega)⟩
                case measure => simp [intOf]; omega
              · have hinC : ¬ p + m < B.length := by have := strB_size B; omega
                have HVN := hide (sixTo_out hinC)
                obtain ⟨vv, hvv⟩ : ∃ vv, sixTo B p m = vv := ⟨_, rfl⟩
                rw [hvv] at hvb HVN ⊢
                have hvl : vv < 64 := by omega
                clear hvv hvb hv6 hinC
                go_wp2_with fail
                go_round
                case rel => exact ⟨m + 1, by omega, by go_num, by rw [HVN.out]; exact congrArg (Value.int .i64) (by omega)⟩
                case measure => simp [intOf]; omega
            · obtain rfl : m = 6 := by omega
              obtain ⟨vv, hvv⟩ : ∃ vv, sixTo B p 6 = vv := ⟨_, rfl⟩
              rw [hvv] at hvb HLN ⊢
              have hvl : vv < 64 := by omega
              clear hvv hvb hv6 hm6 hm
              have HCL := hide (cut_letter vv hvl)
              go_wp2_with fail
              go_round
              case rel => exact ⟨q + 1, hq1, congrArg (Value.int .i64) (by have := HP.out; omega), by rw [HLN.out, ← strL_append, HOO.out, ← HCL.out]; rfl⟩
              case measure => simp [intOf]; omega
        · have hq1 : q = (8 * s.size + 5) / 6 := by have := HSZ.out; have := HP.out; omega
          subst hq1
          go_wp2_with fail
          go_loop [5] (fun o => ∃ t : Nat, t ≤ (4 - (8 * s.size + 5) / 6 % 4) % 4 ∧ o = .string (strL (lets ((8 * s.size + 5) / 6) B ++ List.replicate t 61))) (fun o => (4 - strLen o % 4) % 4)
          case atStart => exact ⟨0, by omega, by rw [← HOO.out]; simp⟩
          case round =>
            obtain ⟨t, ht, rfl⟩ := hrel
            have hxz : (strL (lets ((8 * s.size + 5) / 6) B ++ List.replicate t 61)).size = (8 * s.size + 5) / 6 + t := by rw [strL_size]; simp [lets_length]
            have hnext : strL (lets ((8 * s.size + 5) / 6) B ++ List.replicate t 61) ++ strL [61] = strL (lets ((8 * s.size + 5) / 6) B ++ List.replicate (t + 1) 61) := by
              rw [strL_append, List.append_assoc, List.replicate_succ']
            have hfin : t = (4 - (8 * s.size + 5) / 6 % 4) % 4 → strL (lets ((8 * s.size + 5) / 6) B ++ List.replicate t 61) = strL (enc s.data.toList) := by
              intro e
              rw [HR.out, pad4, lets_length, ← e]
            have HX := hide hnext
            have HF := hide hfin
            obtain ⟨x, hx⟩ : ∃ x, strL (lets ((8 * s.size + 5) / 6) B ++ List.replicate t 61) = x := ⟨_, rfl⟩
            rw [hx] at hxz HX HF ⊢
            have hxb : x.size ≤ 5000 := by omega
            have HXZ := hide hxz
            clear hx hnext hfin hxz
            by_cases h4 : x.size % 4 = 0
            · have h4' : (((x.size : Int) % 4) != 0) = false := by simp; omega
              have ht2 : t = (4 - (8 * s.size + 5) / 6 % 4) % 4 := by have := HXZ.out; omega
              have HE := hide (HF.out ht2)
              clear ht2 h4
              go_wp2_with fail
              go_ret
              exact ⟨by rw [← HE.out]; rfl, hbw⟩
            · have h4' : (((x.size : Int) % 4) != 0) = true := by simp; omega
              go_wp2_with fail
              go_round
              case rel => exact ⟨t + 1, by have := HXZ.out; omega, by rw [← HX.out]; rfl⟩
              case measure =>
                show (4 - (x ++ ⟨#[61]⟩).size % 4) % 4 < (4 - x.size % 4) % 4
                have e : (x ++ (⟨#[61]⟩ : ByteArray)).size = x.size + 1 := by rw [ByteArray.size_append]; rfl
                rw [e]; omega
end Go.Proofs.Ytafgncledbddiaa
