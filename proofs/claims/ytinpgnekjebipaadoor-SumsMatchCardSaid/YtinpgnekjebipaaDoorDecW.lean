/- The reference's natural numbers in digits: plainDigits, natCompare, natAdd, natSub. -/
import Derived.Test.YtinpgnekjebipaaDoorDecP
import Derived.Test.YtinpgnekjebipaaDoorFill
import Derived.Test.YtinpgnekjebipaaDoorBytew
import Derived.Test.YtinpgnekjebipaaDoorRowB
set_option linter.unusedVariables false
set_option linter.unusedSimpArgs false
namespace Go.Pw
open Go.RowKit
/-- an ending that hands back the digits of a number -/
def NumR (m : Nat) (e : Ending) : Prop := ∃ r : ByteArray, e = .returned (.string r) ∧ Canon r.data.toList ∧ valL r.data.toList = m
theorem padL_at {n i : Nat} {l : List UInt8} (h : l.length ≤ n) (hi : i < n) : (padL n l)[n - 1 - i]? = some (if hl : i < l.length then l[l.length - 1 - i] else 48) := by
  unfold padL
  by_cases hl : i < l.length
  · rw [dif_pos hl, List.getElem?_append_right (by rw [List.length_replicate]; omega), List.length_replicate, show n - 1 - i - (n - l.length) = l.length - 1 - i by omega]
    exact List.getElem?_eq_getElem _
  · rw [dif_neg hl, List.getElem?_append_left (by rw [List.length_replicate]; omega)]
    rw [List.getElem?_replicate, if_pos (by omega)]
theorem padL_in {n i : Nat} {s : ByteArray} (h : s.size ≤ n) (hi : i < s.size) : (padL n s.data.toList)[n - 1 - i]? = some (s[s.size - 1 - i]'(by omega)) := by
  have hs := len_size s
  rw [padL_at (by omega) (by omega), dif_pos (by omega)]
  congr 1
theorem padL_out {n i : Nat} {s : ByteArray} (h : s.size ≤ n) (hi : ¬ i < s.size) (hn : i < n) : (padL n s.data.toList)[n - 1 - i]? = some 48 := by
  have hs := len_size s
  rw [padL_at (by omega) hn, dif_neg (by omega)]
theorem dig_at {s : ByteArray} (h : DigL s.data.toList) {k : Nat} (hk : k < s.size) : 48 ≤ s[k].toNat ∧ s[k].toNat ≤ 57 := h _ (List.getElem_mem (by rw [len_size]; exact hk))
/-- a digit as a byte -/
theorem digit_of {x : Int} (h0 : 0 ≤ x) (h1 : x ≤ 9) : ∃ c : UInt8, (c.toNat : Int) = 48 + x ∧ 48 ≤ c.toNat ∧ c.toNat ≤ 57 := by
  have e : (UInt8.ofNat (48 + x.toNat)).toNat = 48 + x.toNat := by rw [UInt8.toNat_ofNat']; omega
  refine ⟨UInt8.ofNat (48 + x.toNat), ?_, ?_⟩
  · rw [e]; omega
  · rw [e]; omega
end Go.Pw
namespace Go.Proofs.YtinpgnekjebipaaDoor
open Go.RowKit Go.Pw
theorem plainD_any (s : ByteArray) (w : World) : Calls Tryd.prog 77 #[.string s] w fun e w' => e = .returned (.string (mkB (s.data.toList.dropWhile (· == 48)))) ∧ w = w' := by
  go_enter Tryd.func77, Tryd.ntmps77
  go_wp2_with fail
  go_loop [0] (fun v => ∃ t : ByteArray, v = .string t ∧ Hid (s.data.toList.dropWhile (· == 48) = t.data.toList.dropWhile (· == 48))) (fun v => strLen v)
  case atStart => exact ⟨s, rfl, hide rfl⟩
  case round =>
    obtain ⟨t, rfl, HT⟩ := hrel
    by_cases h0 : 0 < t.size
    · have hd : (0 : Int) < (t.size : Int) := by omega
      have hhd := head_byte t h0
      by_cases h1 : t[0] = 48
      · have h2 : ((t[0].toNat : Int) == 48) = true := by simp [h1]
        have HN : Hid (s.data.toList.dropWhile (· == 48) = (t.extract 1 t.size).data.toList.dropWhile (· == 48)) := hide (by rw [HT.out, Lib.extract_to_end, hhd, List.dropWhile_cons, h1]; rfl)
        clear hhd h1
        go_wp2_with fail
        go_round
        case rel => exact ⟨t.extract 1 t.size, rfl, HN⟩
        case measure => simp [strLen, ByteArray.size_extract]; omega
      · have h2 : ((t[0].toNat : Int) == 48) = false := by
          simp only [beq_eq_false_iff_ne, ne_eq]
          intro h; exact h1 (byte_of (by show _ = 48; omega))
        have HN : Hid (mkB (s.data.toList.dropWhile (· == 48)) = t) := hide (by
          rw [HT.out]
          conv => rhs; rw [← mkB_list t]
          congr 1
          rw [hhd, List.dropWhile_cons, show (t[0] == 48) = false by simpa using h1]; rfl)
        clear hhd h1
        go_wp2_with fail
        go_ret
        exact ⟨by rw [HN.out]; rfl, rfl⟩
    · obtain rfl := empty_of (s := t) (by omega)
      have HN : Hid (mkB (s.data.toList.dropWhile (· == 48)) = ⟨#[]⟩) := hide (by rw [HT.out]; rfl)
      go_wp2_with fail
      go_ret
      exact ⟨by rw [HN.out]; rfl, rfl⟩
theorem natCmp_any (a b : ByteArray) (w : World) (ha : Canon a.data.toList) (hb : Canon b.data.toList) (hsa : a.size ≤ 100000) (hsb : b.size ≤ 100000) :
    Calls Tryd.prog 78 #[.string a, .string b] w fun e w' => e = .returned (.int .i64 (Lib.compareInt (valL a.data.toList) (valL b.data.toList))) ∧ Below w.heap.size w w' := by
  have la := len_size a
  have lb := len_size b
  by_cases h : a.size = b.size
  · have h2 : ((a.size : Int) != (b.size : Int)) = false := by simp [h]
    have HC := hide (cb_val _ _ ha.1 hb.1 (by omega))
    have HB := hide (bytewise_any a b w (by omega) (by omega))
    clear la lb h ha hb
    go_enter Tryd.func78, Tryd.ntmps78
    go_wp2_with fail
    refine HB.out.mono ?_
    rintro e w' ⟨rfl, hbl⟩
    go_wp2_with fail
    go_ret
    exact ⟨by rw [← HC.out]; rfl, hbl⟩
  · have h2 : ((a.size : Int) != (b.size : Int)) = true := by simp; omega
    by_cases h3 : a.size < b.size
    · have h4 : (a.size : Int) < (b.size : Int) := by omega
      have hv := canon_len ha hb (by omega)
      have HC : Hid (Lib.compareInt (valL a.data.toList : Int) (valL b.data.toList : Int) = -1) := hide (by unfold Lib.compareInt; rw [if_pos (by omega)])
      clear la lb h ha hb hv
      go_enter Tryd.func78, Tryd.ntmps78
      go_wp2_with fail
      go_ret
      exact ⟨by rw [HC.out]; rfl, Below.refl _ _⟩
    · have h4 : ¬ (a.size : Int) < (b.size : Int) := by omega
      have hv := canon_len hb ha (by omega)
      have HC : Hid (Lib.compareInt (valL a.data.toList : Int) (valL b.data.toList : Int) = 1) := hide (by unfold Lib.compareInt; rw [if_neg (by omega), if_pos (by omega)])
      clear la lb h ha hb hv
      go_enter Tryd.func78, Tryd.ntmps78
      go_wp2_with fail
      go_ret
      exact ⟨by rw [HC.out]; rfl, Below.refl _ _⟩
set_option maxHeartbeats 8000000 in
set_option maxRecDepth 100000 in
theorem natAdd_any (a b : ByteArray) (w : World) (ha : DigL a.data.toList) (hb : DigL b.data.toList) (hsa : a.size ≤ 100000) (hsb : b.size ≤ 100000) :
    Calls Tryd.prog 60 #[.string a, .string b] w fun e w' => NumR (valL a.data.toList + valL b.data.toList) e ∧ Below w.heap.size w w' := by
  obtain ⟨n, hn⟩ : ∃ n, max a.size b.size + 1 = n := ⟨_, rfl⟩
  have hni : max (a.size : Int) (b.size : Int) + 1 = (n : Int) := by omega
  have hna : a.size ≤ n := by omega
  have hnb : b.size ≤ n := by omega
  have hn1 : n ≤ 100001 := by omega
  have hn0 : 1 ≤ n := by omega
  have la := len_size a
  have lb := len_size b
  have hA : (padL n a.data.toList).length = n := padL_len (by omega)
  have hB : (padL n b.data.toList).length = n := padL_len (by omega)
  have HLT : Hid (valL a.data.toList + valL b.data.toList < 10 ^ n) := hide (by
    have h1 := valL_lt _ ha
    have h2 := valL_lt _ hb
    have h3 : 10 ^ a.data.toList.length ≤ 10 ^ (n - 1) := Nat.pow_le_pow_right (by omega) (by omega)
    have h4 : 10 ^ b.data.toList.length ≤ 10 ^ (n - 1) := Nat.pow_le_pow_right (by omega) (by omega)
    have h5 : 10 ^ n = 10 ^ (n - 1) * 10 := by rw [← Nat.pow_succ, show (n - 1).succ = n by omega]
    omega)
  have hR := rowB_made w n 5
  have HR0 : Hid (RowB (w.alloc (.cells (madeCells #[.int .u8 0] n) 5)) w.heap.size (List.replicate n 0)) := hide hR
  have HB0 := hide ((Below.refl w.heap.size w).alloc (Nat.le_refl _) (.cells (madeCells #[.int .u8 0] n) 5))
  have HA0 : Hid (AddAt (padL n a.data.toList) (padL n b.data.toList) (List.replicate n 0) 1 0 n n) := hide (AddAt.start 1 hA hB (List.length_replicate ..))
  have hmk := run_make_row' (P := Tryd.prog) 78 5 (.int .u8 0) 1 Tryd.underlying78 infoB rfl .i64 .i64 n (by omega) (by omega)
  have HNI := hide hni
  have HHA := hide hA
  have HHB := hide hB
  have HDA := hide ha
  have HDB := hide hb
  clear hR hn la lb hA hB ha hb
  go_enter Tryd.func60, Tryd.ntmps60
  go_wp2_with fail
  clear hmk hni
  go_loopw [6, 18] (fun cv iv wr => ∃ (i cr : Nat) (O : List UInt8), i ≤ n ∧ iv = .int .i64 (i : Int) ∧ cv = .int .i64 (cr : Int) ∧ cr ≤ 1 ∧ Hid (AddAt (padL n a.data.toList) (padL n b.data.toList) O 1 (cr : Int) n (n - i)) ∧ Hid (RowB wr w.heap.size O) ∧ Hid (Below w.heap.size w wr)) (fun _ iv _ => n - (intOf iv).toNat)
  case atStart => exact ⟨0, 0, List.replicate n 0, by omega, rfl, rfl, by omega, HA0, HR0, HB0⟩
  case round =>
    obtain ⟨i, cr, O, hi, rfl, rfl, hcr, HA, HR, HB⟩ := hrel
    by_cases hlt : i < n
    · have hd : (i : Int) < (n : Int) := by omega
      obtain ⟨j, hj⟩ : ∃ j, n - 1 - i = j := ⟨_, rfl⟩
      have hij : n - i = j + 1 := by omega
      have HJ : Hid (n - 1 - i = j) := hide hj
      have hji : (n : Int) - 1 - (i : Int) = (j : Int) := by omega
      have hjn : j < n := by omega
      have hlB := HR.out.1
      by_cases hia : i < a.size
      · by_cases hib : i < b.size
        · skip
          obtain ⟨ka, hka⟩ : ∃ ka, a.size - 1 - i = ka := ⟨_, rfl⟩
          have hkal : ka < a.size := by omega
          have hkai : (a.size : Int) - 1 - (i : Int) = (ka : Int) := by omega
          have hax := padL_in hna hia
          have hdx := dig_at HDA.out hkal
          simp only [hka] at hax
          obtain ⟨x, hx⟩ : ∃ x, a[ka] = x := ⟨_, rfl⟩
          rw [hx] at hax hdx
          have hx1 : 48 ≤ (x.toNat : Int) := by omega
          have hx2 : (x.toNat : Int) ≤ 57 := by omega
          have hxi : (i : Int) < (a.size : Int) := by omega
          obtain ⟨kb, hkb⟩ : ∃ kb, b.size - 1 - i = kb := ⟨_, rfl⟩
          have hkbl : kb < b.size := by omega
          have hkbi : (b.size : Int) - 1 - (i : Int) = (kb : Int) := by omega
          have hby := padL_in hnb hib
          have hdy := dig_at HDB.out hkbl
          simp only [hkb] at hby
          obtain ⟨y, hy⟩ : ∃ y, b[kb] = y := ⟨_, rfl⟩
          rw [hy] at hby hdy
          have hy1 : 48 ≤ (y.toNat : Int) := by omega
          have hy2 : (y.toNat : Int) ≤ 57 := by omega
          have hyi : (i : Int) < (b.size : Int) := by omega
          have hE0 : 0 ≤ (cr : Int) + ((x.toNat : Int) - 48) + ((y.toNat : Int) - 48) := by omega
          have hE1 : (cr : Int) + ((x.toNat : Int) - 48) + ((y.toNat : Int) - 48) ≤ 19 := by omega
          obtain ⟨c, hc, hcd⟩ := digit_of (x := ((cr : Int) + ((x.toNat : Int) - 48) + ((y.toNat : Int) - 48)) % 10) (by omega) (by omega)
          obtain ⟨dc, hdc⟩ : ∃ dc : Nat, ((cr : Int) + ((x.toNat : Int) - 48) + ((y.toNat : Int) - 48)) / 10 = (dc : Int) := ⟨(((cr : Int) + ((x.toNat : Int) - 48) + ((y.toNat : Int) - 48)) / 10).toNat, by omega⟩
          have HAN : Hid (AddAt (padL n a.data.toList) (padL n b.data.toList) (O.set j c) 1 (dc : Int) n j) := hide (AddAt.step (i := j) (by rw [← hij]; exact HA.out) HHA.out HHB.out (by omega) (by rw [← hj]; exact hax) (by rw [← hj]; exact hby) dc hcd (by (try simp only [show (48 : UInt8).toNat = 48 from rfl]); omega) (by omega) (by omega))
          have HRN : Hid (RowB (wr.setCell ⟨w.heap.size, j, none⟩ (.int .u8 (48 + ((cr : Int) + ((x.toNat : Int) - 48) + ((y.toNat : Int) - 48)) % 10))) w.heap.size (O.set j c)) := hide (by rw [← hc]; exact HR.out.set (by rw [HA.out.len]; omega) c)
          have HBN := hide (HB.out.setCell (p := ⟨w.heap.size, j, none⟩) (by simp) (.int .u8 (48 + ((cr : Int) + ((x.toNat : Int) - 48) + ((y.toNat : Int) - 48)) % 10)))
          have hcell := (HR.out.2 j _ (List.getElem?_eq_getElem (by rw [HA.out.len]; omega))).1
          have hfrz := (HR.out.2 j _ (List.getElem?_eq_getElem (by rw [HA.out.len]; omega))).2
          have HDC := hide hdc
          clear hax hby hc hcd hdc hij hj hka hdx hkb hdy
          go_wp2_with fail
          go_roundw
          case rel => exact ⟨i + 1, dc, O.set j c, by omega, by go_num, by rw [HDC.out], by have := HDC.out; omega, by rw [show n - (i + 1) = j by have := HJ.out; omega]; exact HAN, HRN, HBN⟩
          case measure => simp [intOf]; omega
        · skip
          obtain ⟨ka, hka⟩ : ∃ ka, a.size - 1 - i = ka := ⟨_, rfl⟩
          have hkal : ka < a.size := by omega
          have hkai : (a.size : Int) - 1 - (i : Int) = (ka : Int) := by omega
          have hax := padL_in hna hia
          have hdx := dig_at HDA.out hkal
          simp only [hka] at hax
          obtain ⟨x, hx⟩ : ∃ x, a[ka] = x := ⟨_, rfl⟩
          rw [hx] at hax hdx
          have hx1 : 48 ≤ (x.toNat : Int) := by omega
          have hx2 : (x.toNat : Int) ≤ 57 := by omega
          have hxi : (i : Int) < (a.size : Int) := by omega
          have hby := padL_out hnb hib hlt
          have hyi : ¬ (i : Int) < (b.size : Int) := by omega
          have hE0 : 0 ≤ (cr : Int) + ((x.toNat : Int) - 48) := by omega
          have hE1 : (cr : Int) + ((x.toNat : Int) - 48) ≤ 19 := by omega
          obtain ⟨c, hc, hcd⟩ := digit_of (x := ((cr : Int) + ((x.toNat : Int) - 48)) % 10) (by omega) (by omega)
          obtain ⟨dc, hdc⟩ : ∃ dc : Nat, ((cr : Int) + ((x.toNat : Int) - 48)) / 10 = (dc : Int) := ⟨(((cr : Int) + ((x.toNat : Int) - 48)) / 10).toNat, by omega⟩
          have HAN : Hid (AddAt (padL n a.data.toList) (padL n b.data.toList) (O.set j c) 1 (dc : Int) n j) := hide (AddAt.step (i := j) (by rw [← hij]; exact HA.out) HHA.out HHB.out (by omega) (by rw [← hj]; exact hax) (by rw [← hj]; exact hby) dc hcd (by (try simp only [show (48 : UInt8).toNat = 48 from rfl]); omega) (by omega) (by omega))
          have HRN : Hid (RowB (wr.setCell ⟨w.heap.size, j, none⟩ (.int .u8 (48 + ((cr : Int) + ((x.toNat : Int) - 48)) % 10))) w.heap.size (O.set j c)) := hide (by rw [← hc]; exact HR.out.set (by rw [HA.out.len]; omega) c)
          have HBN := hide (HB.out.setCell (p := ⟨w.heap.size, j, none⟩) (by simp) (.int .u8 (48 + ((cr : Int) + ((x.toNat : Int) - 48)) % 10)))
          have hcell := (HR.out.2 j _ (List.getElem?_eq_getElem (by rw [HA.out.len]; omega))).1
          have hfrz := (HR.out.2 j _ (List.getElem?_eq_getElem (by rw [HA.out.len]; omega))).2
          have HDC := hide hdc
          clear hax hby hc hcd hdc hij hj hka hdx
          go_wp2_with fail
          go_roundw
          case rel => exact ⟨i + 1, dc, O.set j c, by omega, by go_num, by rw [HDC.out], by have := HDC.out; omega, by rw [show n - (i + 1) = j by have := HJ.out; omega]; exact HAN, HRN, HBN⟩
          case measure => simp [intOf]; omega
      · by_cases hib : i < b.size
        · skip
          have hax := padL_out hna hia hlt
          have hxi : ¬ (i : Int) < (a.size : Int) := by omega
          obtain ⟨kb, hkb⟩ : ∃ kb, b.size - 1 - i = kb := ⟨_, rfl⟩
          have hkbl : kb < b.size := by omega
          have hkbi : (b.size : Int) - 1 - (i : Int) = (kb : Int) := by omega
          have hby := padL_in hnb hib
          have hdy := dig_at HDB.out hkbl
          simp only [hkb] at hby
          obtain ⟨y, hy⟩ : ∃ y, b[kb] = y := ⟨_, rfl⟩
          rw [hy] at hby hdy
          have hy1 : 48 ≤ (y.toNat : Int) := by omega
          have hy2 : (y.toNat : Int) ≤ 57 := by omega
          have hyi : (i : Int) < (b.size : Int) := by omega
          have hE0 : 0 ≤ (cr : Int) + ((y.toNat : Int) - 48) := by omega
          have hE1 : (cr : Int) + ((y.toNat : Int) - 48) ≤ 19 := by omega
          obtain ⟨c, hc, hcd⟩ := digit_of (x := ((cr : Int) + ((y.toNat : Int) - 48)) % 10) (by omega) (by omega)
          obtain ⟨dc, hdc⟩ : ∃ dc : Nat, ((cr : Int) + ((y.toNat : Int) - 48)) / 10 = (dc : Int) := ⟨(((cr : Int) + ((y.toNat : Int) - 48)) / 10).toNat, by omega⟩
          have HAN : Hid (AddAt (padL n a.data.toList) (padL n b.data.toList) (O.set j c) 1 (dc : Int) n j) := hide (AddAt.step (i := j) (by rw [← hij]; exact HA.out) HHA.out HHB.out (by omega) (by rw [← hj]; exact hax) (by rw [← hj]; exact hby) dc hcd (by (try simp only [show (48 : UInt8).toNat = 48 from rfl]); omega) (by omega) (by omega))
          have HRN : Hid (RowB (wr.setCell ⟨w.heap.size, j, none⟩ (.int .u8 (48 + ((cr : Int) + ((y.toNat : Int) - 48)) % 10))) w.heap.size (O.set j c)) := hide (by rw [← hc]; exact HR.out.set (by rw [HA.out.len]; omega) c)
          have HBN := hide (HB.out.setCell (p := ⟨w.heap.size, j, none⟩) (by simp) (.int .u8 (48 + ((cr : Int) + ((y.toNat : Int) - 48)) % 10)))
          have hcell := (HR.out.2 j _ (List.getElem?_eq_getElem (by rw [HA.out.len]; omega))).1
          have hfrz := (HR.out.2 j _ (List.getElem?_eq_getElem (by rw [HA.out.len]; omega))).2
          have HDC := hide hdc
          clear hax hby hc hcd hdc hij hj hkb hdy
          go_wp2_with fail
          go_roundw
          case rel => exact ⟨i + 1, dc, O.set j c, by omega, by go_num, by rw [HDC.out], by have := HDC.out; omega, by rw [show n - (i + 1) = j by have := HJ.out; omega]; exact HAN, HRN, HBN⟩
          case measure => simp [intOf]; omega
        · skip
          have hax := padL_out hna hia hlt
          have hxi : ¬ (i : Int) < (a.size : Int) := by omega
          have hby := padL_out hnb hib hlt
          have hyi : ¬ (i : Int) < (b.size : Int) := by omega
          have hE0 : 0 ≤ (cr : Int) := by omega
          have hE1 : (cr : Int) ≤ 19 := by omega
          obtain ⟨c, hc, hcd⟩ := digit_of (x := ((cr : Int)) % 10) (by omega) (by omega)
          obtain ⟨dc, hdc⟩ : ∃ dc : Nat, ((cr : Int)) / 10 = (dc : Int) := ⟨(((cr : Int)) / 10).toNat, by omega⟩
          have HAN : Hid (AddAt (padL n a.data.toList) (padL n b.data.toList) (O.set j c) 1 (dc : Int) n j) := hide (AddAt.step (i := j) (by rw [← hij]; exact HA.out) HHA.out HHB.out (by omega) (by rw [← hj]; exact hax) (by rw [← hj]; exact hby) dc hcd (by (try simp only [show (48 : UInt8).toNat = 48 from rfl]); omega) (by omega) (by omega))
          have HRN : Hid (RowB (wr.setCell ⟨w.heap.size, j, none⟩ (.int .u8 (48 + ((cr : Int)) % 10))) w.heap.size (O.set j c)) := hide (by rw [← hc]; exact HR.out.set (by rw [HA.out.len]; omega) c)
          have HBN := hide (HB.out.setCell (p := ⟨w.heap.size, j, none⟩) (by simp) (.int .u8 (48 + ((cr : Int)) % 10)))
          have hcell := (HR.out.2 j _ (List.getElem?_eq_getElem (by rw [HA.out.len]; omega))).1
          have hfrz := (HR.out.2 j _ (List.getElem?_eq_getElem (by rw [HA.out.len]; omega))).2
          have HDC := hide hdc
          clear hax hby hc hcd hdc hij hj
          go_wp2_with fail
          go_roundw
          case rel => exact ⟨i + 1, dc, O.set j c, by omega, by go_num, by rw [HDC.out], by have := HDC.out; omega, by rw [show n - (i + 1) = j by have := HJ.out; omega]; exact HAN, HRN, HBN⟩
          case measure => simp [intOf]; omega
    · obtain rfl : i = n := by omega
      have hd : ¬ ((i : Int) < (i : Int)) := by omega
      rw [Nat.sub_self] at HA
      have hdn := HA.out.done (m := valL a.data.toList + valL b.data.toList) (by rw [padL_val, padL_val]; push_cast; omega) HLT.out
      have hst := strip_val O hdn.1
      have hback : (convert 78 9 (.slice (some ⟨w.heap.size, 0, none⟩) i i)).run Tryd.prog wr = .ok (.string (mkB O)) wr := by
        have := run_convert_bytes_back (P := Tryd.prog) wr 78 9 5 ⟨w.heap.size, 0, none⟩ i O Tryd.underlying78 Tryd.underlying5 Tryd.underlying9 (fun j hj => by
          have := (HR.out.2 j _ (List.getElem?_eq_getElem hj)).1
          have ea : Addr.add ⟨w.heap.size, 0, none⟩ j = ⟨w.heap.size, j, none⟩ := by
            unfold Addr.add; split
            · rename_i h; rw [h]
            · simp
          rw [ea]; exact this)
        rw [HA.out.len] at this
        exact this
      have HST : Hid (NumR (valL a.data.toList + valL b.data.toList) (.returned (.string (mkB ((mkB O).data.toList.dropWhile (· == 48)))))) := hide ⟨_, rfl, hst.1, by rw [← hdn.2]; exact hst.2⟩
      clear hdn hst
      go_wp2_with fail
      refine (plainD_any _ _).mono ?_
      rintro e w' ⟨rfl, rfl⟩
      go_wp2_with fail
      go_ret
      exact ⟨HST.out, HB.out⟩
set_option maxHeartbeats 8000000 in
set_option maxRecDepth 100000 in
theorem natSub_any (a b : ByteArray) (w : World) (ha : DigL a.data.toList) (hb : DigL b.data.toList) (hsa : a.size ≤ 100000) (hsb : b.size ≤ a.size) (hle : valL b.data.toList ≤ valL a.data.toList) :
    Calls Tryd.prog 79 #[.string a, .string b] w fun e w' => NumR (valL a.data.toList - valL b.data.toList) e ∧ Below w.heap.size w w' := by
  obtain ⟨n, hn⟩ : ∃ n, a.size = n := ⟨_, rfl⟩
  have hna : a.size ≤ n := by omega
  have hnb : b.size ≤ n := by omega
  have hn1 : n ≤ 100001 := by omega
  have la := len_size a
  have lb := len_size b
  have hA : (padL n a.data.toList).length = n := padL_len (by omega)
  have hB : (padL n b.data.toList).length = n := padL_len (by omega)
  have HLT : Hid (valL a.data.toList - valL b.data.toList < 10 ^ n) := hide (by
    have h1 := valL_lt _ ha
    rw [la, hn] at h1
    omega)
  have HLE := hide hle
  have hR := rowB_made w a.size 5
  have hmk := run_make_row' (P := Tryd.prog) 78 5 (.int .u8 0) 1 Tryd.underlying78 infoB rfl .i64 .i64 a.size (by omega) (by omega)
  rw [hn] at hR hmk
  have HR0 : Hid (RowB (w.alloc (.cells (madeCells #[.int .u8 0] n) 5)) w.heap.size (List.replicate n 0)) := hide hR
  have HB0 := hide ((Below.refl w.heap.size w).alloc (Nat.le_refl _) (.cells (madeCells #[.int .u8 0] n) 5))
  have HA0 : Hid (AddAt (padL n a.data.toList) (padL n b.data.toList) (List.replicate n 0) (-1) 0 n n) := hide (AddAt.start (-1) hA hB (List.length_replicate ..))
  have HHA := hide hA
  have HHB := hide hB
  have HDA := hide ha
  have HDB := hide hb
  have hnI : (a.size : Int) = (n : Int) := by omega
  have HN := hide hn
  clear hR hn la lb hA hB ha hb hle
  go_enter Tryd.func79, Tryd.ntmps79
  go_wp2_with fail
  clear hmk
  go_loopw [6, 14] (fun cv iv wr => ∃ (i cr : Nat) (O : List UInt8), i ≤ n ∧ iv = .int .i64 (i : Int) ∧ cv = .int .i64 (cr : Int) ∧ cr ≤ 1 ∧ Hid (AddAt (padL n a.data.toList) (padL n b.data.toList) O (-1) (-(cr : Int)) n (n - i)) ∧ Hid (RowB wr w.heap.size O) ∧ Hid (Below w.heap.size w wr)) (fun _ iv _ => n - (intOf iv).toNat)
  case atStart => exact ⟨0, 0, List.replicate n 0, by omega, rfl, rfl, by omega, HA0, HR0, HB0⟩
  case round =>
    obtain ⟨i, cr, O, hi, rfl, rfl, hcr, HA, HR, HB⟩ := hrel
    by_cases hlt : i < n
    · have hna2 := HN.out
      have hia : i < a.size := by omega
      have hd : (i : Int) < (n : Int) := by omega
      obtain ⟨j, hj⟩ : ∃ j, n - 1 - i = j := ⟨_, rfl⟩
      have hij : n - i = j + 1 := by omega
      have HJ : Hid (n - 1 - i = j) := hide hj
      have hji : (n : Int) - 1 - (i : Int) = (j : Int) := by omega
      have hjn : j < n := by omega
      have hlB := HR.out.1
      by_cases hib : i < b.size
      · skip
        have hkal : j < a.size := by omega
        have hax := padL_in hna hia
        have hdx := dig_at HDA.out hkal
        have hka : a.size - 1 - i = j := by omega
        simp only [hka] at hax
        obtain ⟨x, hx⟩ : ∃ x, a[j] = x := ⟨_, rfl⟩
        rw [hx] at hax hdx
        have hx1 : 48 ≤ (x.toNat : Int) := by omega
        have hx2 : (x.toNat : Int) ≤ 57 := by omega
        obtain ⟨kb, hkb⟩ : ∃ kb, b.size - 1 - i = kb := ⟨_, rfl⟩
        have hkbl : kb < b.size := by omega
        have hkbi : (b.size : Int) - 1 - (i : Int) = (kb : Int) := by omega
        have hby := padL_in hnb hib
        have hdy := dig_at HDB.out hkbl
        simp only [hkb] at hby
        obtain ⟨y, hy⟩ : ∃ y, b[kb] = y := ⟨_, rfl⟩
        rw [hy] at hby hdy
        have hy1 : 48 ≤ (y.toNat : Int) := by omega
        have hy2 : (y.toNat : Int) ≤ 57 := by omega
        have hyi : (i : Int) < (b.size : Int) := by omega
        by_cases hneg : (x.toNat : Int) - 48 - (cr : Int) - ((y.toNat : Int) - 48) < 0
        · obtain ⟨c, hc, hcd⟩ := digit_of (x := ((x.toNat : Int) - 48 - (cr : Int) - ((y.toNat : Int) - 48)) + 10) (by omega) (by omega)
          have HAN : Hid (AddAt (padL n a.data.toList) (padL n b.data.toList) (O.set j c) (-1) (-((1 : Nat) : Int)) n j) := hide (AddAt.step (i := j) (by rw [← hij]; exact HA.out) HHA.out HHB.out (by omega) (by rw [← hj]; exact hax) (by rw [← hj]; exact hby) (-((1 : Nat) : Int)) hcd (by (try simp only [show (48 : UInt8).toNat = 48 from rfl]); omega) (by omega) (by omega))
          have HRN : Hid (RowB (wr.setCell ⟨w.heap.size, j, none⟩ (.int .u8 (48 + (((x.toNat : Int) - 48 - (cr : Int) - ((y.toNat : Int) - 48)) + 10)))) w.heap.size (O.set j c)) := hide (by rw [← hc]; exact HR.out.set (by rw [HA.out.len]; omega) c)
          have HBN := hide (HB.out.setCell (p := ⟨w.heap.size, j, none⟩) (by simp) (.int .u8 (48 + (((x.toNat : Int) - 48 - (cr : Int) - ((y.toNat : Int) - 48)) + 10))))
          have hcell := (HR.out.2 j _ (List.getElem?_eq_getElem (by rw [HA.out.len]; omega))).1
          have hfrz := (HR.out.2 j _ (List.getElem?_eq_getElem (by rw [HA.out.len]; omega))).2
          clear hax hby hc hcd hij hj hka hdx hna2 hkb hdy
          go_wp2_with fail
          go_roundw
          case rel => exact ⟨i + 1, 1, O.set j c, by omega, by go_num, rfl, by omega, by rw [show n - (i + 1) = j by have := HJ.out; omega]; exact HAN, HRN, HBN⟩
          case measure => simp [intOf]; omega
        · obtain ⟨c, hc, hcd⟩ := digit_of (x := (x.toNat : Int) - 48 - (cr : Int) - ((y.toNat : Int) - 48)) (by omega) (by omega)
          have HAN : Hid (AddAt (padL n a.data.toList) (padL n b.data.toList) (O.set j c) (-1) (-((0 : Nat) : Int)) n j) := hide (AddAt.step (i := j) (by rw [← hij]; exact HA.out) HHA.out HHB.out (by omega) (by rw [← hj]; exact hax) (by rw [← hj]; exact hby) (-((0 : Nat) : Int)) hcd (by (try simp only [show (48 : UInt8).toNat = 48 from rfl]); omega) (by omega) (by omega))
          have HRN : Hid (RowB (wr.setCell ⟨w.heap.size, j, none⟩ (.int .u8 (48 + ((x.toNat : Int) - 48 - (cr : Int) - ((y.toNat : Int) - 48))))) w.heap.size (O.set j c)) := hide (by rw [← hc]; exact HR.out.set (by rw [HA.out.len]; omega) c)
          have HBN := hide (HB.out.setCell (p := ⟨w.heap.size, j, none⟩) (by simp) (.int .u8 (48 + ((x.toNat : Int) - 48 - (cr : Int) - ((y.toNat : Int) - 48)))))
          have hcell := (HR.out.2 j _ (List.getElem?_eq_getElem (by rw [HA.out.len]; omega))).1
          have hfrz := (HR.out.2 j _ (List.getElem?_eq_getElem (by rw [HA.out.len]; omega))).2
          clear hax hby hc hcd hij hj hka hdx hna2 hkb hdy
          go_wp2_with fail
          go_roundw
          case rel => exact ⟨i + 1, 0, O.set j c, by omega, by go_num, rfl, by omega, by rw [show n - (i + 1) = j by have := HJ.out; omega]; exact HAN, HRN, HBN⟩
          case measure => simp [intOf]; omega
      · skip
        have hkal : j < a.size := by omega
        have hax := padL_in hna hia
        have hdx := dig_at HDA.out hkal
        have hka : a.size - 1 - i = j := by omega
        simp only [hka] at hax
        obtain ⟨x, hx⟩ : ∃ x, a[j] = x := ⟨_, rfl⟩
        rw [hx] at hax hdx
        have hx1 : 48 ≤ (x.toNat : Int) := by omega
        have hx2 : (x.toNat : Int) ≤ 57 := by omega
        have hby := padL_out hnb hib hlt
        have hyi : ¬ (i : Int) < (b.size : Int) := by omega
        by_cases hneg : (x.toNat : Int) - 48 - (cr : Int) < 0
        · obtain ⟨c, hc, hcd⟩ := digit_of (x := ((x.toNat : Int) - 48 - (cr : Int)) + 10) (by omega) (by omega)
          have HAN : Hid (AddAt (padL n a.data.toList) (padL n b.data.toList) (O.set j c) (-1) (-((1 : Nat) : Int)) n j) := hide (AddAt.step (i := j) (by rw [← hij]; exact HA.out) HHA.out HHB.out (by omega) (by rw [← hj]; exact hax) (by rw [← hj]; exact hby) (-((1 : Nat) : Int)) hcd (by (try simp only [show (48 : UInt8).toNat = 48 from rfl]); omega) (by omega) (by omega))
          have HRN : Hid (RowB (wr.setCell ⟨w.heap.size, j, none⟩ (.int .u8 (48 + (((x.toNat : Int) - 48 - (cr : Int)) + 10)))) w.heap.size (O.set j c)) := hide (by rw [← hc]; exact HR.out.set (by rw [HA.out.len]; omega) c)
          have HBN := hide (HB.out.setCell (p := ⟨w.heap.size, j, none⟩) (by simp) (.int .u8 (48 + (((x.toNat : Int) - 48 - (cr : Int)) + 10))))
          have hcell := (HR.out.2 j _ (List.getElem?_eq_getElem (by rw [HA.out.len]; omega))).1
          have hfrz := (HR.out.2 j _ (List.getElem?_eq_getElem (by rw [HA.out.len]; omega))).2
          clear hax hby hc hcd hij hj hka hdx hna2
          go_wp2_with fail
          go_roundw
          case rel => exact ⟨i + 1, 1, O.set j c, by omega, by go_num, rfl, by omega, by rw [show n - (i + 1) = j by have := HJ.out; omega]; exact HAN, HRN, HBN⟩
          case measure => simp [intOf]; omega
        · obtain ⟨c, hc, hcd⟩ := digit_of (x := (x.toNat : Int) - 48 - (cr : Int)) (by omega) (by omega)
          have HAN : Hid (AddAt (padL n a.data.toList) (padL n b.data.toList) (O.set j c) (-1) (-((0 : Nat) : Int)) n j) := hide (AddAt.step (i := j) (by rw [← hij]; exact HA.out) HHA.out HHB.out (by omega) (by rw [← hj]; exact hax) (by rw [← hj]; exact hby) (-((0 : Nat) : Int)) hcd (by (try simp only [show (48 : UInt8).toNat = 48 from rfl]); omega) (by omega) (by omega))
          have HRN : Hid (RowB (wr.setCell ⟨w.heap.size, j, none⟩ (.int .u8 (48 + ((x.toNat : Int) - 48 - (cr : Int))))) w.heap.size (O.set j c)) := hide (by rw [← hc]; exact HR.out.set (by rw [HA.out.len]; omega) c)
          have HBN := hide (HB.out.setCell (p := ⟨w.heap.size, j, none⟩) (by simp) (.int .u8 (48 + ((x.toNat : Int) - 48 - (cr : Int)))))
          have hcell := (HR.out.2 j _ (List.getElem?_eq_getElem (by rw [HA.out.len]; omega))).1
          have hfrz := (HR.out.2 j _ (List.getElem?_eq_getElem (by rw [HA.out.len]; omega))).2
          clear hax hby hc hcd hij hj hka hdx hna2
          go_wp2_with fail
          go_roundw
          case rel => exact ⟨i + 1, 0, O.set j c, by omega, by go_num, rfl, by omega, by rw [show n - (i + 1) = j by have := HJ.out; omega]; exact HAN, HRN, HBN⟩
          case measure => simp [intOf]; omega
    · obtain rfl : i = n := by omega
      have hd : ¬ ((i : Int) < (i : Int)) := by omega
      rw [Nat.sub_self] at HA
      have hdn := HA.out.done (m := valL a.data.toList - valL b.data.toList) (by rw [padL_val, padL_val]; have := HLE.out; omega) HLT.out
      have hst := strip_val O hdn.1
      have hback : (convert 78 9 (.slice (some ⟨w.heap.size, 0, none⟩) i i)).run Tryd.prog wr = .ok (.string (mkB O)) wr := by
        have := run_convert_bytes_back (P := Tryd.prog) wr 78 9 5 ⟨w.heap.size, 0, none⟩ i O Tryd.underlying78 Tryd.underlying5 Tryd.underlying9 (fun j hj => by
          have := (HR.out.2 j _ (List.getElem?_eq_getElem hj)).1
          have ea : Addr.add ⟨w.heap.size, 0, none⟩ j = ⟨w.heap.size, j, none⟩ := by
            unfold Addr.add; split
            · rename_i h; rw [h]
            · simp
          rw [ea]; exact this)
        rw [HA.out.len] at this
        exact this
      have HST : Hid (NumR (valL a.data.toList - valL b.data.toList) (.returned (.string (mkB ((mkB O).data.toList.dropWhile (· == 48)))))) := hide ⟨_, rfl, hst.1, by rw [← hdn.2]; exact hst.2⟩
      clear hdn hst
      go_wp2_with fail
      refine (plainD_any _ _).mono ?_
      rintro e w' ⟨rfl, rfl⟩
      go_wp2_with fail
      go_ret
      exact ⟨HST.out, HB.out⟩
end Go.Proofs.YtinpgnekjebipaaDoor
