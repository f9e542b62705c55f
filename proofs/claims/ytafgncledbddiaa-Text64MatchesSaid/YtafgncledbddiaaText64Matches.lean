import Derived.Test.YtafgncledbddiaaLetters
import Derived.Test.YtafgncledbddiaaDiffers
import Derived.Test.YtafgncledbddiaaOpen
import Derived.Deep.QuietTactic
import Derived.BigQuiet
set_option linter.unusedSimpArgs false
set_option linter.unusedVariables false
namespace Go.Proofs.Ytafgncledbddiaa
open Go.RowKit Go.Pw

/-- what is read of a text with line feeds put in -/
theorem read_back {s T : ByteArray} (hs : s.size ≤ 3000) (ht : T.size ≤ 5000) (h : pfold T.data.toList p0 = pfold (enc s.data.toList) p0) : progVal T = .tuple #[.string s, .int .i64 0, .int .i64 0] := by
  obtain ⟨st, h1, h2, h3⟩ := dec s.data.toList []
  have hr : prun T.data.toList p0 0 = .inr st := prun_of_pfold _ _ _ _ (h.trans h1)
  rw [prog_end (by omega) hr h2, h3]
  rfl
theorem nl_in {T : ByteArray} {k : Nat} {l : List UInt8} (h : Hid (pfold T.data.toList p0 = pfold l p0)) : Hid (pfold ((T.extract 0 k ++ (⟨#[10]⟩ : ByteArray)) ++ T.extract k T.size).data.toList p0 = pfold l p0) := by
  show _ = _
  rw [← h.out]
  have e1 : ((T.extract 0 k ++ (⟨#[10]⟩ : ByteArray)) ++ T.extract k T.size).data.toList = T.data.toList.take k ++ 10 :: T.data.toList.drop k := by
    have h1 := Lib.extract_data T 0 k
    have h2 := Lib.extract_data T k T.size
    have e2 : T.data.toList.length = T.size := Array.length_toList
    rw [List.take_of_length_le (by rw [List.length_drop]; omega)] at h2
    simp only [List.drop_zero, Nat.sub_zero] at h1
    rw [ByteArray.data_append, ByteArray.data_append, Array.toList_append, Array.toList_append, h1, h2]
    simp
  rw [e1, pfold_nl, List.take_append_drop]

set_option maxHeartbeats 4000000 in
set_option maxRecDepth 100000 in
theorem text64Matches_any (s : ByteArray) (v : Value) (l : List Int) (w : World) (hv : Ints w v l) :
    Calls Try.prog 6 #[.string s, v] w fun e w' => e = .returned (.bool true) ∧ Below w.heap.size w w' := by
  obtain ⟨⟨_, A, cap, rfl, hcap, hmax, hx⟩, hints⟩ := hv
  have HX := hide hx
  have HI := hide hints
  clear hx hints
  unfold maxLen at hmax
  by_cases hl : 262144 < s.size
  · have hl' : decide ((262144 : Int) < (s.size : Int)) = true := by simp; omega
    go_enter Try.func6, Try.ntmps6
    go_wp2_with fail
    refine (text64_large s _ hl).mono ?_
    rintro e w1 ⟨rfl, rfl⟩
    go_wp2_with fail
    refine (differs_any _).mono ?_
    rintro e w3 ⟨rfl, hb3⟩
    go_wp2_with fail
    refine (differs_any _).mono ?_
    rintro e w4 ⟨rfl, hb4⟩
    have hb4' := hb3.trans (hb4.mono hb3.size)
    go_wp2_with fail
    go_ret
    exact ⟨ret_bool (by simp), hb4'⟩
  · have hl' : decide ((262144 : Int) < (s.size : Int)) = false := by simp; omega
    by_cases hsm : 3000 < s.size ∨ 50 < l.length
    · go_enter Try.func6, Try.ntmps6
      go_wp2_with fail
      refine (text64_any s _ (by omega)).mono ?_
      rintro e w1 ⟨rfl, hb1⟩
      go_wp2_with fail
      refine (differs_any _).mono ?_
      rintro e w3 ⟨rfl, hb3⟩
      have hb4' := hb1.trans (hb3.mono hb1.size)
      clear hb1 hb3
      by_cases h3 : 3000 < s.size
      · have h3' : decide ((3000 : Int) < (s.size : Int)) = true := by simp; omega
        clear hsm
        go_wp2_with fail
        go_ret
        exact ⟨ret_bool (by simp), hb4'⟩
      · have h3' : decide ((3000 : Int) < (s.size : Int)) = false := by simp; omega
        have h5 : decide ((50 : Int) < (l.length : Int)) = true := by simp; omega
        clear hsm
        go_wp2_with fail
        go_ret
        exact ⟨ret_bool (by simp), hb4'⟩
    · have h3 : s.size ≤ 3000 := by omega
      have h5 : l.length ≤ 50 := by omega
      have h3' : decide ((3000 : Int) < (s.size : Int)) = false := by simp; omega
      have h5' : decide ((50 : Int) < (l.length : Int)) = false := by simp; omega
      clear hsm
      go_enter Try.func6, Try.ntmps6
      go_wp2_with fail
      refine (text64_any s _ (by omega)).mono ?_
      rintro e w1 ⟨rfl, hb1⟩
      go_wp2_with fail
      refine (differs_any _).mono ?_
      rintro e w3 ⟨rfl, hb3⟩
      have hb4' := hb1.trans (hb3.mono hb1.size)
      clear hb1 hb3
      go_wp2_with fail
      refine (letters_any s _ h3).mono ?_
      rintro e w4 ⟨rfl, hb4⟩
      have hb5 := hb4'.trans (hb4.mono hb4'.size)
      clear hb4' hb4
      have hE0 : (strL (enc s.data.toList)).size ≤ 4004 := by
        have e2 : s.data.toList.length = s.size := Array.length_toList
        rw [strL_size, enc_length, e2]; omega
      have HP0 : Hid (pfold (strL (enc s.data.toList)).data.toList p0 = pfold (enc s.data.toList) p0) := by
        show _ = _
        simp [strL]
      have e0 : (⟨(enc s.data.toList).toArray⟩ : ByteArray) = strL (enc s.data.toList) := rfl
      rw [e0]
      clear e0
      obtain ⟨E, hE⟩ : ∃ E, strL (enc s.data.toList) = E := ⟨_, rfl⟩
      rw [hE] at hE0 HP0 ⊢
      clear hE
      go_wp2_with fail
      go_loopw [5, 54] (fun t i wr => ∃ (j : Nat) (T : ByteArray), j ≤ l.length ∧ i = .int .i64 (j : Int) ∧ t = .string T ∧ T.size ≤ 4004 + j ∧ Hid (pfold T.data.toList p0 = pfold (enc s.data.toList) p0) ∧ Below w.heap.size w wr) (fun _ i _ => l.length - (intOf i).toNat)
      case atStart => exact ⟨0, E, by omega, rfl, rfl, by omega, HP0, hb5⟩
      case round =>
        obtain ⟨j, T, hj, rfl, rfl, hT, hpf, hbr⟩ := hrel
        by_cases hlt : j < l.length
        · obtain ⟨b, o, rfl, hb, hcs⟩ := HX.out (by omega)
          have hc : wr.cell? ⟨b, o + j, none⟩ = some (.int .i64 l[j]) := (hbr.cell (p := ⟨b, o + j, none⟩) hb).trans (hcs j _ (by simp [hlt]))
          obtain ⟨n1, n2⟩ := HI.out _ (List.getElem_mem hlt)
          obtain ⟨n, hn⟩ : ∃ n, l[j] = n := ⟨_, rfl⟩
          rw [hn] at hc n1 n2
          clear hn hcs
          have hd1 : -((T.size : Int) + 1) < n.tmod ((T.size : Int) + 1) := by
            have := Int.lt_tmod_of_pos n (b := (T.size : Int) + 1) (by omega); omega
          have hd2 : n.tmod ((T.size : Int) + 1) < (T.size : Int) + 1 := Int.tmod_lt_of_pos n (by omega)
          obtain ⟨d, hd⟩ : ∃ d, n.tmod ((T.size : Int) + 1) = d := ⟨_, rfl⟩
          rw [hd] at hd1 hd2
          obtain ⟨K, hK, hKb⟩ : ∃ K : Nat, (d + (T.size : Int) + 1) % ((T.size : Int) + 1) = (K : Int) ∧ K ≤ T.size := by
            have h1 := Int.emod_nonneg (d + (T.size : Int) + 1) (show (T.size : Int) + 1 ≠ 0 by omega)
            have h2 := Int.emod_lt_of_pos (d + (T.size : Int) + 1) (show 0 < (T.size : Int) + 1 by omega)
            exact ⟨((d + (T.size : Int) + 1) % ((T.size : Int) + 1)).toNat, by omega, by omega⟩
          go_wp2_with fail
          rw [hK]
          clear hK hd hd1 hd2 n1 n2
          have k1 : (0 : Int) ≤ (K : Int) := by omega
          have k2 : (K : Int) ≤ (T.size : Int) := by omega
          have hX1 : (T.extract 0 K).size ≤ 4054 := by rw [ByteArray.size_extract]; omega
          have hX2 : (T.extract K T.size).size ≤ 4054 := by rw [ByteArray.size_extract]; omega
          have HNL := hide (nl_in (k := K) hpf)
          go_quiet (fail)
          go_wp2_with fail
          go_roundw
          case rel =>
            refine ⟨j + 1, _, by omega, by go_num, rfl, ?_, HNL.out, below_drewN hbr _⟩
            rw [ByteArray.size_append, ByteArray.size_append, ByteArray.size_extract, ByteArray.size_extract]
            have : (⟨#[10]⟩ : ByteArray).size = 1 := rfl
            omega
          case measure => simp [intOf]; omega
        · obtain ⟨HV⟩ : Nonempty (Hid (progVal T = .tuple #[.string s, .int .i64 0, .int .i64 0])) := ⟨read_back h3 (by omega) hpf.out⟩
          go_wp2_with fail
          refine (bytes64_any T _ (by omega)).mono ?_
          rintro e w6 ⟨rfl, hb6⟩
          rw [HV.out]
          have hb7 := hbr.trans (hb6.mono hbr.size)
          go_wp2_with fail
          go_ret
          exact ⟨ret_bool (by simp), hb7⟩
end Go.Proofs.Ytafgncledbddiaa
