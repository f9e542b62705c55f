/- The law SeqMatches: the walk. -/
import Derived.Test.YtoieicdnehnacaaGreatDoorSeqY
import Derived.Test.YtoieicdnehnacaaGreatDoorLawK2
set_option linter.unusedVariables false
set_option linter.unusedSimpArgs false
namespace Go.Pw
open Go.RowKit
/-- the two rows of texts are the same -/
theorem seq_same {F B VF VB VT : Int} {pl sc : Nat} {out out' : List ByteArray} (hle : sc ≤ pl) (hF : VF = F * (10 : Int) ^ (pl - sc)) (hB : VB = B * (10 : Int) ^ (pl - sc))
    (h1 : StopAt (bey2 VF VB VT) out.length) (h2 : OutIs (fun i t => XT (VF + (i : Int) * VB) pl sc t) out)
    (h3 : StopAt (bey2 VF VB VT) out'.length) (h4 : OutIs (fun i t => XT (F + (i : Int) * B) sc sc t) out') : out = out' := by
  obtain ⟨m, rfl⟩ : ∃ m, pl = sc + m := ⟨pl - sc, by omega⟩
  rw [Nat.add_sub_cancel_left] at hF hB
  refine OutIs.eq h2 h4 (h1.uniq h3) (fun i t t' ht ht' => ?_)
  have e : VF + (i : Int) * VB = (F + (i : Int) * B) * (10 : Int) ^ m := by rw [steps_scale, hF, hB]
  have ht2 : XT ((F + (i : Int) * B) * (10 : Int) ^ m) (sc + m) sc t := by rw [← e]; exact ht
  exact ht2.scale ht'
end Go.Pw
namespace Go.Proofs.YtoieicdnehnacaaGreatDoor
open Go.RowKit Go.Pw
set_option maxHeartbeats 4000000 in
set_option maxRecDepth 100000 in
theorem seqMatches_bad (a b c : ByteArray) (n : Int) (w : World) (hn : n ≠ 0)
    (hf : ∀ V, Calls Tryz.prog 8 #[.string a, .string b, .string c] V fun e w' => e = .returned (.tuple #[.string ⟨#[]⟩, .int .i64 n]) ∧ Below V.heap.size V w')
    (hg : ∀ V, Calls Tryz.prog 9 #[.string a, .string b, .string c] V fun e w' => e = .returned (.tuple #[.slice none 0 0, .int .i64 n]) ∧ Below V.heap.size V w') :
    Calls Tryz.prog 3 #[.string a, .string b, .string c] w fun e w' => e = .returned (.bool true) ∧ Below w.heap.size w w' := by
  have HF := hide hf
  have HG := hide hg
  have HN := hide hn
  clear hf hg hn
  go_enter Tryz.func3, Tryz.ntmps3
  go_wp2_with fail
  refine (HF.out _).mono ?_
  rintro e w1 ⟨rfl, hb1⟩
  have HB1 := hide hb1
  clear hb1
  go_wp2_with fail
  refine (HG.out _).mono ?_
  rintro e w2 ⟨rfl, hb2⟩
  have HB2 := hide (below_next HB1.out hb2 rfl rfl rfl rfl HB1.out.size)
  clear hb2
  go_wp2_with fail
  refine (sorts_any _).mono ?_
  rintro e w3 ⟨rfl, hb3⟩
  have HB3 := hide (below_next HB2.out hb3 rfl rfl rfl rfl HB2.out.size)
  clear hb3
  have HRS := hide (fun W => resultOf_any (.slice none 0 0) [] W (OwnS.strs (t := 9) (base := 0) (World.ownsRow_nil _ _ _ _) (fun x hx => by cases hx)) (by simp [resL]))
  go_wp2_with fail
  refine (HRS.out _).mono ?_
  rintro e w' ⟨rfl, rfl⟩
  go_wp2_with fail
  refine (outcome_bad _ _ _ HN.out).mono ?_
  rintro e w' ⟨rfl, rfl⟩
  go_wp2_with fail
  go_ret
  exact ⟨rfl, HB3.out⟩
set_option maxHeartbeats 4000000 in
set_option maxRecDepth 100000 in
theorem seqMatches_good (a b c : ByteArray) (F B VF VB VT : Int) (pl sc : Nat) (w : World) (hle : sc ≤ pl) (hsc : sc ≤ 30) (hF : VF = F * (10 : Int) ^ (pl - sc)) (hB : VB = B * (10 : Int) ^ (pl - sc)) (hF6 : F.natAbs < 10 ^ 60) (hB6 : B.natAbs < 10 ^ 60)
    (hf : ∀ V, Calls Tryz.prog 8 #[.string a, .string b, .string c] V fun e w' => Below V.heap.size V w' ∧ SeqR VF VB VT pl sc e)
    (hg : ∀ V, Calls Tryz.prog 9 #[.string a, .string b, .string c] V fun e w' => Below V.heap.size V w' ∧ SeqQ 9 F B VF VB VT sc w' e) :
    Calls Tryz.prog 3 #[.string a, .string b, .string c] w fun e w' => e = .returned (.bool true) ∧ Below w.heap.size w w' := by
  have HF := hide hf
  have HG := hide hg
  have HS := hide (fun (out out' : List ByteArray) => seq_same (VT := VT) (out := out) (out' := out') hle hF hB)
  have HF6 := hide hF6
  have HB6 := hide hB6
  clear hf hg hF hB hF6 hB6
  go_enter Tryz.func3, Tryz.ntmps3
  go_wp2_with fail
  refine (HF.out _).mono ?_
  rintro e w1 ⟨hb1, hr⟩
  have HB1 := hide hb1
  clear hb1
  rcases hr with ⟨out, hk, hst, hout, rfl⟩ | ⟨hall, rfl⟩
  · have HST := hide hst
    have HOU := hide hout
    obtain ⟨TT, hTT⟩ : ∃ TT, mkB (resL out) = TT := ⟨_, rfl⟩
    rw [hTT]
    have HTT := hide hTT
    clear hst hout hTT
    go_wp2_with fail
    refine (HG.out _).mono ?_
    rintro e w2 ⟨hb2, hr⟩
    have HB2 := hide (below_next HB1.out hb2 rfl rfl rfl rfl HB1.out.size)
    clear hb2
    rcases hr with ⟨v, out', base, hk', hst', hout', rfl, ho⟩ | ⟨hall, rfl⟩
    · obtain rfl := HS.out out out' HST.out HOU.out hst' hout'
      have HSZ := hide (out_size hout' HF6.out HB6.out hk (by omega))
      have HO := hide ho
      clear ho hst' hout'
      go_wp2_with fail
      refine (sorts_any _).mono ?_
      rintro e w3 ⟨rfl, hb3⟩
      have HB3 := hide (below_next HB2.out hb3 rfl rfl rfl rfl HB2.out.size)
      have HO3 : Hid (OwnS 9 w3 base v out) := hide (own_below HO.out hb3)
      clear hb3
      go_wp2_with fail
      refine (resultOf_any v out w3 (OwnS.strs HO3.out (fun x hx => by have := HSZ.out x hx; unfold maxLen; omega)) (by have h1 := resL_bound out HSZ.out; have h2 : out.length * (300 + 1) ≤ 4096 * (300 + 1) := Nat.mul_le_mul hk (Nat.le_refl _); omega)).mono ?_
      rintro e w' ⟨rfl, rfl⟩
      rw [HTT.out]
      go_wp2_with fail
      refine (outcome_good _ _).mono ?_
      rintro e w' ⟨rfl, rfl⟩
      go_wp2_with fail
      go_ret
      exact ⟨rfl, HB3.out⟩
    · have h1 := hall out.length hk
      rw [HST.out.at_] at h1
      cases h1
  · have HAL := hide hall
    clear hall
    go_wp2_with fail
    refine (HG.out _).mono ?_
    rintro e w2 ⟨hb2, hr⟩
    have HB2 := hide (below_next HB1.out hb2 rfl rfl rfl rfl HB1.out.size)
    clear hb2
    rcases hr with ⟨v, out', base, hk', hst', hout', rfl, ho⟩ | ⟨hall, rfl⟩
    · have h1 := HAL.out out'.length hk'
      rw [hst'.at_] at h1
      cases h1
    · clear hall
      go_wp2_with fail
      refine (sorts_any _).mono ?_
      rintro e w3 ⟨rfl, hb3⟩
      have HB3 := hide (below_next HB2.out hb3 rfl rfl rfl rfl HB2.out.size)
      clear hb3
      have HRS := hide (fun W => resultOf_any (.slice none 0 0) [] W (OwnS.strs (t := 9) (base := 0) (World.ownsRow_nil _ _ _ _) (fun x hx => by cases hx)) (by simp [resL]))
      go_wp2_with fail
      refine (HRS.out _).mono ?_
      rintro e w' ⟨rfl, rfl⟩
      go_wp2_with fail
      refine (outcome_bad _ _ _ (by decide)).mono ?_
      rintro e w' ⟨rfl, rfl⟩
      go_wp2_with fail
      go_ret
      exact ⟨rfl, HB3.out⟩
theorem seqMatches_any (a b c : ByteArray) (w : World) (ha : a.size ≤ maxLen) (hb : b.size ≤ maxLen) (hc : c.size ≤ maxLen) :
    Calls Tryz.prog 3 #[.string a, .string b, .string c] w fun e w' => e = .returned (.bool true) ∧ Below w.heap.size w w' := by
  by_cases h : 30 < a.size ∨ 30 < b.size ∨ 30 < c.size
  · exact seqMatches_bad a b c 2 w (by decide) (fun V => seqLarge_any a b c V h) (fun V => sequenceLarge_any a b c V h)
  · have ha3 : a.size ≤ 30 := by omega
    have hb3 : b.size ≤ 30 := by omega
    have hc3 : c.size ≤ 30 := by omega
    have hf := fun V => seqSmall_any a b c V ha3 hb3 hc3
    have hg := fun V => sequenceSmall_any a b c V ha3 hb3 hc3
    cases hok : (dOk a.data.toList && dOk b.data.toList && dOk c.data.toList)
    · rw [hok] at hf hg
      refine seqMatches_bad a b c 1 w (by decide) (fun V => (hf V).mono ?_) (fun V => (hg V).mono ?_)
      · rintro e w' ⟨hb', ⟨-, he⟩ | ⟨h1, -⟩⟩
        · exact ⟨he, hb'⟩
        · cases h1
      · rintro e w' ⟨hb', ⟨-, he⟩ | ⟨h1, -⟩⟩
        · exact ⟨he, hb'⟩
        · cases h1
    · rw [hok] at hf hg
      by_cases hz : dVal b.data.toList = 0
      · refine seqMatches_bad a b c 10 w (by decide) (fun V => (hf V).mono ?_) (fun V => (hg V).mono ?_)
        · rintro e w' ⟨hb', ⟨h1, -⟩ | ⟨-, ⟨-, he⟩ | ⟨h2, -⟩⟩⟩
          · cases h1
          · exact ⟨he, hb'⟩
          · exact absurd hz h2
        · rintro e w' ⟨hb', ⟨h1, -⟩ | ⟨-, ⟨-, he⟩ | ⟨h2, -⟩⟩⟩
          · cases h1
          · exact ⟨he, hb'⟩
          · exact absurd hz h2
      · simp only [Bool.and_eq_true] at hok
        have hla := len_size a
        have hlb := len_size b
        have hpa := dParts_len a.data.toList
        have hpb := dParts_len b.data.toList
        obtain ⟨pa, hea⟩ : ∃ k, (dPart a.data.toList).length = k := ⟨_, rfl⟩
        obtain ⟨pb, heb⟩ : ∃ k, (dPart b.data.toList).length = k := ⟨_, rfl⟩
        obtain ⟨pc, hec⟩ : ∃ k, (dPart c.data.toList).length = k := ⟨_, rfl⟩
        simp only [hea, heb, hec] at hf hg
        have hpa30 : pa ≤ 30 := by omega
        have hpb30 : pb ≤ 30 := by omega
        obtain ⟨sc, hsc⟩ : ∃ k, max pa pb = k := ⟨_, rfl⟩
        obtain ⟨pl, hpl⟩ : ∃ k, max sc pc = k := ⟨_, rfl⟩
        simp only [hsc, hpl] at hf hg
        have h1 : pa ≤ sc := by omega
        have h2 : pb ≤ sc := by omega
        have h3 : sc ≤ pl := by omega
        have h4 : sc ≤ 30 := by omega
        refine seqMatches_good a b c (dVal a.data.toList * (10 : Int) ^ (sc - pa)) (dVal b.data.toList * (10 : Int) ^ (sc - pb)) (dVal a.data.toList * (10 : Int) ^ (pl - pa)) (dVal b.data.toList * (10 : Int) ^ (pl - pb)) (dVal c.data.toList * (10 : Int) ^ (pl - pc)) pl sc w h3 h4 (pow_split _ h1 h3) (pow_split _ h2 h3) (dVal_bound hok.1.1 (by omega) (by omega)) (dVal_bound hok.1.2 (by omega) (by omega)) (fun V => (hf V).mono ?_) (fun V => (hg V).mono ?_)
        · rintro e w' ⟨hb', ⟨h1, -⟩ | ⟨-, ⟨h2, -⟩ | ⟨-, h3⟩⟩⟩
          · cases h1
          · exact absurd h2 hz
          · exact ⟨hb', h3⟩
        · rintro e w' ⟨hb', ⟨h1, -⟩ | ⟨-, ⟨h2, -⟩ | ⟨-, h3⟩⟩⟩
          · cases h1
          · exact absurd h2 hz
          · exact ⟨hb', h3⟩
end Go.Proofs.YtoieicdnehnacaaGreatDoor
