/- CodesMatch: the law's walk. -/
import Derived.Test.YtfjbdbdjhkmifaaCdT
import Derived.Test.YtfjbdbdjhkmifaaCdU
import Derived.Test.YtfjbdbdjhkmifaaSame
set_option linter.unusedVariables false
set_option linter.unusedSimpArgs false
namespace Go.Pw
theorem nextC_le {c : List UInt8} {n M : Nat} (h1 : c.length ≤ M) (h2 : n ≤ M) : (nextC c n).length ≤ M := by
  unfold nextC padC
  split
  · simp; omega
  · rw [List.length_append, List.length_replicate, incL_len]; omega
theorem codeRun_sizes (r : List Nat) (M : Nat) (hr : ∀ s, r.getD s 0 ≤ M) : ∀ (os : List Nat) (c : List UInt8) (o : List ByteArray), c.length ≤ M → (∀ x ∈ o, x.size ≤ M) → (codeRun r os c o).length = o.length ∧ ∀ x ∈ codeRun r os c o, x.size ≤ M
  | [], c, o, h1, h2 => ⟨rfl, h2⟩
  | s :: os, c, o, h1, h2 => by
    have hn := nextC_le h1 (hr s)
    have := codeRun_sizes r M hr os (nextC c (r.getD s 0)) (o.set s ⟨(nextC c (r.getD s 0)).toArray⟩) hn (fun x hx => by
      rcases List.mem_or_eq_of_mem_set hx with hx | rfl
      · exact h2 x hx
      · simpa [ByteArray.size] using hn)
    rw [codeRun]
    exact ⟨by rw [this.1, List.length_set], this.2⟩
theorem codesL_sizes {r : List Nat} (h : GoodLens r) : (codesL r).length = r.length ∧ ∀ x ∈ codesL r, x.size ≤ r.length := by
  have := codeRun_sizes r r.length h.1 (ordC r) [] (List.replicate r.length ⟨#[]⟩) (Nat.zero_le _) (fun x hx => by
    obtain ⟨_, rfl⟩ := List.mem_replicate.1 hx
    exact Nat.zero_le _)
  rw [List.length_replicate] at this
  exact this
end Go.Pw
namespace Go.Proofs.Ytfjbdbdjhkmifaa
open Go.RowKit Go.Pw
theorem rd_two (w : World) (a b : Int) (t : TypeId) : Rd (w.alloc (.cells #[.int .i64 a, .int .i64 b] t)) 1 (.slice (some ⟨w.heap.size, 0, none⟩) 2 2) [a, b].length ([a, b].map (Value.int .i64)) := by
  refine ⟨rfl, _, 2, rfl, Nat.le_refl _, by unfold maxLen; omega, fun _ => ⟨w.heap.size, 0, rfl, by simp, fun j u hu => ?_⟩⟩
  rw [World.cell?_alloc_new]
  simpa using hu
set_option maxHeartbeats 1000000 in
set_option maxRecDepth 100000 in
theorem codesMatch_bad (v : Value) (l : List Int) (w : World) (h : Rd w 1 v l.length (l.map (Value.int .i64))) (E : Int) (hE : firstNZ [if decide ((300 : Int) < (l.length : Int)) = true then 2 else 0, if badI l = true then 3 else 0] = E) (hn : E ≠ 0)
    (hc : Calls Try.prog 22 #[v] w fun e w' => e = .returned (.tuple #[.slice none 0 0, .int .i64 E]) ∧ Below w.heap.size w w') :
    Calls Try.prog 5 #[v] w fun e w' => e = .returned (.bool true) ∧ Below w.heap.size w w' := by
  have HR := hide h
  have HC := hide hc
  obtain ⟨B, hB⟩ : ∃ B, badI l = B := ⟨_, rfl⟩
  rw [hB] at hE
  have HB := hide hB
  obtain ⟨E1, hE1⟩ : ∃ E1 : Int, (if decide ((300 : Int) < (l.length : Int)) = true then 2 else 0) = E1 := ⟨_, rfl⟩
  obtain ⟨E2, hE2⟩ : ∃ E2 : Int, (if B = true then 3 else 0) = E2 := ⟨_, rfl⟩
  rw [hE1, hE2] at hE
  have HE1 := hide hE1
  have HE2 := hide hE2
  have HW := hide hE
  have hn' : (E != 0) = true := by simpa using hn
  obtain ⟨_, A, cap, rfl, hcap, hmax, hx⟩ := h
  clear hB hE1 hE2 hE hx hn hc
  go_enter Try.func5, Try.ntmps5
  go_wp2_with fail
  refine HC.out.mono ?_
  rintro e w1 ⟨rfl, hb1⟩
  go_wp2_with fail
  refine (when_p _ _ _).mono ?_
  rintro e w2 ⟨rfl, rfl⟩
  rw [HE1.out]
  go_wp2_with fail
  refine (contains_badL _ l w1 (HR.out.below hb1)).mono ?_
  rintro e w2 ⟨rfl, rfl⟩
  rw [HB.out]
  go_wp2_with fail
  refine (when_p _ _ _).mono ?_
  rintro e w2 ⟨rfl, rfl⟩
  rw [HE2.out]
  have hb2 := hb1.alloc hb1.size (.cells #[.int .i64 E1, .int .i64 E2] 24)
  go_wp2_with fail
  refine (first_p _ [E1, E2] _ (rd_two w1 E1 E2 _)).mono ?_
  rintro e w4 ⟨rfl, rfl⟩
  rw [HW.out]
  go_wp2_with fail
  refine (differs_any _).mono ?_
  rintro e w5 ⟨rfl, hb5⟩
  have hb5' := hb2.trans (hb5.mono hb2.size)
  go_wp2_with fail
  refine (differs_any _).mono ?_
  rintro e w6 ⟨rfl, hb6⟩
  have hb6' := hb5'.trans (hb6.mono hb5'.size)
  go_wp2_with fail
  go_ret
  exact ⟨rfl, hb6'⟩
set_option maxHeartbeats 1000000 in
set_option maxRecDepth 100000 in
theorem codesMatch_good (v : Value) (c : List Nat) (w : World) (h : Nats w v c) (hl : c.length ≤ 300) (hm : ∀ s ∈ c, s ≤ 262144) (hb : badI (c.map fun n : Nat => (n : Int)) = false) :
    Calls Try.prog 5 #[v] w fun e w' => e = .returned (.bool true) ∧ Below w.heap.size w w' := by
  have HR := hide h
  have HC := hide (Codes_good v c w h hl hm hb)
  have hi : ∀ W, Nats W v c → Rd W 1 v (c.map fun n : Nat => (n : Int)).length ((c.map fun n : Nat => (n : Int)).map (Value.int .i64)) := fun W h => by
    unfold Nats natV at h
    rw [List.map_map, List.length_map]
    exact h
  have HI := hide hi
  have HB := hide hb
  obtain ⟨_, A, cap, rfl, hcap, hmax, hx⟩ := h
  have hl' : ¬ (300 : Int) < (c.length : Int) := by omega
  have hl'' : decide ((300 : Int) < (c.length : Int)) = false := by simpa using hl'
  clear hx hi hb
  go_enter Try.func5, Try.ntmps5
  go_wp2_with fail
  refine HC.out.mono ?_
  rintro e w1 ⟨r, SB, hr, rfl, hs, hb1⟩
  have HLR := hide hr
  have HS := hide hs
  clear hr hs
  go_wp2_with fail
  refine (when_p _ _ _).mono ?_
  rintro e w2 ⟨rfl, rfl⟩
  go_wp2_with fail
  refine (contains_badL _ _ w1 (HI.out _ (HR.out.below hb1))).mono ?_
  rintro e w2 ⟨rfl, rfl⟩
  rw [HB.out]
  go_wp2_with fail
  refine (when_p _ _ _).mono ?_
  rintro e w2 ⟨rfl, rfl⟩
  have ba := (Below.refl w1.heap.size w1).alloc (Nat.le_refl _) (.cells #[.int .i64 0, .int .i64 0] 24)
  go_wp2_with fail
  refine (first_p _ [0, 0] _ (rd_two w1 0 0 _)).mono ?_
  rintro e w4 ⟨rfl, rfl⟩
  rw [show firstNZ [0, 0] = 0 from rfl]
  go_wp2_with fail
  refine (differs_any _).mono ?_
  rintro e w5 ⟨rfl, hb5⟩
  have hb5' := ba.trans (hb5.mono ba.size)
  have hb5'' := hb1.trans (hb5'.mono hb1.size)
  go_wp2_with fail
  refine (codeLengths_any _ c _ (HR.out.below hb5'') (by omega) (fun s hs => Nat.le_trans (hm s hs) (by omega))).mono ?_
  rintro e w6 ⟨r2, hr2, rfl, ho2, hb6⟩
  obtain rfl := lens_unique HLR.out hr2
  have hrl := lens_length HLR.out
  have hn2 := ho2.nats (by unfold maxLen; omega)
  rw [hrl] at hn2
  have hb6' := hb5'.trans (hb6.mono hb5'.size)
  go_wp2_with fail
  refine (codesOf_any _ r _ hn2 (by omega)).mono ?_
  rintro e w7 ⟨SB2, rfl, hs2, hb7⟩
  rw [hrl]
  have hb7' := hb6'.trans (hb7.mono hb6'.size)
  have hz := codesL_sizes (lens_good HLR.out)
  have q1 := (show StrsAt w7 SB (codesL r) from (hb7'.block _ HS.out.lt).trans HS.out).strs (by unfold maxLen; omega) (fun s hs => by have := hz.2 s hs; unfold maxLen; omega)
  have q2 := hs2.strs (by unfold maxLen; omega) (fun s hs => by have := hz.2 s hs; unfold maxLen; omega)
  rw [hz.1, hrl] at q1 q2
  have Q1 := hide q1
  have Q2 := hide q2
  have hb8 := hb1.trans (hb7'.mono hb1.size)
  clear q1 q2
  go_wp2_with fail
  refine (equal_any _ _ (codesL r) (codesL r) _ Q1.out Q2.out).mono ?_
  rintro e w8 ⟨rfl, q, rfl⟩
  rw [decide_eq_true rfl]
  go_wp2_with fail
  go_ret
  exact ⟨rfl, hb8.trans (below_drewN (Below.refl _ _) q)⟩
theorem codesMatch_any (v : Value) (l : List Int) (w : World) (h : Rd w 1 v l.length (l.map (Value.int .i64))) :
    Calls Try.prog 5 #[v] w fun e w' => e = .returned (.bool true) ∧ Below w.heap.size w w' := by
  by_cases hl : 300 < l.length
  · have hl' : (300 : Int) < (l.length : Int) := by omega
    exact codesMatch_bad v l w h 2 (by simp [hl', firstNZ]) (by decide) (Codes_large v l w h hl)
  · have hl' : ¬ (300 : Int) < (l.length : Int) := by omega
    cases hb : badI l with
    | true => exact codesMatch_bad v l w h 3 (by simp [hl', firstNZ, hb]) (by decide) (Codes_range v l w h hl hb)
    | false =>
      obtain ⟨c, rfl, hc, hm⟩ := good_nats hb
      refine codesMatch_good v c w ?_ (by omega) hm hb
      unfold Nats natV
      rw [List.map_map, List.length_map] at h
      exact h
end Go.Proofs.Ytfjbdbdjhkmifaa
