/- The law MergeMatches: the walk. -/
import Derived.Test.YtfjbdbdjhkmifaaDmN
import Derived.Test.YtfjbdbdjhkmifaaDmO
import Derived.Test.YtfjbdbdjhkmifaaDmE
set_option linter.unusedVariables false
set_option linter.unusedSimpArgs false
namespace Go.Proofs.Ytfjbdbdjhkmifaa
open Go.RowKit Go.Pw
theorem sep_len {n : Nat} : ∀ (l : List Rg) (lo : Nat), Sep l → (∀ r ∈ l, lo ≤ r.1 ∧ r.2 ≤ n) → l.length ≤ n + 1 - lo
  | [], _, _, _ => Nat.zero_le _
  | r :: l, lo, hs, h => by
    have h1 := h r (by simp)
    have h2 := hs.2 r (by simp)
    have h3 := (List.pairwise_cons.1 hs.1).1
    have ih := sep_len l (r.2 + 1) (sep_tail hs) (fun q hq => ⟨h3 q hq, (h q (by simp [hq])).2⟩)
    simp only [List.length_cons]
    omega
theorem mergeRun_len (base : List ByteArray) (x y : List Hk) : ∀ (rs : List Rg) (at_ : Nat) (ps : List Pc), (mergeRun base x y rs at_ ps).length ≤ ps.length + 2 * rs.length + 1
  | [], at_, ps => by have := sureP_len ps (base.drop at_); simp only [mergeRun, List.length_nil]; omega
  | r :: rs, at_, ps => by
    have h1 := mergeRun_len base x y rs r.2 (addRg base x y r (sureP ps (part base at_ r.1)))
    have h2 := addRg_len base x y r (sureP ps (part base at_ r.1))
    have h3 := sureP_len ps (part base at_ r.1)
    rw [mergeRun, List.length_cons]
    omega
/-- the pieces are known by what the regions cover, and they are few -/
theorem merge_one {base a b : List ByteArray} {rs rt : List Rg} (h1 : Sep rs) (c1 : ∀ t, Cov rs t ↔ Cov ((diffOf base a ++ diffOf base b).map rgOf) t) (h2 : Sep rt) (c2 : ∀ t, Cov rt t ↔ Cov ((diffOf base a ++ diffOf base b).map rgOf) t) (hb : base.length ≤ 1000) :
    mergeOf base a b rs = mergeOf base a b rt ∧ (mergeOf base a b rs).length ≤ 100000 := by
  refine ⟨by rw [sep_unique rs rt h1 h2 (fun t => (c1 t).trans (c2 t).symm)], ?_⟩
  have hr := rg_in h1 c1 (n := base.length) (fun r hr => by
    rw [List.map_append] at hr
    rcases List.mem_append.1 hr with hr | hr
    · exact (good_rg (diffOf_good base a) r hr).2
    · exact (good_rg (diffOf_good base b) r hr).2)
  have hl := sep_len rs 0 h1 (fun r hr' => ⟨Nat.zero_le _, hr r hr'⟩)
  have := mergeRun_len base (diffOf base a) (diffOf base b) rs 0 []
  unfold mergeOf
  simp only [List.length_nil] at this
  omega
theorem few3 {a b c : List ByteArray} (h : fewB [a, b, c] = true) : a.length ≤ 60 ∧ b.length ≤ 60 ∧ c.length ≤ 60 := by
  simp [fewB] at h
  exact h
set_option maxHeartbeats 2000000 in
theorem mergeMatches_bad (v0 va vb : Value) (base a b : List ByteArray) (w : World) (h0 : Strs w v0 base) (ha : Strs w va a) (hb : Strs w vb b) (he : ¬ listsErr [base, a, b] = 0) :
    Calls Try.prog 3 #[v0, va, vb] w fun e w' => e = .returned (.bool true) ∧ Below w.heap.size w w' := by
  have H0 := hide h0
  have HA := hide ha
  have HB := hide hb
  obtain ⟨⟨_, A0, c0, rfl, _⟩, _⟩ := h0
  obtain ⟨⟨_, A, ca, rfl, _⟩, _⟩ := ha
  obtain ⟨⟨_, B, cb, rfl, _⟩, _⟩ := hb
  have he' : (listsErr [base, a, b] != 0) = true := by simpa using he
  have HE := hide he
  clear he
  go_enter Try.func3, Try.ntmps3
  go_wp2_with fail
  refine (Merge_bad _ _ _ base a b _ H0.out HA.out HB.out HE.out).mono ?_
  rintro e w1 ⟨rfl, hb1⟩
  go_wp2_with fail
  refine (listsError_any _ [base, a, b] _ (strsL_three w1 _ _ _ base a b _ (H0.out.below hb1) (HA.out.below hb1) (HB.out.below hb1))).mono ?_
  rintro e w2 ⟨rfl, rfl⟩
  go_wp2_with fail
  refine (differs_any _).mono ?_
  rintro e w3 ⟨rfl, hb3⟩
  have hb3' : Below w.heap.size w w3 := (hb1.alloc hb1.size _).trans (hb3.mono (by have := hb1.size; simp; omega))
  clear hb1 hb3
  go_wp2_with fail
  refine (differs_any _).mono ?_
  rintro e w4 ⟨rfl, hb4⟩
  have hb4' : Below w.heap.size w w4 := hb3'.trans (hb4.mono hb3'.size)
  go_wp2_with fail
  go_ret
  exact ⟨ret_bool (by simp), hb4'⟩

set_option maxHeartbeats 2000000 in
theorem mergeMatches_good (v0 va vb : Value) (base a b : List ByteArray) (w : World) (h0 : Strs w v0 base) (ha : Strs w va a) (hb : Strs w vb b) (he : listsErr [base, a, b] = 0) :
    Calls Try.prog 3 #[v0, va, vb] w fun e w' => e = .returned (.bool true) ∧ Below w.heap.size w w' := by
  have H0 := hide h0
  have HA := hide ha
  have HB := hide hb
  obtain ⟨⟨_, A0, c0, rfl, _⟩, _⟩ := h0
  obtain ⟨⟨_, A, ca, rfl, _⟩, _⟩ := ha
  obtain ⟨⟨_, B, cb, rfl, _⟩, _⟩ := hb
  have l0 := lists_len he (l := base) (by simp)
  have HE := hide he
  clear he
  go_enter Try.func3, Try.ntmps3
  go_wp2_with fail
  refine (Merge_good _ _ _ base a b _ H0.out HA.out HB.out HE.out).mono ?_
  rintro e w1 ⟨v, rfl, ⟨rs, hsep, hcov, hh⟩, hb1⟩
  have HSEP := hide hsep
  have HCOV := hide hcov
  have HH := hide hh
  clear hh hsep hcov
  go_wp2_with fail
  refine (listsError_any _ [base, a, b] _ (strsL_three w1 _ _ _ base a b _ (H0.out.below hb1) (HA.out.below hb1) (HB.out.below hb1))).mono ?_
  rintro e w2 ⟨rfl, rfl⟩
  rw [HE.out]
  go_wp2_with fail
  refine (differs_any _).mono ?_
  rintro e w3 ⟨rfl, hb3⟩
  have hb13 : Below w1.heap.size w1 w3 := ((Below.refl _ _).alloc (Nat.le_refl _) _).trans (hb3.mono (by simp))
  have hb3' : Below w.heap.size w w3 := hb1.trans (hb13.mono hb1.size)
  clear hb1 hb3
  have HH3 := hide (HH.out.below hb13)
  clear hb13 HH
  go_wp2_with fail
  refine (few_any _ [base, a, b] _ (strsL_three w3 _ _ _ base a b _ (H0.out.below hb3') (HA.out.below hb3') (HB.out.below hb3'))).mono ?_
  rintro e w4 ⟨rfl, rfl⟩
  have bb := (Below.refl w3.heap.size w3).alloc (Nat.le_refl _) (.cells #[.slice A0 base.length c0, .slice A a.length ca, .slice B b.length cb] 22)
  have hb4 : Below w.heap.size w (w3.alloc (.cells #[.slice A0 base.length c0, .slice A a.length ca, .slice B b.length cb] 22)) := hb3'.alloc hb3'.size _
  by_cases hf : fewB [base, a, b] = true
  · obtain ⟨f0, fa, fb⟩ := few3 hf
    rw [hf]
    clear hf
    go_wp2_with fail
    refine (Merged_any _ _ _ base a b _ (H0.out.below hb4) (HA.out.below hb4) (HB.out.below hb4) f0 fa fb).mono ?_
    rintro e w5 ⟨v5, rfl, ⟨rt, ht, ct, hh5⟩, hb5⟩
    obtain ⟨hone, hlen⟩ := merge_one HSEP.out HCOV.out ht ct l0
    have HH5 : Hid (Pieces w5 v5 (mergeOf base a b rs)) := hide (by rw [hone]; exact hh5)
    have HLEN := hide hlen
    clear hh5 hone hlen ht ct
    have hb35 : Below w3.heap.size w3 w5 := bb.trans (hb5.mono (by simp))
    have hb5' : Below w.heap.size w w5 := hb3'.trans (hb35.mono hb3'.size)
    clear hb5 bb hb4
    go_wp2_with fail
    refine (samePieces_any _ _ (mergeOf base a b rs) _ (HH3.out.below hb35) HH5.out HLEN.out).mono ?_
    rintro e w6 ⟨rfl, hb6⟩
    have hb6' : Below w.heap.size w w6 := hb5'.trans (hb6.mono hb5'.size)
    go_wp2_with fail
    go_ret
    exact ⟨ret_bool (by simp), hb6'⟩
  · have hf' : fewB [base, a, b] = false := by simpa using hf
    rw [hf']
    clear hf hf'
    go_wp2_with fail
    go_ret
    exact ⟨ret_bool (by simp), hb4⟩
theorem mergeMatches_any (v0 va vb : Value) (base a b : List ByteArray) (w : World) (h0 : Strs w v0 base) (ha : Strs w va a) (hb : Strs w vb b) :
    Calls Try.prog 3 #[v0, va, vb] w fun e w' => e = .returned (.bool true) ∧ Below w.heap.size w w' := by
  by_cases he : listsErr [base, a, b] = 0
  · exact mergeMatches_good v0 va vb base a b w h0 ha hb he
  · exact mergeMatches_bad v0 va vb base a b w h0 ha hb he
end Go.Proofs.Ytfjbdbdjhkmifaa
