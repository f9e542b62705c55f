/- Printf, the reference: plain: how Printed comes along a format. -/
import Derived.Test.YtifpmigghplmoaaGreatDoorZPfX
import Derived.Test.YtifpmigghplmoaaGreatDoorZPfRd
set_option linter.unusedVariables false
namespace Go.Pw
open Go.RowKit
/-- the part of a format at its beginning: its directive or byte, and how many bytes it has; none: there is none -/
def hdP : List UInt8 → Option (Dv × Nat)
  | [] => none
  | c :: r => if c = 37 then (match rdP r with | none => none | some (d, q) => some (d, r.length - q.length + 1))
    else if c = 92 then (match escP r with | none => none | some (x, k) => some (txD x, k + 1))
    else some (txD c, 1)
theorem flR_suf : ∀ (fl l : List UInt8) (fl' l1 : List UInt8), flR fl l = some (fl', l1) → l1 <:+ l
  | fl, [], fl', l1, h => by rw [flR] at h; cases h; exact List.suffix_refl _
  | fl, c :: r, fl', l1, h => by
    rw [flR] at h
    split at h
    · split at h
      · cases h
      · exact (flR_suf _ r fl' l1 h).trans (List.suffix_cons c r)
    · cases h; exact List.suffix_refl _
theorem dirB_suf {fl l q : List UInt8} {d : Dv} (h : dirB fl l = some (d, q)) : ∃ c, (c :: q) <:+ l := by
  unfold dirB at h
  simp only at h
  have hs : (if (l.drop (dgK l)).headD 0 == 46 then ((l.drop (dgK l)).drop 1).drop (dgK ((l.drop (dgK l)).drop 1)) else l.drop (dgK l)) <:+ l := by
    split
    · exact ((List.drop_suffix _ _).trans (List.drop_suffix _ _)).trans (List.drop_suffix _ _)
    · exact List.drop_suffix _ _
  split at h
  · cases h
  · rename_i c r hl
    split at h
    · cases h
      exact ⟨c, by rw [← hl]; exact hs⟩
    · cases h
theorem rdP_suf {r q : List UInt8} {d : Dv} (h : rdP r = some (d, q)) : ∃ c, (c :: q) <:+ r := by
  by_cases hp : ∃ r', r = 37 :: r'
  · obtain ⟨r', rfl⟩ := hp
    rw [rdP] at h
    cases h
    exact ⟨37, List.suffix_refl _⟩
  · rw [rdP_dir (fun r' e => hp ⟨r', e⟩)] at h
    split at h
    · cases h
    · rename_i fl l1 hf
      obtain ⟨c, hc⟩ := dirB_suf h
      exact ⟨c, hc.trans (flR_suf _ _ _ _ hf)⟩
theorem rdP_len' {r q : List UInt8} {d : Dv} (h : rdP r = some (d, q)) : q.length < r.length ∧ q = r.drop (r.length - q.length) := by
  obtain ⟨c, t, ht⟩ := rdP_suf h
  subst ht
  refine ⟨by simp; omega, ?_⟩
  rw [show (t ++ c :: q).length - q.length = (t ++ [c]).length by simp; omega, show t ++ c :: q = (t ++ [c]) ++ q by simp, List.drop_left]
theorem pfP_hd {l : List UInt8} {d : Dv} {k : Nat} (h : hdP l = some (d, k)) : 0 < k ∧ k ≤ l.length ∧ pfP l = (pfP (l.drop k)).map (d :: ·) := by
  cases l with
  | nil => cases h
  | cons c r =>
    rw [hdP] at h
    by_cases h1 : c = 37
    · rw [if_pos h1] at h
      cases hr : rdP r with
      | none => rw [hr] at h; cases h
      | some x =>
        obtain ⟨d', q⟩ := x
        rw [hr] at h
        simp only [Option.some.injEq, Prod.mk.injEq] at h
        obtain ⟨rfl, rfl⟩ := h
        obtain ⟨e1, e2⟩ := rdP_len' hr
        refine ⟨by omega, by simp, ?_⟩
        rw [List.drop_succ_cons, ← e2, h1]
        exact pfP_pct hr
    · rw [if_neg h1] at h
      by_cases h2 : c = 92
      · rw [if_pos h2] at h
        cases hr : escP r with
        | none => rw [hr] at h; cases h
        | some x =>
          obtain ⟨y, k'⟩ := x
          rw [hr] at h
          simp only [Option.some.injEq, Prod.mk.injEq] at h
          obtain ⟨rfl, rfl⟩ := h
          obtain ⟨e1, e2⟩ := escP_k hr
          refine ⟨by omega, by simp; omega, ?_⟩
          rw [List.drop_succ_cons, h2]
          exact pfP_esc hr
      · rw [if_neg h2] at h
        simp only [Option.some.injEq, Prod.mk.injEq] at h
        obtain ⟨rfl, rfl⟩ := h
        exact ⟨by omega, by simp, by rw [List.drop_succ_cons, List.drop_zero]; exact pfP_txt h1 h2⟩
theorem pfP_no_hd {l : List UInt8} (h0 : l ≠ []) (h : hdP l = none) : pfP l = none := by
  cases l with
  | nil => exact absurd rfl h0
  | cons c r =>
    rw [hdP] at h
    by_cases h1 : c = 37
    · rw [if_pos h1] at h
      cases hr : rdP r with
      | none => rw [h1]; exact pfP_pct_no hr
      | some x => obtain ⟨d', q⟩ := x; rw [hr] at h; cases h
    · rw [if_neg h1] at h
      by_cases h2 : c = 92
      · rw [if_pos h2] at h
        cases hr : escP r with
        | none => rw [h2]; exact pfP_esc_no hr
        | some x => obtain ⟨y, k'⟩ := x; rw [hr] at h; cases h
      · rw [if_neg h2] at h; cases h
/-- how far the reference has looked at a format -/
def CkAt (bs : List UInt8) (i : Nat) (tk : Bool) : Prop := i ≤ bs.length ∧ ∃ ds, tk = takP ds ∧ pfP bs = (pfP (bs.drop i)).map (ds ++ ·)
theorem CkAt.start (bs : List UInt8) : CkAt bs 0 false := ⟨by omega, [], by simp [takP], by cases h : pfP bs <;> simp [h]⟩
theorem CkAt.next {bs : List UInt8} {i k : Nat} {tk : Bool} {d : Dv} (h : CkAt bs i tk) (hd : hdP (bs.drop i) = some (d, k)) : CkAt bs (i + k) (tk || (d.lt != 0)) := by
  obtain ⟨a, ds, b, e⟩ := h
  obtain ⟨h1, h2, h3⟩ := pfP_hd hd
  rw [List.length_drop] at h2
  refine ⟨by omega, ds ++ [d], by rw [b]; simp [takP], ?_⟩
  rw [e, h3, List.drop_drop]
  cases pfP (bs.drop (i + k)) <;> simp
theorem CkAt.no {bs : List UInt8} {i : Nat} {tk : Bool} (h : CkAt bs i tk) (hi : i < bs.length) (hd : hdP (bs.drop i) = none) : pfP bs = none := by
  obtain ⟨a, ds, b, e⟩ := h
  rw [e, pfP_no_hd (fun e => by have := congrArg List.length e; rw [List.length_drop] at this; simp at this; omega) hd]; rfl
theorem CkAt.done {bs : List UInt8} {i : Nat} {tk : Bool} (h : CkAt bs i tk) (hi : bs.length ≤ i) : ∃ ds, pfP bs = some ds ∧ tk = takP ds := by
  obtain ⟨a, ds, b, e⟩ := h
  rw [List.drop_of_length_le hi] at e
  exact ⟨ds, by rw [e]; simp [pfP, pfF], b⟩
/-- where the reference stands in a format whose parts are known -/
def RiAt (bs : List UInt8) (ds : List Dv) (i j : Nat) : Prop := i ≤ bs.length ∧ pfP (bs.drop i) = some (ds.drop j)
theorem RiAt.start {bs : List UInt8} {ds : List Dv} (h : pfP bs = some ds) : RiAt bs ds 0 0 := ⟨by omega, by simpa using h⟩
theorem RiAt.part {bs : List UInt8} {ds : List Dv} {i j : Nat} (h : RiAt bs ds i j) (hi : i < bs.length) : ∃ d k, hdP (bs.drop i) = some (d, k) ∧ 0 < k ∧ i + k ≤ bs.length ∧ ds[j]? = some d ∧ RiAt bs ds (i + k) (j + 1) := by
  obtain ⟨a, e⟩ := h
  cases hd : hdP (bs.drop i) with
  | none =>
    rw [pfP_no_hd (fun e => by have := congrArg List.length e; rw [List.length_drop] at this; simp at this; omega) hd] at e
    cases e
  | some x =>
    obtain ⟨d, k⟩ := x
    obtain ⟨h1, h2, h3⟩ := pfP_hd hd
    rw [List.length_drop] at h2
    rw [h3, List.drop_drop] at e
    cases hp : pfP (bs.drop (i + k)) with
    | none => rw [hp] at e; cases e
    | some l =>
      rw [hp] at e
      simp only [Option.map_some, Option.some.injEq] at e
      have hg : ds[j]? = some d := by rw [← List.head?_drop, ← e]; rfl
      refine ⟨d, k, rfl, h1, by omega, hg, by omega, ?_⟩
      rw [hp, ← List.tail_drop, ← e]; rfl
theorem RiAt.done {bs : List UInt8} {ds : List Dv} {i j : Nat} (h : RiAt bs ds i j) (hi : ¬ i < bs.length) : ds.length ≤ j := by
  obtain ⟨a, e⟩ := h
  rw [List.drop_of_length_le (by omega)] at e
  have : ds.drop j = [] := by simpa [pfP, pfF] using e.symm
  exact List.drop_eq_nil_iff.1 this
end Go.Pw
