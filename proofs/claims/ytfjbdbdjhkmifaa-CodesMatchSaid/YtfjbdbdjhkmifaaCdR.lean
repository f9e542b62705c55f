/- Plain: the lengths that come of counts are lengths of codes. -/
import Derived.Test.YtfjbdbdjhkmifaaCdQ
set_option linter.unusedVariables false
set_option linter.unusedSimpArgs false
namespace Go.Pw
/-- the symbols that are counted -/
def seen (c : List Nat) : List Nat := (List.range c.length).filter fun s => decide (0 < c.getD s 0)
/-- the trees at the start -/
def tr0 (c : List Nat) : List Tr := (seen c).map fun s => ⟨c.getD s 0, s, [s]⟩
def LensOf (c r : List Nat) : Prop := match tr0 c with
  | [t] => r = (List.replicate c.length 0).set t.l 1
  | l => Huff l (List.replicate c.length 0) r
theorem lens_one {c r : List Nat} {t : Tr} (h : tr0 c = [t]) (hr : r = (List.replicate c.length 0).set t.l 1) : LensOf c r := by
  unfold LensOf; rw [h]; exact hr
theorem lens_other {c r : List Nat} (h : (tr0 c).length ≠ 1) (hr : Huff (tr0 c) (List.replicate c.length 0) r) : LensOf c r := by
  unfold LensOf
  split
  · rename_i t e; rw [e] at h; simp at h
  · exact hr
theorem lens_unique {c r1 r2 : List Nat} (h1 : LensOf c r1) (h2 : LensOf c r2) : r1 = r2 := by
  unfold LensOf at h1 h2
  split at h1
  · rename_i t e
    rw [e] at h2
    exact h1.trans h2.symm
  · rename_i l e
    split at h2
    · rename_i t e2; exact absurd e2 (e t)
    · exact huff_det h1 (List.Perm.refl _) h2
theorem kr_filter (M : Nat) (r : List Nat) (p q : Nat → Bool) : ∀ l : List Nat, (∀ s ∈ l, p s = true → q s = true) → kr M r (l.filter p) ≤ kr M r (l.filter q)
  | [], _ => by simp
  | s :: l, h => by
    have ih := kr_filter M r p q l (fun t ht => h t (List.mem_cons_of_mem _ ht))
    have hs := h s List.mem_cons_self
    rw [List.filter_cons, List.filter_cons]
    by_cases h1 : p s = true
    · rw [if_pos h1, if_pos (hs h1)]
      have e1 : kr M r (s :: l.filter q) = 2 ^ (M - r.getD s 0) + kr M r (l.filter q) := by simp [kr]
      have e2 : kr M r (s :: l.filter p) = 2 ^ (M - r.getD s 0) + kr M r (l.filter p) := by simp [kr]
      omega
    · rw [if_neg h1]
      split
      · have e : kr M r (s :: l.filter q) = 2 ^ (M - r.getD s 0) + kr M r (l.filter q) := by simp [kr]
        rw [e]
        exact Nat.le_trans ih (Nat.le_add_left _ _)
      · exact ih
theorem seen_lt {c : List Nat} {s : Nat} (h : s ∈ seen c) : s < c.length := List.mem_range.1 (List.mem_filter.1 h).1
theorem seen_len (c : List Nat) : (seen c).length ≤ c.length := by
  have := List.length_filter_le (fun s => decide (0 < c.getD s 0)) (List.range c.length)
  rwa [List.length_range] at this
theorem getD_rep (n s : Nat) : (List.replicate n (0 : Nat)).getD s 0 = 0 := by
  simp only [List.getD_eq_getElem?_getD, List.getElem?_replicate]
  split <;> rfl
theorem lens_length {c r : List Nat} (h : LensOf c r) : r.length = c.length := by
  unfold LensOf at h
  split at h
  · rw [h]; simp
  · rw [huff_length h]; simp
theorem coded_le {c r : List Nat} (hl : r.length = c.length) (h : ∀ s, 0 < r.getD s 0 → s ∈ seen c) : kr c.length r (coded r) ≤ kr c.length r (seen c) := by
  unfold coded seen
  rw [hl]
  refine kr_filter _ _ _ _ _ (fun s hs h1 => ?_)
  exact (List.mem_filter.1 (h s (of_decide_eq_true h1))).2
theorem lens_good {c r : List Nat} (h : LensOf c r) : GoodLens r := by
  have hl := lens_length h
  unfold LensOf at h
  split at h
  · rename_i t e
    have hs : seen c = [t.l] := by
      unfold tr0 at e
      obtain ⟨s, hs, rfl⟩ := List.map_eq_singleton_iff.1 e
      exact hs
    have htl : t.l < c.length := seen_lt (by rw [hs]; simp)
    have hg : ∀ s, r.getD s 0 = if s = t.l then 1 else 0 := fun s => by
      rw [h]
      simp only [List.getD_eq_getElem?_getD, List.getElem?_set, List.getElem?_replicate, List.length_replicate]
      by_cases e : t.l = s
      · subst e; simp [htl]
      · rw [if_neg e]
        have e2 : ¬ s = t.l := fun h => e h.symm
        rw [if_neg e2]
        split <;> rfl
    refine ⟨fun s => by rw [hg]; split <;> omega, ?_⟩
    rw [hl]
    refine Nat.le_trans (coded_le hl (fun s h0 => ?_)) ?_
    · rw [hg] at h0
      split at h0
      · rename_i e; rw [e, hs]; simp
      · omega
    · rw [hs]
      simp only [kr, List.map_cons, List.map_nil, List.sum_cons, List.sum_nil, Nat.add_zero]
      exact Nat.pow_le_pow_right (by omega) (Nat.sub_le _ _)
  · rename_i l0 e
    have hn := seen_len c
    have hi : HInv c.length (tr0 c).length (seen c) (tr0 c) (List.replicate c.length 0) := by
      refine ⟨fun t ht => ?_, fun s hs => by rw [List.length_replicate]; exact seen_lt hs, ?_, ?_, fun s => by rw [getD_rep]; omega, fun s _ => getD_rep _ _⟩
      · obtain ⟨s, hs, rfl⟩ := List.mem_map.1 ht
        show 2 ^ (c.length - (List.replicate c.length 0).getD s 0) + 0 = _
        rw [getD_rep]; rfl
      · unfold tr0
        rw [List.flatMap_map]
        simp
      · exact List.Pairwise.filter _ List.nodup_range
    have hn0 : (tr0 c).length ≤ c.length := by unfold tr0; rw [List.length_map]; exact hn
    obtain ⟨l', h1, h2, h3⟩ := HInv.huff h hn0 hi
    refine ⟨fun s => by have := h3.dep s; omega, ?_⟩
    rw [hl]
    refine Nat.le_trans (coded_le hl (fun s h0 => ?_)) ?_
    · by_cases hm : s ∈ seen c
      · exact hm
      · have := h3.out s hm; omega
    · match l', h1, h3 with
      | [], _, h3 =>
        have := h3.perm
        have e0 : seen c = [] := by simpa using this.symm.eq_nil
        rw [e0]; simp [kr]
      | [t], _, h3 =>
        have hp : t.sy.Perm (seen c) := by simpa using h3.perm
        rw [← kr_perm hp]
        exact Nat.le_of_eq (h3.krs t (by simp))
      | _ :: _ :: _, h1, _ => simp at h1
/-- the least symbols of trees are different ones -/
def Apart (l : List Tr) : Prop := (l.map Tr.l).Nodup
theorem Apart.perm {l l' : List Tr} (h : Apart l) (hp : l.Perm l') : Apart l' := ((hp.map Tr.l).nodup_iff).1 h
theorem Apart.start (c : List Nat) : Apart (tr0 c) := by
  unfold Apart tr0
  rw [List.map_map]
  have : (Tr.l ∘ fun s => (⟨c.getD s 0, s, [s]⟩ : Tr)) = id := rfl
  rw [this, List.map_id]
  exact List.Pairwise.filter _ List.nodup_range
theorem Apart.step {l l' : List Tr} {x : Tr} (h : Apart l) (hs : HStep l l' x) : Apart l' := by
  obtain ⟨a, b, r, p, _, _, rfl, q⟩ := hs
  have h1 := h.perm p
  refine Apart.perm ?_ q.symm
  unfold Apart at *
  simp only [List.map_cons, List.nodup_cons, List.mem_cons, not_or] at h1 ⊢
  refine ⟨?_, h1.2.2⟩
  show ¬ min a.l b.l ∈ _
  rcases Nat.le_total a.l b.l with h2 | h2
  · rw [Nat.min_eq_left h2]; exact h1.1.2
  · rw [Nat.min_eq_right h2]; exact h1.2.1
theorem ltT_total {a b : Tr} (h : a.l ≠ b.l) (h2 : ¬ ltT b a) : ltT a b := by unfold ltT at *; omega
end Go.Pw
