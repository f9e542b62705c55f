/- Plain: codes of symbols: the trees of two least ones, joined; the lengths that come of it. -/
import Derived.Test.YtfjbdbdjhkmifaaStabP
set_option linter.unusedVariables false
set_option linter.unusedSimpArgs false
namespace Go.Pw
/-- a tree of symbols -/
structure Tr where
  w : Nat
  l : Nat
  sy : List Nat
def ltT (a b : Tr) : Prop := a.w < b.w ∨ a.w = b.w ∧ a.l < b.l
instance (a b : Tr) : Decidable (ltT a b) := by unfold ltT; infer_instance
theorem ltT_asymm {a b : Tr} (h1 : ltT a b) (h2 : ltT b a) : False := by unfold ltT at *; omega
theorem ltT_trans {a b c : Tr} (h1 : ltT a b) (h2 : ltT b c) : ltT a c := by unfold ltT at *; omega
/-- less than all of a list -/
def Least (a : Tr) (l : List Tr) : Prop := ∀ b ∈ l, ltT a b
def joinT (a b : Tr) : Tr := ⟨a.w + b.w, min a.l b.l, a.sy ++ b.sy⟩
/-- the two least trees are joined -/
def HStep (l l' : List Tr) (x : Tr) : Prop := ∃ a b r, l.Perm (a :: b :: r) ∧ Least a (b :: r) ∧ Least b r ∧ x = joinT a b ∧ l'.Perm (x :: r)
theorem least_unique {a1 a2 : Tr} {r1 r2 : List Tr} (hp : (a1 :: r1).Perm (a2 :: r2)) (h1 : Least a1 r1) (h2 : Least a2 r2) : a1 = a2 ∧ r1.Perm r2 := by
  have e : a1 = a2 := by
    have m1 : a1 ∈ a2 :: r2 := hp.subset List.mem_cons_self
    have m2 : a2 ∈ a1 :: r1 := hp.symm.subset List.mem_cons_self
    rcases List.mem_cons.1 m1 with e | m1
    · exact e
    · rcases List.mem_cons.1 m2 with e | m2
      · exact e.symm
      · exact (ltT_asymm (h1 _ m2) (h2 _ m1)).elim
  subst e
  exact ⟨rfl, hp.cons_inv⟩
theorem hstep_det {l1 l2 l1' l2' : List Tr} {x1 x2 : Tr} (hp : l1.Perm l2) (h1 : HStep l1 l1' x1) (h2 : HStep l2 l2' x2) : x1 = x2 ∧ l1'.Perm l2' := by
  obtain ⟨a1, b1, r1, p1, la1, lb1, rfl, q1⟩ := h1
  obtain ⟨a2, b2, r2, p2, la2, lb2, rfl, q2⟩ := h2
  obtain ⟨rfl, hp2⟩ := least_unique ((p1.symm.trans hp).trans p2) la1 la2
  obtain ⟨rfl, hp3⟩ := least_unique hp2 lb1 lb2
  exact ⟨rfl, q1.trans ((hp3.cons _).trans q2.symm)⟩
/-- one more for a symbol -/
def bump1 (o : List Nat) (s : Nat) : List Nat := o.set s (o.getD s 0 + 1)
def bump (o : List Nat) (sy : List Nat) : List Nat := sy.foldl bump1 o
theorem bump_length (sy : List Nat) : ∀ o : List Nat, (bump o sy).length = o.length := by
  induction sy with
  | nil => intro o; rfl
  | cons s sy ih => intro o; show (bump (bump1 o s) sy).length = _; rw [ih]; simp [bump1]
theorem bump_snoc (o : List Nat) (sy : List Nat) (s : Nat) : bump o (sy ++ [s]) = bump1 (bump o sy) s := by simp [bump]
/-- the lengths that come of trees -/
inductive Huff : List Tr → List Nat → List Nat → Prop
  | done (l : List Tr) (o : List Nat) (h : l.length ≤ 1) : Huff l o o
  | step {l l' : List Tr} {x : Tr} {o r : List Nat} (h : HStep l l' x) (h2 : Huff l' (bump o x.sy) r) : Huff l o r
theorem hstep_len {l l' : List Tr} {x : Tr} (h : HStep l l' x) : 2 ≤ l.length ∧ l'.length + 1 = l.length := by
  obtain ⟨a, b, r, p, _, _, _, q⟩ := h
  have := p.length_eq
  have := q.length_eq
  simp only [List.length_cons] at *
  omega
theorem huff_det {l1 o r1 : List _} (h1 : Huff l1 o r1) : ∀ {l2 : List Tr} {r2 : List Nat}, l1.Perm l2 → Huff l2 o r2 → r1 = r2 := by
  induction h1 with
  | done l o h =>
    intro l2 r2 hp h2
    cases h2 with
    | done _ _ _ => rfl
    | step h3 _ => have := (hstep_len h3).1; have := hp.length_eq; omega
  | step h _ ih =>
    intro l2 r2 hp h2
    cases h2 with
    | done _ _ h3 => have := (hstep_len h).1; have := hp.length_eq; omega
    | step h3 h4 =>
      obtain ⟨rfl, hp2⟩ := hstep_det hp h h3
      exact ih hp2 h4

theorem getD_bump1 (o : List Nat) (s k : Nat) : (bump1 o s).getD k 0 = o.getD k 0 + (if k = s ∧ s < o.length then 1 else 0) := by
  unfold bump1
  simp only [List.getD_eq_getElem?_getD, List.getElem?_set]
  by_cases e : s = k
  · subst e
    by_cases h : s < o.length
    · simp [h]
    · simp [h]
  · have e' : ¬ k = s := fun h => e h.symm
    simp [e, e']
theorem getD_bump : ∀ (sy : List Nat) (o : List Nat) (k : Nat), sy.Nodup → (∀ s ∈ sy, s < o.length) → (bump o sy).getD k 0 = o.getD k 0 + (if k ∈ sy then 1 else 0)
  | [], o, k, _, _ => by simp [bump]
  | s :: sy, o, k, hn, hs => by
    obtain ⟨h1, h2⟩ := List.nodup_cons.1 hn
    show (bump (bump1 o s) sy).getD k 0 = _
    rw [getD_bump sy (bump1 o s) k h2 (fun t ht => by have := hs t (List.mem_cons_of_mem _ ht); simpa [bump1] using this), getD_bump1]
    have hsl := hs s List.mem_cons_self
    by_cases e : k = s
    · subst e; simp [h1, hsl]
    · simp [e]
/-- Kraft's sum -/
def kr (M : Nat) (o : List Nat) (sy : List Nat) : Nat := (sy.map fun s => 2 ^ (M - o.getD s 0)).sum
theorem kr_append (M : Nat) (o a b : List Nat) : kr M o (a ++ b) = kr M o a + kr M o b := by simp [kr]
theorem kr_perm {M : Nat} {o a b : List Nat} (h : a.Perm b) : kr M o a = kr M o b := (h.map _).sum_nat
theorem kr_congr {M : Nat} {o o' : List Nat} : ∀ {sy : List Nat}, (∀ s ∈ sy, o'.getD s 0 = o.getD s 0) → kr M o' sy = kr M o sy := by
  intro sy h
  unfold kr
  rw [List.map_congr_left (fun s hs => by rw [h s hs])]
theorem kr_half {M : Nat} {o o' : List Nat} : ∀ {sy : List Nat}, (∀ s ∈ sy, o'.getD s 0 = o.getD s 0 + 1 ∧ o.getD s 0 < M) → 2 * kr M o' sy = kr M o sy
  | [], _ => rfl
  | s :: sy, h => by
    have ih := kr_half (M := M) (o := o) (o' := o') (sy := sy) (fun t ht => h t (List.mem_cons_of_mem _ ht))
    obtain ⟨h1, h2⟩ := h s List.mem_cons_self
    simp only [kr, List.map_cons, List.sum_cons] at *
    rw [Nat.mul_add, ih, h1, show M - o.getD s 0 = (M - (o.getD s 0 + 1)) + 1 by omega, Nat.pow_succ]
    omega
/-- what holds of the trees on their way -/
structure HInv (M n0 : Nat) (all : List Nat) (l : List Tr) (o : List Nat) : Prop where
  krs : ∀ t ∈ l, kr M o t.sy = 2 ^ M
  lt : ∀ s ∈ all, s < o.length
  perm : (l.flatMap Tr.sy).Perm all
  nod : all.Nodup
  dep : ∀ s, o.getD s 0 + l.length ≤ n0
  out : ∀ s, s ∉ all → o.getD s 0 = 0
theorem HInv.step {M n0 : Nat} {all : List Nat} {l l' : List Tr} {x : Tr} {o : List Nat} (h : HInv M n0 all l o) (hM : n0 ≤ M) (hs : HStep l l' x) : HInv M n0 all l' (bump o x.sy) := by
  obtain ⟨a, b, r, p, _, _, rfl, q⟩ := hs
  have hl := hstep_len ⟨a, b, r, p, ‹_›, ‹_›, rfl, q⟩
  have hp : (a.sy ++ (b.sy ++ r.flatMap Tr.sy)).Perm all := by
    have := (p.flatMap_right Tr.sy).symm.trans h.perm
    simpa using this
  have hp' : ((a.sy ++ b.sy) ++ r.flatMap Tr.sy).Perm all := by rw [List.append_assoc]; exact hp
  have hnod : ((a.sy ++ b.sy) ++ r.flatMap Tr.sy).Nodup := hp'.nodup_iff.2 h.nod
  obtain ⟨hn1, hn2, hn3⟩ := List.nodup_append.1 hnod
  have hxs : ∀ s ∈ a.sy ++ b.sy, s < o.length := fun s hs => h.lt s (hp'.subset (List.mem_append_left _ hs))
  have hb := fun k => getD_bump (a.sy ++ b.sy) o k hn1 hxs
  have hka := h.krs a (p.symm.subset List.mem_cons_self)
  have hkb := h.krs b (p.symm.subset (List.mem_cons_of_mem _ List.mem_cons_self))
  refine ⟨fun t ht => ?_, fun s hs => by rw [bump_length]; exact h.lt s hs, ?_, h.nod, fun s => ?_, fun s hs => ?_⟩
  · rcases List.mem_cons.1 (q.subset ht) with rfl | ht
    · have := kr_half (M := M) (o := o) (o' := bump o (a.sy ++ b.sy)) (sy := a.sy ++ b.sy) (fun s hs => ⟨by rw [hb]; simp only [hs, if_true], by have := h.dep s; omega⟩)
      rw [kr_append M o, hka, hkb] at this
      show kr M (bump o (a.sy ++ b.sy)) (a.sy ++ b.sy) = 2 ^ M
      omega
    · refine (kr_congr (o := o) (fun s hs => ?_)).trans (h.krs t (p.symm.subset (List.mem_cons_of_mem _ (List.mem_cons_of_mem _ ht))))
      rw [show (joinT a b).sy = a.sy ++ b.sy from rfl, hb, if_neg (fun hm => hn3 s hm s (List.mem_flatMap.2 ⟨t, ht, hs⟩) rfl), Nat.add_zero]
  · exact ((q.flatMap_right Tr.sy)).trans (by rw [List.flatMap_cons]; exact hp')
  · rw [show (joinT a b).sy = a.sy ++ b.sy from rfl, hb]
    have := h.dep s
    split <;> omega
  · rw [show (joinT a b).sy = a.sy ++ b.sy from rfl, hb, h.out s hs, if_neg (fun hm => hs (hp'.subset (List.mem_append_left _ hm)))]
theorem HInv.huff {M n0 : Nat} {all : List Nat} {l : List Tr} {o r : List Nat} (hh : Huff l o r) (hM : n0 ≤ M) : HInv M n0 all l o → ∃ l', l'.length ≤ 1 ∧ (l ≠ [] → l' ≠ []) ∧ HInv M n0 all l' r := by
  induction hh with
  | done l o h => exact fun hi => ⟨l, h, fun h => h, hi⟩
  | step h _ ih =>
    intro hi
    obtain ⟨l', h1, h2, h3⟩ := ih (hi.step hM h)
    refine ⟨l', h1, fun _ => h2 (fun e => ?_), h3⟩
    have := (hstep_len h)
    rw [e] at this
    simp at this
    omega
theorem huff_length {l : List Tr} {o r : List Nat} (hh : Huff l o r) : r.length = o.length := by
  induction hh with
  | done => rfl
  | step _ _ ih => rw [ih, bump_length]
end Go.Pw
