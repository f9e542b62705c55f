/- Plain: what both sides have in a region; the pieces of a merge. -/
import Derived.Test.YtfjbdbdjhkmifaaApplied
import Derived.Test.YtfjbdbdjhkmifaaDiffC
import Derived.Test.YtfjbdbdjhkmifaaPiece
import Derived.Test.YtfjbdbdjhkmifaaDmP
set_option linter.unusedVariables false
set_option linter.unusedSimpArgs false
namespace Go.Proofs.Ytfjbdbdjhkmifaa
open Go.RowKit Go.Pw

/-- the region of a hunk -/
def rgOf (h : Hk) : Rg := (h.frm.toNat, h.frm.toNat + h.old.length)
/-- whether a hunk lies in a region -/
def inR (r : Rg) (h : Hk) : Bool := decide ((r.1 : Int) ≤ h.frm) && decide (h.frm + (h.old.length : Int) ≤ (r.2 : Int))
/-- a hunk, told from a line on -/
def shiftH (f : Nat) (h : Hk) : Hk := ⟨h.frm - (f : Int), 0, h.old, h.new⟩
def insideR (r : Rg) (hs : List Hk) : List Hk := hs.filter (inR r)
/-- what hunks make of a list from a line on, up to a line -/
def appliedTo (a : List ByteArray) (to : Nat) : List Hk → Nat → List ByteArray
  | [], p => part a p to
  | h :: hs, p => part a p h.frm.toNat ++ h.new ++ appliedTo a to hs (h.frm.toNat + h.old.length)
/-- what hunks make of a region -/
def sideOf (a : List ByteArray) (r : Rg) (hs : List Hk) : List ByteArray := appliedTo a r.2 (insideR r hs) r.1

theorem part_len {l : List ByteArray} {i j : Nat} (h : j ≤ l.length) : (part l i j).length = j - i := by
  unfold part; rw [List.length_take, List.length_drop]; omega
theorem part_part (a : List ByteArray) {f t i j : Nat} (hj : f + j ≤ t) : part (part a f t) i j = part a (f + i) (f + j) := by
  unfold part
  rw [List.drop_take, List.take_take, List.drop_drop]
  congr 1
  omega
theorem part_drop (a : List ByteArray) (f t i : Nat) : (part a f t).drop i = part a (f + i) t := by
  unfold part
  rw [List.drop_take, List.drop_drop]
  congr 1
  omega
theorem part_all (a : List ByteArray) (i : Nat) : part a i a.length = a.drop i := by
  unfold part; rw [List.take_of_length_le (by simp)]

theorem inR_iff {r : Rg} {h : Hk} {f : Nat} (hf : h.frm = (f : Int)) : inR r h = true ↔ r.1 ≤ f ∧ f + h.old.length ≤ r.2 := by
  unfold inR
  simp only [Bool.and_eq_true, decide_eq_true_eq]
  omega

/-- the hunks of a region, told from its first line on, are good for the region's lines and make of them what the hunks make there -/
theorem side_good {a : List ByteArray} {r : Rg} (h1 : r.1 ≤ r.2) (h2 : r.2 ≤ a.length) : ∀ {hs : List Hk} {p q : Nat}, Good a hs p → r.1 ≤ q → q ≤ r.2 → (q ≤ r.1 ∨ q ≤ p) →
    Good (part a r.1 r.2) ((insideR r hs).map (shiftH r.1)) (q - r.1) ∧ applied (part a r.1 r.2) ((insideR r hs).map (shiftH r.1)) (q - r.1) = appliedTo a r.2 (insideR r hs) q
  | [], p, q, hg, q1, q2, q3 => by
    refine ⟨?_, ?_⟩
    · show q - r.1 ≤ _
      rw [part_len h2]; omega
    · show (part a r.1 r.2).drop (q - r.1) = part a q r.2
      rw [part_drop]; congr 1; omega
  | h :: hs, p, q, ⟨f, hf, hp, hl, hg⟩, q1, q2, q3 => by
    by_cases hin : inR r h = true
    · obtain ⟨i1, i2⟩ := (inR_iff hf).1 hin
      obtain ⟨g1, g2⟩ := side_good h1 h2 (q := f + h.old.length) hg (by omega) i2 (.inr (Nat.le_refl _))
      have e : insideR r (h :: hs) = h :: insideR r hs := by unfold insideR; rw [List.filter_cons, if_pos hin]
      rw [e, List.map_cons]
      have hsf : (shiftH r.1 h).frm = ((f - r.1 : Nat) : Int) := by show h.frm - (r.1 : Int) = _; omega
      have e2 : f - r.1 + h.old.length = f + h.old.length - r.1 := by omega
      refine ⟨⟨f - r.1, hsf, by omega, ?_, ?_⟩, ?_⟩
      · rw [part_len h2]; show f - r.1 + h.old.length ≤ _; omega
      · show Good _ _ (f - r.1 + h.old.length)
        rw [e2]; exact g1
      · rw [applied, appliedTo]
        have e3 : (shiftH r.1 h).frm.toNat = f - r.1 := by rw [hsf]; rfl
        have e4 : h.frm.toNat = f := by rw [hf]; rfl
        rw [e3, e4, show (shiftH r.1 h).old = h.old from rfl, show (shiftH r.1 h).new = h.new from rfl, e2, g2]
        have := part_part a (f := r.1) (t := r.2) (i := q - r.1) (j := f - r.1) (by omega)
        rw [show r.1 + (q - r.1) = q by omega, show r.1 + (f - r.1) = f by omega] at this
        rw [← this]; rfl
    · have e : insideR r (h :: hs) = insideR r hs := by unfold insideR; rw [List.filter_cons, if_neg hin]
      rw [e]
      exact side_good h1 h2 (p := f + h.old.length) hg q1 q2 (by omega)
theorem side_eq {a : List ByteArray} {r : Rg} (h1 : r.1 ≤ r.2) (h2 : r.2 ≤ a.length) {hs : List Hk} {p : Nat} (hg : Good a hs p) :
    Good (part a r.1 r.2) ((insideR r hs).map (shiftH r.1)) 0 ∧ applied (part a r.1 r.2) ((insideR r hs).map (shiftH r.1)) 0 = sideOf a r hs := by
  have := side_good h1 h2 (q := r.1) hg (Nat.le_refl _) h1 (.inl (Nat.le_refl _))
  rwa [Nat.sub_self] at this
/-- a crude bound -/
theorem appliedTo_len {a : List ByteArray} {to M : Nat} : ∀ {hs : List Hk} {p : Nat}, (∀ h ∈ hs, h.new.length ≤ M) → (appliedTo a to hs p).length ≤ (hs.length + 1) * (a.length + M)
  | [], p, _ => by
    show (part a p to).length ≤ _
    unfold part; rw [List.length_take, List.length_drop]; simp; omega
  | h :: hs, p, hm => by
    have ih := appliedTo_len (a := a) (to := to) (hs := hs) (p := h.frm.toNat + h.old.length) (fun x hx => hm x (by simp [hx]))
    have h0 := hm h (by simp)
    rw [appliedTo, List.length_append, List.length_append, List.length_cons, Nat.succ_mul]
    have : (part a p h.frm.toNat).length ≤ a.length := by unfold part; rw [List.length_take, List.length_drop]; omega
    omega
theorem sideOf_len {a : List ByteArray} {r : Rg} {hs : List Hk} {M : Nat} (hm : ∀ h ∈ hs, h.new.length ≤ M) : (sideOf a r hs).length ≤ (hs.length + 1) * (a.length + M) := by
  refine Nat.le_trans (appliedTo_len (M := M) fun h hh => hm h (List.mem_filter.1 hh).1) ?_
  exact Nat.mul_le_mul_right _ (by have := List.length_filter_le (inR r) hs; unfold insideR; omega)
theorem part_sz {l : List ByteArray} {i j B : Nat} (h : ∀ s ∈ l, s.size ≤ B) : ∀ s ∈ part l i j, s.size ≤ B := fun s hs => h s (List.mem_of_mem_drop (List.mem_of_mem_take hs))

/-- the hunks of a difference -/
theorem gap_good {a b : List ByteArray} {f t x y : Nat} {hs : List Hk} (hfx : f ≤ x) (hx : x ≤ a.length) (hg : ∀ p, p ≤ x → Good a hs p) : Good a (gap a b f t x y ++ hs) f := by
  unfold gap
  split
  · refine ⟨f, rfl, Nat.le_refl _, ?_, ?_⟩
    · show f + (part a f x).length ≤ _; rw [part_len hx]; omega
    · show Good a hs (f + (part a f x).length)
      rw [part_len hx, show f + (x - f) = x by omega]
      exact hg x (Nat.le_refl _)
  · exact hg f hfx
theorem Good.weaken {a : List ByteArray} : ∀ {hs : List Hk} {p q : Nat}, Good a hs p → q ≤ p → Good a hs q
  | [], p, q, h, hq => Nat.le_trans hq h
  | h :: hs, p, q, ⟨f, h1, h2, h3, h4⟩, hq => ⟨f, h1, by omega, h3, h4⟩
theorem hunksOf_good {a b : List ByteArray} : ∀ {ps : List (Nat × Nat)} {f t : Nat}, Chain a.length b.length f t ps → Good a (hunksOf a b f t ps) f
  | [], f, t, h => by
    have := gap_good (a := a) (b := b) (f := f) (t := t) (x := a.length) (y := b.length) (hs := []) h.1 (Nat.le_refl _) (fun p hp => hp)
    rwa [List.append_nil] at this
  | p :: ps, f, t, ⟨h1, h2, h3, h4, h5⟩ => gap_good h1 (Nat.le_of_lt h3) fun q hq => (hunksOf_good h5).weaken (by omega)
theorem diffOf_good (a b : List ByteArray) : Good a (hunksOf a b 0 0 (stayAt a b 0 0)) 0 := hunksOf_good (stay_chain a b)
theorem hunksOf_new {a b : List ByteArray} : ∀ {ps : List (Nat × Nat)} {f t : Nat}, ∀ h ∈ hunksOf a b f t ps, h.new.length ≤ b.length
  | [], f, t, h, hh => by
    unfold hunksOf gap at hh
    split at hh
    · simp at hh; subst hh; show (part b t b.length).length ≤ _; unfold part; rw [List.length_take, List.length_drop]; omega
    · simp at hh
  | p :: ps, f, t, h, hh => by
    rw [hunksOf] at hh
    rcases List.mem_append.1 hh with hh | hh
    · unfold gap at hh
      split at hh
      · simp at hh; subst hh; show (part b t p.2).length ≤ _; unfold part; rw [List.length_take, List.length_drop]; omega
      · simp at hh
    · exact hunksOf_new h hh
/-- the regions of good hunks lie in the list -/
theorem good_rg {a : List ByteArray} : ∀ {hs : List Hk} {p : Nat}, Good a hs p → ∀ r ∈ hs.map rgOf, r.1 ≤ r.2 ∧ r.2 ≤ a.length
  | [], p, _, r, hr => by simp at hr
  | h :: hs, p, ⟨f, h1, h2, h3, h4⟩, r, hr => by
    rw [List.map_cons] at hr
    rcases List.mem_cons.1 hr with rfl | hr
    · have : h.frm.toNat = f := by omega
      refine ⟨?_, ?_⟩
      · show h.frm.toNat ≤ h.frm.toNat + h.old.length; omega
      · show h.frm.toNat + h.old.length ≤ _; omega
    · exact good_rg h4 r hr
theorem good_frm {a : List ByteArray} : ∀ {hs : List Hk} {p : Nat}, Good a hs p → ∀ h ∈ hs, 0 ≤ h.frm ∧ h.frm + (h.old.length : Int) ≤ a.length
  | [], p, _, h, hh => by simp at hh
  | g :: hs, p, ⟨f, h1, h2, h3, h4⟩, h, hh => by
    rcases List.mem_cons.1 hh with rfl | hh
    · omega
    · exact good_frm h4 h hh
/-- the regions that come out lie in the list, too -/
theorem rg_in {L M : List Rg} {n : Nat} (hs : Sep M) (hc : ∀ x, Cov M x ↔ Cov L x) (hl : ∀ r ∈ L, r.2 ≤ n) : ∀ r ∈ M, r.2 ≤ n := by
  intro r hr
  have := hs.2 r hr
  obtain ⟨q, hq, h1, h2⟩ := (hc (2 * r.2)).1 ⟨r, hr, by omega, Nat.le_refl _⟩
  have := hl q hq
  omega

/-- sure lines are added to pieces -/
def sureP (ps : List Pc) (l : List ByteArray) : List Pc :=
  if l = [] then ps else match ps.getLast? with
    | none => [⟨false, l, [], [], []⟩]
    | some q => if q.conf = true then ps ++ [⟨false, l, [], [], []⟩] else ps.dropLast ++ [⟨false, q.lines ++ l, q.base, q.a, q.b⟩]
/-- what a region adds to pieces -/
def addRg (base : List ByteArray) (x y : List Hk) (r : Rg) (ps : List Pc) : List Pc :=
  if insideR r y = [] ∨ sideOf base r x = sideOf base r y then sureP ps (sideOf base r x)
  else if insideR r x = [] then sureP ps (sideOf base r y)
  else ps ++ [⟨true, [], part base r.1 r.2, sideOf base r x, sideOf base r y⟩]
/-- the pieces that regions make, from a line on -/
def mergeRun (base : List ByteArray) (x y : List Hk) : List Rg → Nat → List Pc → List Pc
  | [], at_, ps => sureP ps (base.drop at_)
  | r :: rs, at_, ps => mergeRun base x y rs r.2 (addRg base x y r (sureP ps (part base at_ r.1)))
theorem sureP_nil (ps : List Pc) : sureP ps [] = ps := by unfold sureP; rw [if_pos rfl]
theorem sureP_conf {A : List Pc} {q : Pc} {l : List ByteArray} (hl : l ≠ []) (hq : q.conf = true) : sureP (A ++ [q]) l = A ++ [q] ++ [⟨false, l, [], [], []⟩] := by
  unfold sureP; rw [if_neg hl]; simp [hq]
theorem sureP_none {l : List ByteArray} (hl : l ≠ []) : sureP [] l = [⟨false, l, [], [], []⟩] := by
  unfold sureP; rw [if_neg hl]; rfl
theorem sureP_more {A : List Pc} {q : Pc} {l : List ByteArray} (hl : l ≠ []) (hq : q.conf = false) : sureP (A ++ [q]) l = A ++ [⟨false, q.lines ++ l, q.base, q.a, q.b⟩] := by
  unfold sureP; rw [if_neg hl]; simp [hq]
/-- how long the pieces' sure lines may be -/
def LinesLe (ps : List Pc) (n : Nat) : Prop := ∀ p ∈ ps, p.lines.length ≤ n
theorem LinesLe.nil (n : Nat) : LinesLe [] n := fun p hp => by simp at hp
theorem LinesLe.mono {ps : List Pc} {n m : Nat} (h : LinesLe ps n) (hm : n ≤ m) : LinesLe ps m := fun p hp => Nat.le_trans (h p hp) hm
theorem LinesLe.push {ps : List Pc} {n : Nat} {p : Pc} (h : LinesLe ps n) (hp : p.lines.length ≤ n) : LinesLe (ps ++ [p]) n := fun q hq => by
  rcases List.mem_append.1 hq with hq | hq
  · exact h q hq
  · simp at hq; subst hq; exact hp
theorem LinesLe.sure {ps : List Pc} {n : Nat} {l : List ByteArray} (h : LinesLe ps n) : LinesLe (sureP ps l) (n + l.length) := by
  unfold sureP
  split
  · exact h.mono (by omega)
  · split
    · intro p hp; simp at hp; subst hp; show l.length ≤ _; omega
    · rename_i q hq
      split
      · exact (h.mono (by omega)).push (by show l.length ≤ _; omega)
      · have hm : q ∈ ps := List.mem_of_getLast? hq
        refine LinesLe.push (fun p hp => ?_) ?_
        · have := h p (List.dropLast_subset ps hp); omega
        · show (q.lines ++ l).length ≤ _
          rw [List.length_append]; have := h q hm; omega
theorem sureP_len (ps : List Pc) (l : List ByteArray) : (sureP ps l).length ≤ ps.length + 1 := by
  unfold sureP
  split
  · omega
  · split
    · simp
    · split
      · simp
      · simp only [List.length_append, List.length_dropLast, List.length_cons, List.length_nil]; omega
theorem addRg_len (base : List ByteArray) (x y : List Hk) (r : Rg) (ps : List Pc) : (addRg base x y r ps).length ≤ ps.length + 1 := by
  unfold addRg
  split
  · exact sureP_len _ _
  · split
    · exact sureP_len _ _
    · simp
end Go.Proofs.Ytfjbdbdjhkmifaa
