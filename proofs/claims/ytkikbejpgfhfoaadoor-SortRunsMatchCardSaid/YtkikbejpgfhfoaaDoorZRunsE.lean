/- A row of rows of strings that a call has made itself. -/
import Derived.Test.YtkikbejpgfhfoaaDoorRunsP
import Derived.Test.YtkikbejpgfhfoaaDoorHunk
import Derived.Test.YtkikbejpgfhfoaaDoorRefL
import Derived.Deep.AppendLies
import Derived.Test.YtkikbejpgfhfoaaDoorSorts
/- RunsO -/
set_option linter.unusedVariables false
set_option linter.unusedSimpArgs false
namespace Go.Pw
open Go.RowKit
/-- a row of rows: all of the call's own, each in a block of its own -/
structure RunsO (tS tSS : TypeId) (w : World) (base : Nat) (v : Value) (vs : List Value) (rs : List (List ByteArray)) : Prop where
  len : vs.length = rs.length
  own : w.ownsRow base tSS 1 v rs.length vs
  el : ∀ (i : Nat) (u : Value) (l : List ByteArray), vs[i]? = some u → rs[i]? = some l → OwnS tS w base u l ∧ (∀ q, u.ownBlock = some q → v.ownBlock ≠ some q)
  dis : ∀ (i j : Nat) (u u' : Value), i ≠ j → vs[i]? = some u → vs[j]? = some u' → ∀ q, u.ownBlock = some q → u'.ownBlock ≠ some q
variable {tS tSS : TypeId} {w w' : World} {base : Nat} {v : Value} {vs : List Value} {rs : List (List ByteArray)}
theorem RunsO.nil (tS tSS : TypeId) (w : World) (base : Nat) : RunsO tS tSS w base (.slice none 0 0) [] [] := ⟨rfl, World.ownsRow_nil _ _ _ _, fun i u l h => by simp at h, fun i j u u' _ h => by simp at h⟩
theorem RunsO.below (h : RunsO tS tSS w base v vs rs) (hb : Below w.heap.size w w') : RunsO tS tSS w' base v vs rs :=
  ⟨h.len, own_below h.own hb, fun i u l hu hl => ⟨own_below (h.el i u l hu hl).1 hb, (h.el i u l hu hl).2⟩, h.dis⟩
theorem alloc_below (w : World) (o : Obj) : Below w.heap.size w (w.alloc o) := (Below.refl _ _).alloc (Nat.le_refl _) o
/-- one run more, empty -/
theorem RunsO.push {g cap : Nat} {ob : Obj} (h : RunsO tS tSS w base v vs rs) (hown' : w'.ownsRow base tSS 1 (.slice (some ⟨g, 0, none⟩) (rs.length + 1) cap) (rs.length + 1) (vs ++ [.slice none 0 0])) (hgrow : (w.alloc ob).grownBy w' v.ownBlock)
    (hat : v.ownBlock = some g ∨ g = w.heap.size + 1) : RunsO tS tSS w' base (.slice (some ⟨g, 0, none⟩) (rs.length + 1) cap) (vs ++ [.slice none 0 0]) (rs ++ [[]]) := by
  refine ⟨by simp [h.len], by rw [List.length_append]; exact hown', fun i u l hu hl => ?_, fun i j u u' hij hu hu' q hq => ?_⟩
  · by_cases hi : i < rs.length
    · rw [List.getElem?_append_left hi] at hl
      rw [List.getElem?_append_left (by rw [h.len]; exact hi)] at hu
      obtain ⟨a, b⟩ := h.el i u l hu hl
      refine ⟨World.ownsRow.kept (own_below a (alloc_below w ob)) hgrow ?_, fun q hq => ?_⟩
      · cases hub : u.ownBlock with
        | none => exact .inl rfl
        | some q => exact .inr fun e => b q hub e.symm
      · intro e
        injection (show some g = some q from e) with e
        subst e
        rcases hat with hat | hat
        · exact b g hq hat
        · have := own_lt a g hq; omega
    · have hi2 : i = rs.length := by
        have := (List.getElem?_eq_some_iff.1 hl).1
        simp at this; omega
      subst hi2
      rw [List.getElem?_append_right (Nat.le_refl _)] at hl
      rw [List.getElem?_append_right (by rw [h.len]; exact Nat.le_refl _), h.len] at hu
      simp at hl hu
      subst hl; subst hu
      exact ⟨World.ownsRow_nil _ _ _ _, fun q hq => by simp [Value.ownBlock] at hq⟩
  · have key : ∀ (k : Nat) (x : Value), (vs ++ [.slice none 0 0])[k]? = some x → x.ownBlock ≠ none → vs[k]? = some x := by
      intro k x hx hne
      by_cases hk : k < vs.length
      · rwa [List.getElem?_append_left hk] at hx
      · rw [List.getElem?_append_right (by omega)] at hx
        have : k - vs.length = 0 := by have := (List.getElem?_eq_some_iff.1 hx).1; simp at this; omega
        rw [this] at hx
        simp at hx
        subst hx
        exact absurd rfl hne
    intro e
    exact h.dis i j u u' hij (key i u hu (by rw [hq]; simp)) (key j u' hu' (by rw [e]; simp)) q hq e
/-- a line more in the run at k -/
theorem RunsO.grow {g n cap k g2 cap2 : Nat} {ob : Obj} {u : Value} {l : List ByteArray} {s : ByteArray} (h : RunsO tS tSS w base (.slice (some ⟨g, 0, none⟩) n cap) vs rs) (hn : rs.length = n) (hu : vs[k]? = some u) (hl : rs[k]? = some l)
    (hown' : w'.ownsRow base tS 1 (.slice (some ⟨g2, 0, none⟩) (l.length + 1) cap2) (l.length + 1) (l.map Value.string ++ [.string s])) (hgrow : (w.alloc ob).grownBy w' u.ownBlock) (hat : u.ownBlock = some g2 ∨ g2 = w.heap.size + 1) :
    RunsO tS tSS (w'.setCell ⟨g, k, none⟩ (.slice (some ⟨g2, 0, none⟩) (l.length + 1) cap2)) base (.slice (some ⟨g, 0, none⟩) n cap) (vs.set k (.slice (some ⟨g2, 0, none⟩) (l.length + 1) cap2)) (rs.set k (l ++ [s])) := by
  subst hn
  obtain ⟨a, b⟩ := h.el k u l hu hl
  have hgl := own_lt h.own g rfl
  have hug : u.ownBlock ≠ some g := fun e => b g e rfl
  have hg2 : g2 ≠ g := by
    rcases hat with hat | hat
    · intro e; subst e; exact hug hat
    · omega
  have o1 : w'.ownsRow base tSS 1 (.slice (some ⟨g, 0, none⟩) rs.length cap) rs.length vs := World.ownsRow.kept (own_below h.own (alloc_below w ob)) hgrow (.inr fun e => hug e.symm)
  obtain ⟨o2, g3⟩ := World.ownsRow.stored o1 k (.slice (some ⟨g2, 0, none⟩) (l.length + 1) cap2)
  refine ⟨by simp [h.len], by rw [List.length_set]; exact o2, fun i x y hx hy => ?_, fun i j x x' hij hx hx' q hq => ?_⟩
  · rw [List.getElem?_set] at hx hy
    split at hx
    · rename_i e
      rw [if_pos e] at hy
      split at hx
      · split at hy
        · injection hx with hx; injection hy with hy
          subst hx; subst hy
          refine ⟨?_, fun q hq e => ?_⟩
          · unfold OwnS
            rw [List.map_append, List.length_append]
            exact World.ownsRow.kept hown' g3 (.inr fun e => by injection (show some g2 = some g from e) with e; exact hg2 e)
          · injection (show some g2 = some q from hq) with hq
            injection (show some g = some q from e) with e
            omega
        · cases hy
      · cases hx
    · rename_i e
      rw [if_neg e] at hy
      obtain ⟨a1, b1⟩ := h.el i x y hx hy
      refine ⟨World.ownsRow.kept (World.ownsRow.kept (own_below a1 (alloc_below w ob)) hgrow ?_) g3 ?_, b1⟩
      · cases hxb : x.ownBlock with
        | none => exact .inl rfl
        | some q => exact .inr fun e2 => h.dis i k x u (fun e3 => e e3.symm) hx hu q hxb e2.symm
      · cases hxb : x.ownBlock with
        | none => exact .inl rfl
        | some q => exact .inr fun e2 => b1 q hxb e2.symm
  · have key : ∀ (m : Nat) (x : Value), m ≠ k → vs[m]? = some x → ∀ q, x.ownBlock = some q → q ≠ g2 := by
      intro m y hm hy q hq e
      rw [e] at hq
      rcases hat with hat | hat
      · exact h.dis m k y u hm hy hu g2 hq hat
      · have hm2 : m < rs.length := by have := (List.getElem?_eq_some_iff.1 hy).1; rw [h.len] at this; exact this
        have := own_lt (h.el m y rs[m] hy (List.getElem?_eq_getElem hm2)).1 g2 hq
        omega
    rw [List.getElem?_set] at hx hx'
    split at hx
    · rename_i e
      split at hx'
      · omega
      · rename_i e'
        split at hx
        · injection hx with hx; subst hx
          injection (show some g2 = some q from hq) with hq
          subst hq
          exact fun e2 => key j x' (fun e3 => e' e3.symm) hx' g2 e2 rfl
        · cases hx
    · rename_i e
      split at hx'
      · rename_i e'
        split at hx'
        · injection hx' with hx'; subst hx'
          intro e2
          injection (show some g2 = some q from e2) with e2
          exact key i x (fun e3 => e e3.symm) hx q hq e2.symm
        · cases hx'
      · exact h.dis i j x x' hij hx hx' q hq
end Go.Pw

/- RunsS -/
set_option linter.unusedVariables false
set_option linter.unusedSimpArgs false
namespace Go.Pw
open Go.RowKit
structure RunsS (tSS : TypeId) (w : World) (base : Nat) (v : Value) (vs : List Value) (rs : List (List ByteArray)) : Prop where
  len : vs.length = rs.length
  own : w.ownsRow base tSS 1 v rs.length vs
  el : ∀ (i : Nat) (u : Value) (l : List ByteArray), vs[i]? = some u → rs[i]? = some l → ∃ b c, u = .slice (some ⟨b, 0, none⟩) l.length c ∧ base ≤ b ∧ v.ownBlock ≠ some b ∧ l.length ≤ c ∧ c ≤ maxLen ∧ RowS w b 0 l
  dis : ∀ (i j : Nat) (u u' : Value), i ≠ j → vs[i]? = some u → vs[j]? = some u' → ∀ q, u.ownBlock = some q → u'.ownBlock ≠ some q
theorem RunsO.sorting {tS tSS : TypeId} {w : World} {base : Nat} {v : Value} {vs : List Value} {rs : List (List ByteArray)} (h : RunsO tS tSS w base v vs rs) (hne : ∀ r ∈ rs, r ≠ []) : RunsS tSS w base v vs rs := by
  refine ⟨h.len, h.own, fun i u l hu hl => ?_, h.dis⟩
  obtain ⟨a, b⟩ := h.el i u l hu hl
  have h0 : 0 < l.length := List.length_pos_iff.2 (hne l (List.mem_of_getElem? hl))
  have a' := a
  obtain ⟨_, ⟨_, hz⟩ | ⟨g, cap, cur, rfl, h1, h2, h3, h4, _⟩⟩ := a'
  · omega
  · refine ⟨g, cap, rfl, h1, b g rfl, h3, h4, own_lt a g rfl, fun j s hs => ?_⟩
    have hj := (List.getElem?_eq_some_iff.1 hs).1
    rw [Nat.zero_add]
    refine ⟨?_, World.ownsRow.frozenAt a j⟩
    rw [World.ownsRow.cellAt a j (by omega), List.getElem?_map, hs]
    rfl
theorem RunsS.sorted {tSS : TypeId} {w w' : World} {base g n cap k b c m : Nat} {vs : List Value} {rs : List (List ByteArray)} {l l' : List ByteArray} (h : RunsS tSS w base (.slice (some ⟨g, 0, none⟩) n cap) vs rs) (hn : rs.length = n) (hu : vs[k]? = some (.slice (some ⟨b, 0, none⟩) m c)) (hl : rs[k]? = some l) (hml : l.length = m)
    (hb : But w.heap.size b w w') (hr : RowS w' b 0 l') (hll : l'.length = l.length) : RunsS tSS w' base (.slice (some ⟨g, 0, none⟩) n cap) vs (rs.set k l') := by
  subst hn hml
  obtain ⟨b', c', e, h1, h2, h3, h4, h5⟩ := h.el k _ l hu hl
  injection e with e1 _ e3
  injection e1 with e1
  injection e1 with e1 _
  subst e1 e3
  have gb : w.grownBy w' (some b) := ⟨hb.os, hb.tape, hb.output, hb.size, fun k hk hne => hb.block k hk (fun e => hne (by rw [e]))⟩
  refine ⟨by simp [h.len], by rw [List.length_set]; exact World.ownsRow.kept h.own gb (.inr h2), fun i u x hx hy => ?_, h.dis⟩
  rw [List.getElem?_set] at hy
  split at hy
  · rename_i e
    subst e
    rw [hu] at hx
    injection hx with hx
    split at hy
    · injection hy with hy
      subst hx hy
      exact ⟨b, c, by rw [hll], h1, h2, by omega, h4, hr⟩
    · cases hy
  · rename_i e
    obtain ⟨b2, c2, rfl, k1, k2, k3, k4, k5, k6⟩ := h.el i u x hx hy
    have hbb : b2 ≠ b := fun e2 => h.dis i k _ _ (fun e3 => e e3.symm) hx hu b2 rfl (by rw [e2]; rfl)
    refine ⟨b2, c2, rfl, k1, k2, k3, k4, Nat.lt_of_lt_of_le k5 hb.size, fun j s hs => ?_⟩
    obtain ⟨q1, q2⟩ := k6 j s hs
    exact ⟨(hb.cell (p := ⟨b2, 0 + j, none⟩) k5 hbb).trans q1, (World.frozen?_of_block (w := w) (hb.block b2 k5 hbb)).trans q2⟩
theorem set_sorted (f : List ByteArray → List ByteArray) (rs : List (List ByteArray)) (k : Nat) (h : k < rs.length) : ((rs.take k).map f ++ rs.drop k).set k (f rs[k]) = (rs.take (k + 1)).map f ++ rs.drop (k + 1) := by
  rw [List.set_append_right _ _ (by rw [List.length_map, List.length_take]; omega), List.length_map, List.length_take, Nat.min_eq_left (by omega), Nat.sub_self, List.drop_eq_getElem_cons h, List.set_cons_zero, List.take_succ_eq_append_getElem h, List.map_append]
  simp
theorem at_sorted (f : List ByteArray → List ByteArray) (rs : List (List ByteArray)) (k : Nat) (h : k < rs.length) : ((rs.take k).map f ++ rs.drop k)[k]? = some rs[k] := by
  rw [List.getElem?_append_right (by rw [List.length_map, List.length_take]; omega), List.length_map, List.length_take, Nat.min_eq_left (by omega), Nat.sub_self, List.drop_eq_getElem_cons h]; rfl
theorem len_sorted (f : List ByteArray → List ByteArray) (rs : List (List ByteArray)) (k : Nat) (h : k ≤ rs.length) : ((rs.take k).map f ++ rs.drop k).length = rs.length := by
  rw [List.length_append, List.length_map, List.length_take, List.length_drop]; omega
end Go.Pw
