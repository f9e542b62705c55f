/- Plain: the phases of slices.SortStableFunc: blocks in order, merged two by two. -/
import Derived.Test.YtfjbdbdjhkmifaaStabR
set_option linter.unusedVariables false
namespace Go.Pw
variable {α : Type} {lt : α → α → Bool}
/-- all blocks of so many elements are in order -/
structure BDone (lt : α → α → Bool) (s : Nat) (l l' : List α) : Prop where
  len : l'.length = l.length
  blk : ∀ j, (l'.drop (j * s)).take s = isrt lt ((l.drop (j * s)).take s)
  mem : ∀ x ∈ l', x ∈ l
/-- the blocks ahead of place a are in order; behind it all is as in l2 -/
structure BAt (lt : α → α → Bool) (s : Nat) (l l2 l' : List α) (a : Nat) : Prop where
  up : ∃ k, a = k * s ∧ Upto lt s l k l'
  le : a ≤ l.length
  rest : l'.drop a = l2.drop a
  mem : ∀ x ∈ l', x ∈ l
theorem BAt.len {s : Nat} {l l2 l' : List α} {a : Nat} (h : BAt lt s l l2 l' a) : l'.length = l.length := by
  obtain ⟨k, _, hu⟩ := h.up
  exact hu.1
theorem BAt.start {s : Nat} {l l2 : List α} (h : l2.length = l.length) (hm : ∀ x ∈ l2, x ∈ l) : BAt lt s l l2 l2 0 := ⟨⟨0, by simp, Upto.start lt s h⟩, Nat.zero_le _, rfl, hm⟩
theorem take3 (l : List α) (a s : Nat) : l = l.take a ++ ((l.drop a).take s ++ l.drop (a + s)) := by
  conv => lhs; rw [← List.take_append_drop a l, ← List.take_append_drop s (l.drop a), List.drop_drop]
theorem BAt.next {s : Nat} {l l2 l' Q' : List α} {a : Nat} (h : BAt lt s l l2 l' a) (ha : a + s ≤ l.length) (hq : Q' = isrt lt ((l.drop a).take s)) (hm : ∀ x ∈ Q', x ∈ l) : BAt lt s l l2 (l'.take a ++ (Q' ++ l'.drop (a + s))) (a + s) := by
  have hl := h.len
  obtain ⟨k, rfl, hu⟩ := h.up
  have q1 : ((l'.drop (k * s)).take s).length = s := by rw [List.length_take, List.length_drop]; omega
  have q2 : Q'.length = s := by rw [hq, isrt_len, List.length_take, List.length_drop]; omega
  have q3 : (l'.take (k * s)).length = k * s := by rw [List.length_take]; omega
  have st := hu.step (take3 l' (k * s) s) q3 (q2.trans q1.symm) (.inl q1) hq
  refine ⟨⟨k + 1, by rw [Nat.add_mul, Nat.one_mul], st⟩, ha, ?_, fun x hx => ?_⟩
  · rw [← List.append_assoc, List.drop_append_of_le_length (by rw [List.length_append]; omega), List.drop_of_length_le (by rw [List.length_append]; omega), List.nil_append]
    rw [← List.drop_drop, h.rest, List.drop_drop]
  · rcases List.mem_append.1 hx with hx | hx
    · exact h.mem x (List.mem_of_mem_take hx)
    · rcases List.mem_append.1 hx with hx | hx
      · exact hm x hx
      · exact h.mem x (List.mem_of_mem_drop hx)
theorem BAt.last {s : Nat} {l l2 l' Q' : List α} {a : Nat} (h : BAt lt s l l2 l' a) (hs : 0 < s) (ha : l.length ≤ a + s) (hq : Q' = isrt lt ((l.drop a).take s)) (hm : ∀ x ∈ Q', x ∈ l) : BDone lt s l (l'.take a ++ Q') := by
  have hl := h.len
  have hle := h.le
  obtain ⟨k, rfl, hu⟩ := h.up
  have q1 : (l'.drop (k * s)).length = l.length - k * s := by rw [List.length_drop]; omega
  have q2 : Q'.length = l.length - k * s := by rw [hq, isrt_len, List.length_take, List.length_drop]; omega
  have q3 : (l'.take (k * s)).length = k * s := by rw [List.length_take]; omega
  have e : l' = l'.take (k * s) ++ (l'.drop (k * s) ++ []) := by rw [List.append_nil, List.take_append_drop]
  have st := hu.step e q3 (q2.trans q1.symm) (.inr ⟨rfl, by omega⟩) hq
  rw [List.append_nil] at st
  refine ⟨st.1, st.done (by rw [Nat.add_mul, Nat.one_mul]; exact ha) hs, fun x hx => ?_⟩
  rcases List.mem_append.1 hx with hx | hx
  · exact h.mem x (List.mem_of_mem_take hx)
  · exact hm x hx
theorem isrt_in {l Q : List α} (h : ∀ x ∈ Q, x ∈ l) : ∀ x ∈ isrt lt Q, x ∈ l := fun x hx => h x (isrt_mem Q hx)
theorem part_in {l : List α} {a s : Nat} : ∀ x ∈ (l.drop a).take s, x ∈ l := fun x hx => List.mem_of_mem_drop (List.mem_of_mem_take hx)
/-- the first phase: a whole block -/
theorem BAt.ins (hw : Swo lt) {s : Nat} {l l' : List α} {a : Nat} (h : BAt lt s l l l' a) (ha : a + s ≤ l.length) : BAt lt s l l (insL lt a (a + s - a) l') (a + s) := by
  rw [insL_part hw (Nat.le_add_right a s) (by rw [h.len]; exact ha), Nat.add_sub_cancel_left, h.rest]
  exact h.next ha rfl (isrt_in part_in)
theorem BAt.insLast (hw : Swo lt) {s : Nat} {l l' : List α} {a : Nat} (h : BAt lt s l l l' a) (hs : 0 < s) (ha : l.length ≤ a + s) : BDone lt s l (insL lt a (l.length - a) l') := by
  have hl := h.len
  have e0 : l'.drop l.length = [] := List.drop_of_length_le (by omega)
  rw [insL_part hw h.le (by rw [hl]; exact Nat.le_refl _), e0, List.append_nil, h.rest]
  have e : (l.drop a).take (l.length - a) = (l.drop a).take s := by rw [List.take_of_length_le (by rw [List.length_drop]; omega), List.take_of_length_le (by rw [List.length_drop]; omega)]
  rw [e]
  exact h.last hs ha rfl (isrt_in part_in)
/-- the second phase: what two blocks are -/
structure TwoB (lt : α → α → Bool) (s : Nat) (l l2 l' : List α) (a b : Nat) (P L R T : List α) : Prop where
  e : l' = P ++ (L ++ (R ++ T))
  p : P.length = a
  lL : L.length = s
  lR : a + s + R.length = b
  sL : Srt lt L
  sR : Srt lt R
  m : mrg lt L R = isrt lt ((l.drop a).take (2 * s))
theorem BAt.two (hw : Swo lt) {s : Nat} {l l2 l' : List α} {a b : Nat} (hd : BDone lt s l l2) (h : BAt lt (2 * s) l l2 l' a) (hb : (b = a + 2 * s ∧ b ≤ l.length) ∨ (b = l.length ∧ a + s < b ∧ b < a + 2 * s)) :
    TwoB lt s l l2 l' a b (l'.take a) ((l'.drop a).take s) ((l'.drop (a + s)).take s) (l'.drop (a + 2 * s)) := by
  have hl := h.len
  obtain ⟨k, hk, hu⟩ := h.up
  have ha1 : a = (2 * k) * s := by rw [hk, Nat.mul_comm 2 k, Nat.mul_assoc]
  have ha2 : a + s = (2 * k + 1) * s := by rw [Nat.add_mul, Nat.one_mul, ha1]
  have e1 : (l'.drop a).take s = isrt lt ((l.drop a).take s) := by
    rw [h.rest, ha1]; exact hd.blk (2 * k)
  have e2 : (l'.drop (a + s)).take s = isrt lt ((l.drop (a + s)).take s) := by
    rw [← List.drop_drop, h.rest, List.drop_drop, ha2]; exact hd.blk (2 * k + 1)
  refine ⟨?_, by rw [List.length_take]; omega, by rw [List.length_take, List.length_drop]; omega, by rw [List.length_take, List.length_drop]; omega, by rw [e1]; exact isrt_srt hw _, by rw [e2]; exact isrt_srt hw _, blocks_two hw e1 e2⟩
  conv => lhs; rw [take3 l' a s, ← List.take_append_drop s (l'.drop (a + s)), List.drop_drop]
  rw [show a + s + s = a + 2 * s by omega]
theorem BAt.merged {s : Nat} {l l2 l' : List α} {a b : Nat} (h : BAt lt (2 * s) l l2 l' a) (hb : b = a + 2 * s) (hbl : b ≤ l.length) (t : TwoB lt s l l2 l' a b (l'.take a) ((l'.drop a).take s) ((l'.drop (a + s)).take s) (l'.drop (a + 2 * s))) :
    BAt lt (2 * s) l l2 (l'.take a ++ (mrg lt ((l'.drop a).take s) ((l'.drop (a + s)).take s) ++ l'.drop (a + 2 * s))) b := by
  subst hb
  exact h.next hbl t.m (by rw [t.m]; exact isrt_in part_in)
theorem BAt.mergedLast {s : Nat} {l l2 l' : List α} {a b : Nat} (h : BAt lt (2 * s) l l2 l' a) (hs : 0 < s) (hb : b = l.length) (hb2 : b < a + 2 * s) (t : TwoB lt s l l2 l' a b (l'.take a) ((l'.drop a).take s) ((l'.drop (a + s)).take s) (l'.drop (a + 2 * s))) :
    BDone lt (2 * s) l (l'.take a ++ (mrg lt ((l'.drop a).take s) ((l'.drop (a + s)).take s) ++ l'.drop (a + 2 * s))) := by
  have hl := h.len
  have e0 : l'.drop (a + 2 * s) = [] := List.drop_of_length_le (by omega)
  rw [e0, List.append_nil]
  exact h.last (by omega) (by omega) t.m (by rw [t.m]; exact isrt_in part_in)
theorem BAt.skipLast (hw : Swo lt) {s : Nat} {l l2 l' : List α} {a : Nat} (hd : BDone lt s l l2) (h : BAt lt (2 * s) l l2 l' a) (hs : 0 < s) (ha : l.length ≤ a + s) : BDone lt (2 * s) l l' := by
  have hl := h.len
  obtain ⟨k, hk, hu⟩ := h.up
  have ha1 : a = (2 * k) * s := by rw [hk, Nat.mul_comm 2 k, Nat.mul_assoc]
  have e1 : (l'.drop a).take s = isrt lt ((l.drop a).take s) := by
    rw [h.rest, ha1]; exact hd.blk (2 * k)
  rw [List.take_of_length_le (by rw [List.length_drop]; omega), List.take_of_length_le (by rw [List.length_drop]; omega)] at e1
  have := h.last (Q' := l'.drop a) (by omega) (by omega) (by rw [e1, List.take_of_length_le (by rw [List.length_drop]; omega)]) (fun x hx => h.mem x (List.mem_of_mem_drop hx))
  rwa [List.take_append_drop] at this
theorem BDone.whole {s : Nat} {l l' : List α} (h : BDone lt s l l') (hs : l.length ≤ s) : l' = isrt lt l := blocks_one h.len h.blk hs
end Go.Pw
