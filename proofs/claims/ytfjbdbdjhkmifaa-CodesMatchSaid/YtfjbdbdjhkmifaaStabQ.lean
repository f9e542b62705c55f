/- Plain: what the steps of slices.SortStableFunc make of a list. -/
import Derived.Test.YtfjbdbdjhkmifaaStabP
set_option linter.unusedVariables false
namespace Go.Pw
variable {α : Type} {lt : α → α → Bool}

theorem Srt.at_le (h : Swo lt) {l : List α} (hl : Srt lt l) {i j : Nat} {x y : α} (hij : i ≤ j) (hx : l[i]? = some x) (hy : l[j]? = some y) : lt y x = false := by
  obtain ⟨hi, rfl⟩ := List.getElem?_eq_some_iff.1 hx
  obtain ⟨hj, rfl⟩ := List.getElem?_eq_some_iff.1 hy
  rcases Nat.lt_or_eq_of_le hij with h1 | h1
  · exact List.pairwise_iff_getElem.1 hl i j hi hj h1
  · subst h1; exact h.irrefl _
theorem sinkL_mrg (h : Swo lt) (P : List α) (x : α) : ∀ (S T : List α), Srt lt S → sinkL lt S.length (P.length + S.length) (P ++ (S ++ x :: T)) = P ++ (mrg lt S [x] ++ T) := by
  intro S
  refine snoc_ind (P := fun S => ∀ T : List α, Srt lt S → sinkL lt S.length (P.length + S.length) (P ++ (S ++ x :: T)) = P ++ (mrg lt S [x] ++ T)) ?_ (fun S y ih => ?_) S
  · intro T _; simp [sinkL, mrg_nil_left]
  · intro T hs
    have hs1 : Srt lt S := (List.pairwise_append.1 hs).1
    rw [show (S ++ [y]).length = S.length + 1 by simp, sinkL_step _ _ _ _ (by simp)]
    have e1 : (P ++ (S ++ [y] ++ x :: T))[P.length + (S.length + 1)]'(by simp) = x := by
      rw [List.getElem_append_right (by omega)]
      simp only [show P.length + (S.length + 1) - P.length = S.length + 1 by omega]
      rw [List.getElem_append_right (by simp)]; simp
    have e2 : (P ++ (S ++ [y] ++ x :: T))[P.length + (S.length + 1) - 1]'(by simp <;> omega) = y := by
      rw [List.getElem_append_right (by omega)]
      simp only [show P.length + (S.length + 1) - 1 - P.length = S.length by omega]
      rw [List.getElem_append_left (by simp)]; simp
    rw [e1, e2]
    by_cases hxy : lt x y = true
    · rw [if_pos hxy, swapL_comm]
      have m := swapL_mid (P ++ S) [] T y x
      rw [show (P ++ S).length = P.length + (S.length + 1) - 1 by simp <;> omega, show P.length + (S.length + 1) - 1 + 1 + ([] : List α).length = P.length + (S.length + 1) by simp; omega] at m
      have q : P ++ (S ++ [y] ++ x :: T) = P ++ S ++ y :: ([] ++ x :: T) := by simp
      rw [q, m]
      have i := ih (y :: T) hs1
      rw [show P.length + (S.length + 1) - 1 = P.length + S.length by omega]
      have q2 : P ++ S ++ x :: ([] ++ y :: T) = P ++ (S ++ x :: (y :: T)) := by simp
      rw [q2, i]
      have m2 := mrg_parts lt (L1 := S) (R1 := [x]) (L2 := [y]) (R2 := []) (by simp) (by simpa using hxy)
      rw [List.append_nil, mrg_nil] at m2
      rw [m2]; simp
    · rw [if_neg hxy]
      have hxy' : lt x y = false := by simpa using hxy
      have m2 := mrg_one_right lt (y := x) (L1 := S ++ [y]) (L2 := []) (fun z hz => by
        rcases List.mem_append.1 hz with hz | hz
        · exact h.trans z y x ((List.pairwise_append.1 hs).2.2 z hz y (by simp)) hxy'
        · simp at hz; subst hz; exact hxy') (by simp)
      rw [List.append_nil] at m2
      rw [m2]; simp
theorem insL_isrt (h : Swo lt) (P : List α) : ∀ (Q T : List α), insL lt P.length Q.length (P ++ (Q ++ T)) = P ++ (isrt lt Q ++ T) := by
  intro Q
  refine snoc_ind (P := fun Q => ∀ T : List α, insL lt P.length Q.length (P ++ (Q ++ T)) = P ++ (isrt lt Q ++ T)) ?_ (fun Q x ih => ?_) Q
  · intro T; rfl
  · intro T
    rw [show (Q ++ [x]).length = Q.length + 1 by simp, insL, show P ++ (Q ++ [x] ++ T) = P ++ (Q ++ x :: T) by simp, ih, isrt_snoc]
    have := sinkL_mrg h P x (isrt lt Q) T (isrt_srt h Q)
    rw [isrt_len] at this
    exact this
theorem insL_part (h : Swo lt) {l : List α} {a b : Nat} (hab : a ≤ b) (hb : b ≤ l.length) : insL lt a (b - a) l = l.take a ++ (isrt lt ((l.drop a).take (b - a)) ++ l.drop b) := by
  have e : l = l.take a ++ ((l.drop a).take (b - a) ++ l.drop b) := by
    conv => lhs; rw [← List.take_append_drop a l, ← List.take_append_drop (b - a) (l.drop a)]
    rw [List.drop_drop, show a + (b - a) = b by omega]
  have := insL_isrt h (l.take a) ((l.drop a).take (b - a)) (l.drop b)
  rw [← e] at this
  rw [List.length_take, Nat.min_eq_left (by omega), List.length_take, List.length_drop, Nat.min_eq_left (by omega)] at this
  exact this
theorem insL_whole (h : Swo lt) (l : List α) : insL lt 0 l.length l = isrt lt l := by
  have := insL_isrt h [] l []
  simpa using this

/-- where two runs are cut -/
theorem cut_facts (h : Swo lt) {L R : List α} (hL : Srt lt L) (hR : Srt lt R) {s e : Nat}
    (h1 : ∀ x y, 0 < s → L[s - 1]? = some x → R[e]? = some y → lt y x = false) (h2 : ∀ x y, 0 < e → L[s]? = some x → R[e - 1]? = some y → lt y x = true) (hs : s ≤ L.length) (he : e ≤ R.length) :
    mrg lt L R = mrg lt (L.take s) (R.take e) ++ mrg lt (L.drop s) (R.drop e) := by
  have a1 : ∀ x ∈ L.take s, ∀ y ∈ R.drop e, lt y x = false := by
    intro x hx y hy
    obtain ⟨i, hi, rfl⟩ := List.getElem_of_mem hx
    obtain ⟨j, hj, rfl⟩ := List.getElem_of_mem hy
    rw [List.length_take] at hi
    rw [List.length_drop] at hj
    rw [List.getElem_take, List.getElem_drop]
    have g1 : L[i]? = some (L[i]'(by omega)) := List.getElem?_eq_getElem _
    have g2 : L[s - 1]? = some (L[s - 1]'(by omega)) := List.getElem?_eq_getElem _
    have g3 : R[e]? = some (R[e]'(by omega)) := List.getElem?_eq_getElem _
    have g4 : R[e + j]? = some (R[e + j]'(by omega)) := List.getElem?_eq_getElem _
    exact h.trans _ _ _ (h.trans _ _ _ (hL.at_le h (by omega) g1 g2) (h1 _ _ (by omega) g2 g3)) (hR.at_le h (by omega) g3 g4)
  have a2 : ∀ x ∈ L.drop s, ∀ y ∈ R.take e, lt y x = true := by
    intro x hx y hy
    obtain ⟨i, hi, rfl⟩ := List.getElem_of_mem hx
    obtain ⟨j, hj, rfl⟩ := List.getElem_of_mem hy
    rw [List.length_drop] at hi
    rw [List.length_take] at hj
    rw [List.getElem_take, List.getElem_drop]
    have g1 : L[s]? = some (L[s]'(by omega)) := List.getElem?_eq_getElem _
    have g2 : L[s + i]? = some (L[s + i]'(by omega)) := List.getElem?_eq_getElem _
    have g3 : R[j]? = some (R[j]'(by omega)) := List.getElem?_eq_getElem _
    have g4 : R[e - 1]? = some (R[e - 1]'(by omega)) := List.getElem?_eq_getElem _
    exact h.lt_of_lt_le (h.lt_of_le_lt (hR.at_le h (by omega) g3 g4) (h2 _ _ (by omega) g1 g4)) (hL.at_le h (by omega) g1 g2)
  have := mrg_parts lt a1 a2
  rwa [List.take_append_drop, List.take_append_drop] at this

/-- the places of the runs in the whole -/
theorem at_left {P L R T : List α} {c : Nat} (h1 : P.length ≤ c) (h2 : c < P.length + L.length) : (P ++ (L ++ (R ++ T)))[c]? = L[c - P.length]? := by
  rw [List.getElem?_append_right h1, List.getElem?_append_left (by omega)]
theorem at_right {P L R T : List α} {c : Nat} (h1 : P.length + L.length ≤ c) (h2 : c < P.length + L.length + R.length) : (P ++ (L ++ (R ++ T)))[c]? = R[c - (P.length + L.length)]? := by
  rw [List.getElem?_append_right (by omega), List.getElem?_append_right (by omega), List.getElem?_append_left (by omega), Nat.sub_sub]

/-- the search of a symmetric merge has come to its end -/
theorem sym_cut (h : Swo lt) {P L R T : List α} (hL : Srt lt L) (hR : Srt lt R) {a m b mid s0 r0 st : Nat} (ha : a = P.length) (hm : m = P.length + L.length) (hb : b = P.length + L.length + R.length) (hmid : mid = (a + b) / 2)
    (h0 : (mid < m ∧ s0 = mid + m - b ∧ r0 = mid) ∨ (m ≤ mid ∧ s0 = a ∧ r0 = m)) (hs0 : s0 ≤ st) (hr0 : st ≤ r0)
    (h1 : st = s0 ∨ ∀ x y, (P ++ (L ++ (R ++ T)))[st - 1]? = some x → (P ++ (L ++ (R ++ T)))[mid + m - 1 - (st - 1)]? = some y → lt y x = false)
    (h2 : st = r0 ∨ ∀ x y, (P ++ (L ++ (R ++ T)))[st]? = some x → (P ++ (L ++ (R ++ T)))[mid + m - 1 - st]? = some y → lt y x = true) :
    mrg lt L R = mrg lt (L.take (st - a)) (R.take (mid + m - st - m)) ++ mrg lt (L.drop (st - a)) (R.drop (mid + m - st - m)) := by
  have b1 : a ≤ st := by omega
  have b2 : st ≤ m := by omega
  have b3 : st ≤ mid := by omega
  have b4 : mid + m - st - m ≤ R.length := by omega
  refine cut_facts h hL hR (fun x y hs hx hy => ?_) (fun x y he hx hy => ?_) (by omega) b4
  · rcases h1 with h1 | h1
    · rcases h0 with ⟨g1, g2, g3⟩ | ⟨g1, g2, g3⟩
      · have : R[mid + m - st - m]? = none := List.getElem?_eq_none (by omega)
        rw [this] at hy; cases hy
      · omega
    · refine h1 x y ?_ ?_
      · rw [at_left (by omega) (by omega), ← hx, show st - 1 - P.length = st - a - 1 by omega]
      · have : mid + m - st - m < R.length := (List.getElem?_eq_some_iff.1 hy).1
        rw [at_right (by omega) (by omega), ← hy, show mid + m - 1 - (st - 1) - (P.length + L.length) = mid + m - st - m by omega]
  · rcases h2 with h2 | h2
    · rcases h0 with ⟨g1, g2, g3⟩ | ⟨g1, g2, g3⟩
      · omega
      · have : L[st - a]? = none := List.getElem?_eq_none (by omega)
        rw [this] at hx; cases hx
    · refine h2 x y ?_ ?_
      · have : st - a < L.length := (List.getElem?_eq_some_iff.1 hx).1
        rw [at_left (by omega) (by omega), ← hx, show st - P.length = st - a by omega]
      · rw [at_right (by omega) (by omega), ← hy, show mid + m - 1 - st - (P.length + L.length) = mid + m - st - m - 1 by omega]

/-- so many blocks are in order -/
def Upto (lt : α → α → Bool) (s : Nat) (l : List α) (k : Nat) (l' : List α) : Prop := l'.length = l.length ∧ ∀ j, j < k → (l'.drop (j * s)).take s = isrt lt ((l.drop (j * s)).take s)
theorem Upto.start (lt : α → α → Bool) (s : Nat) {l l' : List α} (h : l'.length = l.length) : Upto lt s l 0 l' := ⟨h, fun j hj => absurd hj (by omega)⟩
theorem Upto.step {s k : Nat} {l l' P Q Q' T : List α} (h : Upto lt s l k l') (e : l' = P ++ (Q ++ T)) (hP : P.length = k * s) (hQ : Q'.length = Q.length) (hs : Q.length = s ∨ (T = [] ∧ Q.length ≤ s)) (hq : Q' = isrt lt ((l.drop (k * s)).take s)) :
    Upto lt s l (k + 1) (P ++ (Q' ++ T)) := by
  subst e
  refine ⟨by have := h.1; simp only [List.length_append] at this ⊢; omega, fun j hj => ?_⟩
  rcases Nat.lt_or_eq_of_le (show j ≤ k by omega) with hlt | heq
  · have hm : (j + 1) * s ≤ k * s := Nat.mul_le_mul_right s hlt
    rw [Nat.add_mul, Nat.one_mul] at hm
    have h1 := h.2 j hlt
    have cut : ∀ X : List α, ((P ++ X).drop (j * s)).take s = (P.drop (j * s)).take s := fun X => by
      rw [List.drop_append_of_le_length (by omega), List.take_append_of_le_length (by rw [List.length_drop]; omega)]
    rw [cut] at h1 ⊢
    exact h1
  · subst heq
    rw [List.drop_append_of_le_length (by omega), List.drop_of_length_le (by omega), List.nil_append, ← hq]
    rcases hs with hs | ⟨rfl, hs⟩
    · rw [List.take_append_of_le_length (by omega), List.take_of_length_le (by omega)]
    · rw [List.append_nil, List.take_of_length_le (by omega)]
theorem Upto.done {s k : Nat} {l l' : List α} (h : Upto lt s l k l') (hk : l.length ≤ k * s) (hs : 0 < s) : ∀ j, (l'.drop (j * s)).take s = isrt lt ((l.drop (j * s)).take s) := fun j => by
  rcases Nat.lt_or_ge j k with hlt | hge
  · exact h.2 j hlt
  · have : k * s ≤ j * s := Nat.mul_le_mul_right s hge
    rw [List.drop_of_length_le (by rw [h.1]; omega), List.drop_of_length_le (by omega), List.take_nil]; rfl
theorem blocks_one {s : Nat} {l l' : List α} (hl : l'.length = l.length) (h : ∀ j, (l'.drop (j * s)).take s = isrt lt ((l.drop (j * s)).take s)) (hs : l.length ≤ s) : l' = isrt lt l := by
  have := h 0
  rwa [Nat.zero_mul, List.drop_zero, List.drop_zero, List.take_of_length_le (by omega), List.take_of_length_le hs] at this
/-- two neighbouring blocks merged -/
theorem blocks_two (h : Swo lt) {s a : Nat} {l l0 : List α} (h1 : (l0.drop a).take s = isrt lt ((l.drop a).take s)) (h2 : (l0.drop (a + s)).take s = isrt lt ((l.drop (a + s)).take s)) :
    mrg lt ((l0.drop a).take s) ((l0.drop (a + s)).take s) = isrt lt ((l.drop a).take (2 * s)) := by
  rw [h1, h2, isrt_append h]
  congr 1
  rw [show 2 * s = s + s by omega, List.take_add, List.drop_drop]
end Go.Pw
