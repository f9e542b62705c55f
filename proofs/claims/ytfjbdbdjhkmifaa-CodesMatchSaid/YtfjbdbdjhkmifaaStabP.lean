/- Plain: a stable sort by insertion and by merging in place, as slices.SortStableFunc does it. -/
import Derived.Test.YtfjbdbdjhkmifaaInsP
set_option linter.unusedVariables false
set_option linter.unusedSimpArgs false
namespace Go.Pw
variable {α : Type}

/-- a strict weak order, as a test -/
structure Swo (lt : α → α → Bool) : Prop where
  asymm : ∀ x y, lt x y = true → lt y x = false
  trans : ∀ x y z, lt y x = false → lt z y = false → lt z x = false
theorem Swo.lt_of_lt_le {lt : α → α → Bool} (h : Swo lt) {c a b : α} (h1 : lt c a = true) (h2 : lt b a = false) : lt c b = true := by
  cases h3 : lt c b
  · have := h.trans a b c h2 h3
    rw [h1] at this; cases this
  · rfl
theorem Swo.lt_of_le_lt {lt : α → α → Bool} (h : Swo lt) {c a b : α} (h1 : lt a c = false) (h2 : lt a b = true) : lt c b = true := by
  cases h3 : lt c b
  · have := h.trans b c a h3 h1
    rw [h2] at this; cases this
  · rfl
theorem Swo.lt_trans {lt : α → α → Bool} (h : Swo lt) {a b c : α} (h1 : lt a b = true) (h2 : lt b c = true) : lt a c = true := h.lt_of_lt_le h1 (h.asymm _ _ h2)
theorem Swo.irrefl {lt : α → α → Bool} (h : Swo lt) (a : α) : lt a a = false := by
  cases h3 : lt a a
  · rfl
  · have := h.asymm _ _ h3
    rw [h3] at this; cases this

/-- two lists merged; of elements that count as equal those of the first come first -/
def mrg (lt : α → α → Bool) : List α → List α → List α
  | [], r => r
  | x :: l, r => mrgR (mrg lt l) x r
where
  /-- x and what follows it, merged with a list -/
  mrgR (rest : List α → List α) (x : α) : List α → List α
    | [] => x :: rest []
    | y :: r => if lt y x then y :: mrgR rest x r else x :: rest (y :: r)
section
variable (lt : α → α → Bool)
theorem mrg_nil_left (r : List α) : mrg lt [] r = r := rfl
theorem mrg_nil : ∀ (l : List α), mrg lt l [] = l
  | [] => rfl
  | x :: l => by rw [mrg, mrg.mrgR, mrg_nil l]
theorem mrg_cons (x y : α) (l r : List α) : mrg lt (x :: l) (y :: r) = if lt y x then y :: mrg lt (x :: l) r else x :: mrg lt l (y :: r) := by
  rw [mrg, mrg.mrgR]; rfl
theorem mrg_length : ∀ (n : Nat) (l r : List α), l.length + r.length ≤ n → (mrg lt l r).length = l.length + r.length := by
  intro n
  induction n with
  | zero =>
    intro l r h
    obtain rfl := List.eq_nil_of_length_eq_zero (show l.length = 0 by omega)
    simp [mrg_nil_left]
  | succ n ih =>
    intro l r h
    cases l with
    | nil => simp [mrg_nil_left]
    | cons x l =>
      cases r with
      | nil => simp [mrg_nil]
      | cons y r =>
        rw [mrg_cons]
        simp only [List.length_cons] at h
        split
        · rw [List.length_cons, ih (x :: l) r (by simp only [List.length_cons]; omega)]; simp only [List.length_cons]; omega
        · rw [List.length_cons, ih l (y :: r) (by simp only [List.length_cons]; omega)]; simp only [List.length_cons]; omega
theorem mrg_len (l r : List α) : (mrg lt l r).length = l.length + r.length := mrg_length lt _ l r (Nat.le_refl _)
theorem mem_mrg : ∀ (n : Nat) (l r : List α) (z : α), l.length + r.length ≤ n → z ∈ mrg lt l r → z ∈ l ∨ z ∈ r := by
  intro n
  induction n with
  | zero =>
    intro l r z h hz
    obtain rfl := List.eq_nil_of_length_eq_zero (show l.length = 0 by omega)
    exact .inr hz
  | succ n ih =>
    intro l r z h hz
    cases l with
    | nil => exact .inr hz
    | cons x l =>
      cases r with
      | nil => rw [mrg_nil] at hz; exact .inl hz
      | cons y r =>
        rw [mrg_cons] at hz
        simp only [List.length_cons] at h
        split at hz
        · rcases List.mem_cons.1 hz with rfl | hz
          · exact .inr (by simp)
          · rcases ih (x :: l) r z (by simp only [List.length_cons]; omega) hz with h1 | h1
            · exact .inl h1
            · exact .inr (List.mem_cons_of_mem _ h1)
        · rcases List.mem_cons.1 hz with rfl | hz
          · exact .inl (by simp)
          · rcases ih l (y :: r) z (by simp only [List.length_cons]; omega) hz with h1 | h1
            · exact .inl (List.mem_cons_of_mem _ h1)
            · exact .inr h1
theorem mrg_mem {l r : List α} {z : α} (h : z ∈ mrg lt l r) : z ∈ l ∨ z ∈ r := mem_mrg lt _ l r z (Nat.le_refl _) h
theorem mrg_split : ∀ (n : Nat) (L1 R1 L2 R2 : List α), L1.length + R1.length ≤ n → (∀ x ∈ L1, ∀ y ∈ R2, lt y x = false) → (∀ x ∈ L2, ∀ y ∈ R1, lt y x = true) → mrg lt (L1 ++ L2) (R1 ++ R2) = mrg lt L1 R1 ++ mrg lt L2 R2 := by
  intro n
  induction n with
  | zero =>
    intro L1 R1 L2 R2 h _ _
    obtain rfl := List.eq_nil_of_length_eq_zero (show L1.length = 0 by omega)
    obtain rfl := List.eq_nil_of_length_eq_zero (show R1.length = 0 by omega)
    rfl
  | succ n ih =>
    intro L1 R1 L2 R2 h h1 h2
    cases L1 with
    | nil =>
      cases R1 with
      | nil => rfl
      | cons y R1 =>
        have i := ih [] R1 L2 R2 (by simp at h ⊢; omega) (by simp) (fun x hx z hz => h2 x hx z (List.mem_cons_of_mem _ hz))
        simp only [List.nil_append, mrg_nil_left, List.cons_append] at i ⊢
        cases L2 with
        | nil => rw [mrg_nil_left] at i ⊢; rw [mrg_nil_left]
        | cons x L2 => rw [mrg_cons, h2 x (by simp) y (by simp), if_pos rfl, i]
    | cons x L1 =>
      cases R1 with
      | nil =>
        have i := ih L1 [] L2 R2 (by simp at h ⊢; omega) (fun z hz => h1 z (List.mem_cons_of_mem _ hz)) (by simp)
        simp only [List.nil_append, mrg_nil, List.cons_append] at i ⊢
        cases R2 with
        | nil => rw [mrg_nil, mrg_nil]
        | cons y R2 => rw [mrg_cons, h1 x (by simp) y (by simp), if_neg (by simp), i]
      | cons y R1 =>
        simp only [List.length_cons] at h
        simp only [List.cons_append, mrg_cons]
        by_cases hxy : lt y x = true
        · have i := ih (x :: L1) R1 L2 R2 (by simp only [List.length_cons]; omega) h1 (fun z hz u hu => h2 z hz u (List.mem_cons_of_mem _ hu))
          simp only [List.cons_append] at i
          rw [if_pos hxy, if_pos hxy, i]; rfl
        · have i := ih L1 (y :: R1) L2 R2 (by simp only [List.length_cons]; omega) (fun z hz => h1 z (List.mem_cons_of_mem _ hz)) h2
          simp only [List.cons_append] at i
          rw [if_neg hxy, if_neg hxy, i]; rfl
theorem mrg_parts {L1 R1 L2 R2 : List α} (h1 : ∀ x ∈ L1, ∀ y ∈ R2, lt y x = false) (h2 : ∀ x ∈ L2, ∀ y ∈ R1, lt y x = true) : mrg lt (L1 ++ L2) (R1 ++ R2) = mrg lt L1 R1 ++ mrg lt L2 R2 :=
  mrg_split lt _ L1 R1 L2 R2 (Nat.le_refl _) h1 h2
/-- one element ahead of a list -/
theorem mrg_one_left {x : α} {R1 R2 : List α} (h1 : ∀ y ∈ R2, lt y x = false) (h2 : ∀ y ∈ R1, lt y x = true) : mrg lt [x] (R1 ++ R2) = R1 ++ x :: R2 := by
  have a := mrg_parts lt (L1 := []) (R1 := R1) (L2 := [x]) (R2 := R2) (by simp) (by simpa using h2)
  have b := mrg_parts lt (L1 := [x]) (R1 := []) (L2 := []) (R2 := R2) (by simpa using h1) (by simp)
  simp only [List.nil_append, mrg_nil_left, List.append_nil, mrg_nil, List.singleton_append] at a b
  rw [a, b]
/-- one element behind a list -/
theorem mrg_one_right {y : α} {L1 L2 : List α} (h1 : ∀ x ∈ L1, lt y x = false) (h2 : ∀ x ∈ L2, lt y x = true) : mrg lt (L1 ++ L2) [y] = L1 ++ y :: L2 := by
  have a := mrg_parts lt (L1 := L1) (R1 := []) (L2 := L2) (R2 := [y]) (by simpa using h1) (by simp)
  have b := mrg_parts lt (L1 := []) (R1 := [y]) (L2 := L2) (R2 := []) (by simp) (by simpa using h2)
  simp only [List.nil_append, mrg_nil_left, List.append_nil, mrg_nil, List.singleton_append] at a b
  rw [a, b]
end
theorem mrg_assoc {lt : α → α → Bool} (h : Swo lt) : ∀ (n : Nat) (A B C : List α), A.length + B.length + C.length ≤ n → mrg lt (mrg lt A B) C = mrg lt A (mrg lt B C) := by
  intro n
  induction n with
  | zero =>
    intro A B C hn
    obtain rfl := List.eq_nil_of_length_eq_zero (show A.length = 0 by omega)
    rfl
  | succ n ih =>
    intro A B C hn
    cases A with
    | nil => rfl
    | cons a A =>
      cases B with
      | nil => rw [mrg_nil, mrg_nil_left]
      | cons b B =>
        cases C with
        | nil => rw [mrg_nil, mrg_nil]
        | cons c C =>
          simp only [List.length_cons] at hn
          have i1 := ih A (b :: B) (c :: C) (by simp only [List.length_cons]; omega)
          have i2 := ih (a :: A) B (c :: C) (by simp only [List.length_cons]; omega)
          have i3 := ih (a :: A) (b :: B) C (by simp only [List.length_cons]; omega)
          rw [mrg_cons lt a b, mrg_cons lt b c]
          by_cases hba : lt b a = true
          · rw [if_pos hba, mrg_cons lt b c]
            by_cases hcb : lt c b = true
            · rw [if_pos hcb, if_pos hcb, mrg_cons lt a c, if_pos (h.lt_trans hcb hba), ← i3, mrg_cons lt a b, if_pos hba]
            · rw [if_neg hcb, if_neg hcb, mrg_cons lt a b, if_pos hba, i2]
          · have hba' : lt b a = false := by simpa using hba
            rw [if_neg hba, mrg_cons lt a c]
            by_cases hcb : lt c b = true
            · by_cases hca : lt c a = true
              · rw [if_pos hca, if_pos hcb, mrg_cons lt a c, if_pos hca, ← i3, mrg_cons lt a b, if_neg hba]
              · rw [if_neg hca, if_pos hcb, mrg_cons lt a c, if_neg hca, i1, mrg_cons lt b c, if_pos hcb]
            · have hca : ¬ lt c a = true := by
                have := h.trans a b c hba' (by simpa using hcb)
                simp [this]
              rw [if_neg hca, if_neg hcb, mrg_cons lt a b, if_neg hba, i1, mrg_cons lt b c, if_neg hcb]
/-- in order -/
def Srt (lt : α → α → Bool) (l : List α) : Prop := l.Pairwise fun x y => lt y x = false
theorem Srt.mrg {lt : α → α → Bool} (h : Swo lt) : ∀ (n : Nat) (A B : List α), A.length + B.length ≤ n → Srt lt A → Srt lt B → Srt lt (Go.Pw.mrg lt A B) := by
  intro n
  induction n with
  | zero =>
    intro A B hn _ hB
    obtain rfl := List.eq_nil_of_length_eq_zero (show A.length = 0 by omega)
    exact hB
  | succ n ih =>
    intro A B hn hA hB
    cases A with
    | nil => exact hB
    | cons a A =>
      cases B with
      | nil => rw [mrg_nil]; exact hA
      | cons b B =>
        simp only [List.length_cons] at hn
        obtain ⟨ha1, ha2⟩ := List.pairwise_cons.1 hA
        obtain ⟨hb1, hb2⟩ := List.pairwise_cons.1 hB
        rw [mrg_cons]
        by_cases hba : lt b a = true
        · rw [if_pos hba]
          refine List.pairwise_cons.2 ⟨fun z hz => ?_, ih (a :: A) B (by simp only [List.length_cons]; omega) hA hb2⟩
          rcases mrg_mem lt hz with hz | hz
          · rcases List.mem_cons.1 hz with rfl | hz
            · exact h.asymm _ _ hba
            · exact h.trans b a z (h.asymm _ _ hba) (ha1 z hz)
          · exact hb1 z hz
        · rw [if_neg hba]
          refine List.pairwise_cons.2 ⟨fun z hz => ?_, ih A (b :: B) (by simp only [List.length_cons]; omega) ha2 hB⟩
          rcases mrg_mem lt hz with hz | hz
          · exact ha1 z hz
          · rcases List.mem_cons.1 hz with rfl | hz
            · simpa using hba
            · exact h.trans a b z (by simpa using hba) (hb1 z hz)
theorem srt_mrg {lt : α → α → Bool} (h : Swo lt) {A B : List α} (hA : Srt lt A) (hB : Srt lt B) : Srt lt (mrg lt A B) := Srt.mrg h _ A B (Nat.le_refl _) hA hB
/-- the stable order of a list -/
def isrt (lt : α → α → Bool) (l : List α) : List α := l.foldl (fun acc x => mrg lt acc [x]) []
theorem isrt_snoc (lt : α → α → Bool) (l : List α) (x : α) : isrt lt (l ++ [x]) = mrg lt (isrt lt l) [x] := by simp [isrt]
theorem snoc_ind {P : List α → Prop} (h0 : P []) (h1 : ∀ l x, P l → P (l ++ [x])) : ∀ l, P l := by
  intro l
  rw [← List.reverse_reverse l]
  induction l.reverse with
  | nil => exact h0
  | cons x m ih => rw [List.reverse_cons]; exact h1 _ _ ih
theorem isrt_len (lt : α → α → Bool) : ∀ l : List α, (isrt lt l).length = l.length := by
  refine snoc_ind rfl fun l x ih => ?_
  rw [isrt_snoc, mrg_len, ih]; simp
theorem isrt_mem {lt : α → α → Bool} {z : α} : ∀ l : List α, z ∈ isrt lt l → z ∈ l := by
  refine snoc_ind (fun h => h) fun l x ih hz => ?_
  rw [isrt_snoc] at hz
  rcases mrg_mem lt hz with hz | hz
  · exact List.mem_append_left _ (ih hz)
  · exact List.mem_append_right _ hz
theorem isrt_srt {lt : α → α → Bool} (h : Swo lt) : ∀ l : List α, Srt lt (isrt lt l) := by
  refine snoc_ind List.Pairwise.nil fun l x ih => ?_
  rw [isrt_snoc]
  exact srt_mrg h ih (List.pairwise_singleton _ _)
theorem isrt_append {lt : α → α → Bool} (h : Swo lt) (A : List α) : ∀ B : List α, mrg lt (isrt lt A) (isrt lt B) = isrt lt (A ++ B) := by
  refine snoc_ind ?_ fun l x ih => ?_
  · rw [List.append_nil]; exact mrg_nil lt _
  · rw [isrt_snoc, ← mrg_assoc h _ _ _ _ (Nat.le_refl _), ih, ← List.append_assoc, isrt_snoc]

/-- an exchange inside a list, written out -/
theorem swapL_mid (A B C : List α) (x y : α) : swapL (A ++ x :: (B ++ y :: C)) A.length (A.length + 1 + B.length) = A ++ y :: (B ++ x :: C) := by
  rw [swapL_eq _ _ _ (by simp) (by simp; omega)]
  have e1 : (A ++ x :: (B ++ y :: C))[A.length]'(by simp) = x := by simp
  have e2 : (A ++ x :: (B ++ y :: C))[A.length + 1 + B.length]'(by simp; omega) = y := by
    rw [List.getElem_append_right (by omega)]
    simp only [show A.length + 1 + B.length - A.length = B.length + 1 by omega, List.getElem_cons_succ]
    simp
  rw [e1, e2, List.set_append_right _ _ (Nat.le_refl _), Nat.sub_self, List.set_cons_zero, List.set_append_right _ _ (by omega),
    show A.length + 1 + B.length - A.length = B.length + 1 by omega, List.set_cons_succ, List.set_append_right _ _ (Nat.le_refl _), Nat.sub_self, List.set_cons_zero]
theorem swapL_comm (l : List α) (i j : Nat) : swapL l i j = swapL l j i := by
  unfold swapL
  cases h1 : l[i]? with
  | none => cases h2 : l[j]? <;> rfl
  | some x =>
    cases h2 : l[j]? with
    | none => rfl
    | some y =>
      by_cases e : i = j
      · subst e
        rw [h1] at h2
        injection h2 with h2
        subst h2; rfl
      · show (l.set i y).set j x = (l.set j x).set i y
        rw [List.set_comm _ _ e]
/-- so many exchanges in a row -/
def swpN (l : List α) (a b : Nat) : Nat → List α
  | 0 => l
  | k + 1 => swapL (swpN l a b k) (a + k) (b + k)
theorem swpN_length (l : List α) (a b : Nat) : ∀ k, (swpN l a b k).length = l.length
  | 0 => rfl
  | k + 1 => by rw [swpN, swapL_length, swpN_length l a b k]
theorem swpN_mem {l : List α} {a b : Nat} {z : α} : ∀ k, z ∈ swpN l a b k → z ∈ l
  | 0, h => h
  | k + 1, h => swpN_mem k (mem_swapL h)
theorem swpN_eq (P X M Y T : List α) (h : X.length = Y.length) : ∀ k, k ≤ X.length →
    swpN (P ++ (X ++ (M ++ (Y ++ T)))) P.length (P.length + X.length + M.length) k = P ++ ((Y.take k ++ X.drop k) ++ (M ++ ((X.take k ++ Y.drop k) ++ T)))
  | 0, _ => by simp [swpN]
  | k + 1, hk => by
    rw [swpN, swpN_eq P X M Y T h k (by omega)]
    have hx : X.drop k = X[k]'(by omega) :: X.drop (k + 1) := List.drop_eq_getElem_cons (by omega)
    have hy : Y.drop k = Y[k]'(by omega) :: Y.drop (k + 1) := List.drop_eq_getElem_cons (by omega)
    have tx : X.take (k + 1) = X.take k ++ [X[k]'(by omega)] := List.take_succ_eq_append_getElem (by omega)
    have ty : Y.take (k + 1) = Y.take k ++ [Y[k]'(by omega)] := List.take_succ_eq_append_getElem (by omega)
    have lx : (X.take k).length = k := by rw [List.length_take]; omega
    have ly : (Y.take k).length = k := by rw [List.length_take]; omega
    have m := swapL_mid (P ++ Y.take k) (X.drop (k + 1) ++ (M ++ X.take k)) (Y.drop (k + 1) ++ T) (X[k]'(by omega)) (Y[k]'(by omega))
    have e1 : (P ++ Y.take k).length = P.length + k := by rw [List.length_append, ly]
    have e2 : P.length + k + 1 + (X.drop (k + 1) ++ (M ++ X.take k)).length = P.length + X.length + M.length + k := by
      rw [List.length_append, List.length_append, lx, List.length_drop]; omega
    rw [e1, e2] at m
    rw [hx, hy, tx, ty]
    have q1 : P ++ ((Y.take k ++ X[k]'(by omega) :: X.drop (k + 1)) ++ (M ++ ((X.take k ++ Y[k]'(by omega) :: Y.drop (k + 1)) ++ T))) = P ++ Y.take k ++ X[k]'(by omega) :: (X.drop (k + 1) ++ (M ++ X.take k) ++ Y[k]'(by omega) :: (Y.drop (k + 1) ++ T)) := by simp only [List.append_assoc, List.cons_append, List.nil_append]
    rw [q1, m]
    simp only [List.append_assoc, List.cons_append, List.nil_append]
theorem swpN_all (P X M Y T : List α) (h : X.length = Y.length) : swpN (P ++ (X ++ (M ++ (Y ++ T)))) P.length (P.length + X.length + M.length) X.length = P ++ (Y ++ (M ++ (X ++ T))) := by
  rw [swpN_eq P X M Y T h _ (Nat.le_refl _)]
  rw [List.take_of_length_le (by omega : Y.length ≤ X.length), List.drop_of_length_le (Nat.le_refl _), List.take_of_length_le (Nat.le_refl _), List.drop_of_length_le (by omega : Y.length ≤ X.length)]
  simp
/-- an element goes right, place by place -/
def riseN (l : List α) (a : Nat) : Nat → List α
  | 0 => l
  | k + 1 => swapL (riseN l a k) (a + k) (a + k + 1)
theorem riseN_eq (P R T : List α) (x : α) : ∀ k, k ≤ R.length → riseN (P ++ x :: (R ++ T)) P.length k = P ++ (R.take k ++ x :: (R.drop k ++ T))
  | 0, _ => by simp [riseN]
  | k + 1, hk => by
    rw [riseN, riseN_eq P R T x k (by omega)]
    have hr : R.drop k = R[k]'(by omega) :: R.drop (k + 1) := List.drop_eq_getElem_cons (by omega)
    have tr : R.take (k + 1) = R.take k ++ [R[k]'(by omega)] := List.take_succ_eq_append_getElem (by omega)
    have lr : (R.take k).length = k := by rw [List.length_take]; omega
    have m := swapL_mid (P ++ R.take k) [] (R.drop (k + 1) ++ T) x (R[k]'(by omega))
    have e1 : (P ++ R.take k).length = P.length + k := by rw [List.length_append, lr]
    rw [e1, List.length_nil, Nat.add_zero] at m
    rw [hr, tr]
    have q1 : P ++ (R.take k ++ x :: (R[k]'(by omega) :: R.drop (k + 1) ++ T)) = P ++ R.take k ++ x :: ([] ++ R[k]'(by omega) :: (R.drop (k + 1) ++ T)) := by simp only [List.append_assoc, List.cons_append, List.nil_append]
    rw [q1, m]
    simp only [List.append_assoc, List.cons_append, List.nil_append]
/-- an element goes left, place by place -/
def fallN (l : List α) (m : Nat) : Nat → List α
  | 0 => l
  | k + 1 => swapL (fallN l m k) (m - k) (m - k - 1)
theorem fallN_eq (P L T : List α) (y : α) : ∀ k, k ≤ L.length → fallN (P ++ (L ++ y :: T)) (P.length + L.length) k = P ++ (L.take (L.length - k) ++ y :: (L.drop (L.length - k) ++ T))
  | 0, _ => by simp [fallN]
  | k + 1, hk => by
    rw [fallN, fallN_eq P L T y k (by omega)]
    have e0 : L.length - k = (L.length - (k + 1)) + 1 := by omega
    have hd : L.drop (L.length - (k + 1)) = L[L.length - (k + 1)]'(by omega) :: L.drop (L.length - k) := by rw [e0]; exact List.drop_eq_getElem_cons (by omega)
    have ht : L.take (L.length - k) = L.take (L.length - (k + 1)) ++ [L[L.length - (k + 1)]'(by omega)] := by rw [e0]; exact List.take_succ_eq_append_getElem (by omega)
    have lt' : (L.take (L.length - (k + 1))).length = L.length - (k + 1) := by rw [List.length_take]; omega
    have m := swapL_mid (P ++ L.take (L.length - (k + 1))) [] (L.drop (L.length - k) ++ T) (L[L.length - (k + 1)]'(by omega)) y
    have e1 : (P ++ L.take (L.length - (k + 1))).length = P.length + L.length - k - 1 := by rw [List.length_append, lt']; omega
    rw [e1, List.length_nil, show P.length + L.length - k - 1 + 1 + 0 = P.length + L.length - k by omega] at m
    rw [swapL_comm, ht, hd]
    have q1 : P ++ (L.take (L.length - (k + 1)) ++ [L[L.length - (k + 1)]'(by omega)] ++ y :: (L.drop (L.length - k) ++ T)) = P ++ L.take (L.length - (k + 1)) ++ L[L.length - (k + 1)]'(by omega) :: ([] ++ y :: (L.drop (L.length - k) ++ T)) := by simp only [List.append_assoc, List.cons_append, List.nil_append]
    rw [q1, m]
    simp only [List.append_assoc, List.cons_append, List.nil_append]
end Go.Pw
