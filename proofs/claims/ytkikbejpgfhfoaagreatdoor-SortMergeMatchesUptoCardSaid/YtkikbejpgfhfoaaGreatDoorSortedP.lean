/- Plain: lines in order without those that count as equal; the reference's insertion. -/
import Derived.Test.YtkikbejpgfhfoaaGreatDoorOrdSwo
set_option linter.unusedVariables false
namespace Go.Pw
section
variable {f : ByteArray → ByteArray → Int}
/-- what follows a line that was kept or passed over -/
def cptA (f : ByteArray → ByteArray → Int) : ByteArray → List ByteArray → List ByteArray
  | _, [] => []
  | p, y :: l => if f y p = 0 then cptA f y l else y :: cptA f y l
/-- of lines that follow each other and count as equal the first one -/
def cpt (f : ByteArray → ByteArray → Int) : List ByteArray → List ByteArray
  | [] => []
  | x :: l => x :: cptA f x l
theorem getD_at {α : Type} {l : List α} {i : Nat} {d : α} (h : i < l.length) : l.getD i d = l[i] := by simp [List.getD, h]
theorem cptA_append : ∀ (A : List ByteArray) (q : ByteArray) (B : List ByteArray), cptA f q (A ++ B) = cptA f q A ++ cptA f (A.getLastD q) B
  | [], q, B => rfl
  | a :: A, q, B => by
    rw [List.cons_append, cptA, cptA, cptA_append A a B, List.getLastD_cons]
    split <;> rfl
theorem lastD_at : ∀ (A : List ByteArray) (a : ByteArray), (a :: A)[A.length]'(by simp) = A.getLastD a
  | [], a => rfl
  | b :: A, a => by
    rw [List.getLastD_cons, ← lastD_at A b]; rfl
theorem lastD_mem : ∀ (A : List ByteArray) (a : ByteArray), A.getLastD a ∈ a :: A
  | [], a => by simp
  | b :: A, a => by
    rw [List.getLastD_cons]
    exact List.mem_cons_of_mem _ (lastD_mem A b)
theorem cptA_other {p : ByteArray} : ∀ {B : List ByteArray}, (∀ b ∈ B, f b p ≠ 0) → cptA f p B = cpt f B
  | [], _ => rfl
  | b :: B, h => by rw [cptA, if_neg (h b (by simp)), cpt]
theorem cptA_mem {p z : ByteArray} : ∀ {B : List ByteArray}, z ∈ cptA f p B → z ∈ B
  | [], h => by cases h
  | b :: B, h => by
    rw [cptA] at h
    split at h
    · exact List.mem_cons_of_mem _ (cptA_mem h)
    · rcases List.mem_cons.1 h with rfl | h
      · simp
      · exact List.mem_cons_of_mem _ (cptA_mem h)
theorem cpt_mem {z : ByteArray} : ∀ {B : List ByteArray}, z ∈ cpt f B → z ∈ B
  | [], h => by cases h
  | b :: B, h => by
    rcases List.mem_cons.1 h with rfl | h
    · simp
    · exact List.mem_cons_of_mem _ (cptA_mem h)
theorem cptA_len (p : ByteArray) : ∀ (B : List ByteArray), (cptA f p B).length ≤ B.length
  | [] => Nat.le_refl _
  | b :: B => by
    have := cptA_len b B
    rw [cptA]
    split <;> simp <;> omega
theorem cpt_len (B : List ByteArray) : (cpt f B).length ≤ B.length := by
  cases B with
  | nil => exact Nat.le_refl _
  | cons b B => have := cptA_len (f := f) b B; simp [cpt]; omega
/-- the last one kept counts as equal to the last one -/
theorem cptA_last (h : Cmp3 f) (x : ByteArray) : ∀ (A : List ByteArray) (q : ByteArray), (f x ((cptA f q A).getLastD q) = 0 ↔ f x (A.getLastD q) = 0)
  | [], q => Iff.rfl
  | a :: A, q => by
    have ih := cptA_last h x A a
    rw [List.getLastD_cons, ← ih, cptA]
    by_cases hq : f a q = 0
    · rw [if_pos hq]
      cases cptA f a A with
      | nil =>
        show f x q = 0 ↔ f x a = 0
        have a1 := h.flip x q
        have a2 := h.flip x a
        have a3 := h.flip a q
        have t1 := h.trans x a q
        have t2 := h.trans x q a
        have t3 := h.trans q a x
        have t4 := h.trans a q x
        omega
      | cons b B => rw [List.getLastD_cons, List.getLastD_cons]
    · rw [if_neg hq, List.getLastD_cons]
/-- how many at the end of a list are greater than x -/
def gtEnd (f : ByteArray → ByteArray → Int) (x : ByteArray) (out : List ByteArray) : Nat → Nat
  | 0 => 0
  | i + 1 => if f x (out.getD i ⟨#[]⟩) < 0 then gtEnd f x out i else i + 1
theorem gtEnd_le (x : ByteArray) (out : List ByteArray) : ∀ i, gtEnd f x out i ≤ i
  | 0 => Nat.le_refl _
  | i + 1 => by
    have := gtEnd_le x out i
    rw [gtEnd]; split <;> omega
/-- the reference's insertion -/
def insR (f : ByteArray → ByteArray → Int) (u : Bool) (out : List ByteArray) (x : ByteArray) : List ByteArray :=
  if u = true ∧ 0 < gtEnd f x out out.length ∧ f x (out.getD (gtEnd f x out out.length - 1) ⟨#[]⟩) = 0 then out
  else out.take (gtEnd f x out out.length) ++ x :: out.drop (gtEnd f x out out.length)
def sortR (f : ByteArray → ByteArray → Int) (u : Bool) (l : List ByteArray) : List ByteArray := l.foldl (insR f u) []
theorem gtEnd_parts {x : ByteArray} {A B : List ByteArray} (hA : ∀ a ∈ A, ¬ f x a < 0) (hB : ∀ b ∈ B, f x b < 0) : ∀ k, k ≤ B.length → gtEnd f x (A ++ B) (A.length + k) = A.length
  | 0, _ => by
    cases hl : A.length with
    | zero => rfl
    | succ n =>
      show gtEnd f x (A ++ B) (n + 1) = n + 1
      rw [gtEnd, if_neg]
      rw [getD_at (by rw [List.length_append]; omega), List.getElem_append_left (by omega)]
      exact hA _ (List.getElem_mem _)
  | k + 1, hk => by
    show gtEnd f x (A ++ B) (A.length + k + 1) = A.length
    rw [gtEnd, if_pos, gtEnd_parts hA hB k (by omega)]
    rw [getD_at (by rw [List.length_append]; omega), List.getElem_append_right (by omega)]
    exact hB _ (List.getElem_mem _)
theorem insR_parts {u : Bool} {x : ByteArray} {A B : List ByteArray} (hA : ∀ a ∈ A, ¬ f x a < 0) (hB : ∀ b ∈ B, f x b < 0) :
    insR f u (A ++ B) x = if u = true ∧ 0 < A.length ∧ f x (A.getD (A.length - 1) ⟨#[]⟩) = 0 then A ++ B else A ++ x :: B := by
  have e : gtEnd f x (A ++ B) (A ++ B).length = A.length := by rw [List.length_append]; exact gtEnd_parts hA hB B.length (Nat.le_refl _)
  unfold insR
  rw [e, List.take_left, List.drop_left]
  by_cases h0 : 0 < A.length
  · have e2 : (A ++ B).getD (A.length - 1) ⟨#[]⟩ = A.getD (A.length - 1) ⟨#[]⟩ := by
      rw [getD_at (by rw [List.length_append]; omega), List.getElem_append_left (by omega), getD_at (by omega)]
    rw [e2]
  · rw [if_neg (by omega), if_neg (by omega)]
/-- a list in order, parted at x -/
theorem srt_part (h : Cmp3 f) (x : ByteArray) : ∀ (S : List ByteArray), Srt (ltOf f) S → ∃ A B, S = A ++ B ∧ (∀ a ∈ A, ¬ f x a < 0) ∧ (∀ b ∈ B, f x b < 0)
  | [], _ => ⟨[], [], rfl, by simp, by simp⟩
  | s :: S, hs => by
    obtain ⟨h1, h2⟩ := List.pairwise_cons.1 hs
    by_cases hx : f x s < 0
    · refine ⟨[], s :: S, rfl, by simp, fun b hb => ?_⟩
      rcases List.mem_cons.1 hb with rfl | hb
      · exact hx
      · have a := h1 b hb
        unfold ltOf at a
        simp at a
        have c := h.flip b s
        have t := h.trans x s b
        have d := h.flip x b
        have t2 := h.trans s b x
        have e := h.flip x s
        omega
    · obtain ⟨A, B, rfl, hA, hB⟩ := srt_part h x S h2
      exact ⟨s :: A, B, rfl, fun a ha => by
        rcases List.mem_cons.1 ha with rfl | ha
        · exact hx
        · exact hA a ha, hB⟩
theorem insR_plain (h : Cmp3 f) {S : List ByteArray} (hs : Srt (ltOf f) S) (x : ByteArray) : insR f false S x = mrg (ltOf f) S [x] := by
  obtain ⟨A, B, rfl, hA, hB⟩ := srt_part h x S hs
  rw [insR_parts hA hB, if_neg (by simp), mrg_one_right (ltOf f) (fun a ha => by unfold ltOf; simpa using hA a ha) (fun b hb => by unfold ltOf; simpa using hB b hb)]
theorem cpt_append (A : List ByteArray) (a : ByteArray) (B : List ByteArray) : cpt f (a :: A ++ B) = cpt f (a :: A) ++ cptA f (A.getLastD a) B := by
  rw [List.cons_append, cpt, cpt, cptA_append A a B, List.cons_append]
theorem insR_unique (h : Cmp3 f) {S : List ByteArray} (hs : Srt (ltOf f) S) (x : ByteArray) : insR f true (cpt f S) x = cpt f (mrg (ltOf f) S [x]) := by
  obtain ⟨A, B, rfl, hA, hB⟩ := srt_part h x S hs
  rw [mrg_one_right (ltOf f) (fun a ha => by unfold ltOf; simpa using hA a ha) (fun b hb => by unfold ltOf; simpa using hB b hb)]
  have hxB : ∀ b ∈ B, f b x ≠ 0 := fun b hb => by have := hB b hb; have := h.flip x b; omega
  cases A with
  | nil =>
    rw [List.nil_append, List.nil_append]
    have := insR_parts (f := f) (u := true) (x := x) (A := []) (B := cpt f B) (by simp) (fun b hb => hB b (cpt_mem hb))
    rw [List.nil_append] at this
    rw [this, if_neg (by simp), List.nil_append, cpt, cptA_other hxB]
  | cons a A =>
    have hlB : ∀ b ∈ B, f b (A.getLastD a) ≠ 0 := fun b hb => by
      have q1 := hA _ (lastD_mem A a)
      have q2 := hB b hb
      have q3 := h.flip x b
      have q4 := h.flip x (A.getLastD a)
      have q5 := h.trans x b (A.getLastD a)
      have q6 := h.flip b (A.getLastD a)
      have q7 := h.trans b (A.getLastD a) x
      omega
    rw [cpt_append A a B, cptA_other hlB, cpt_append A a (x :: B), cptA]
    have hcA : ∀ z ∈ cpt f (a :: A), ¬ f x z < 0 := fun z hz => hA z (cpt_mem hz)
    rw [insR_parts hcA (fun b hb => hB b (cpt_mem hb))]
    have hlast : (cpt f (a :: A)).getD ((cpt f (a :: A)).length - 1) ⟨#[]⟩ = (cptA f a A).getLastD a := by
      rw [getD_at (by simp [cpt])]
      simp only [cpt, List.length_cons, Nat.add_sub_cancel]
      exact lastD_at _ a
    have hl := cptA_last h x A a
    rw [hlast]
    by_cases hx : f x (A.getLastD a) = 0
    · rw [if_pos ⟨rfl, by simp [cpt], hl.2 hx⟩, if_pos hx, cptA_other hxB]
    · rw [if_neg (fun q => hx (hl.1 q.2.2)), if_neg hx, cptA_other hxB]
theorem sortR_plain (h : Cmp3 f) : ∀ l : List ByteArray, sortR f false l = isrt (ltOf f) l := by
  refine snoc_ind rfl fun l x ih => ?_
  unfold sortR at ih ⊢
  rw [List.foldl_append, ih, isrt_snoc]
  exact insR_plain h (isrt_srt h.swo l) x
theorem sortR_unique (h : Cmp3 f) : ∀ l : List ByteArray, sortR f true l = cpt f (isrt (ltOf f) l) := by
  refine snoc_ind rfl fun l x ih => ?_
  unfold sortR at ih ⊢
  rw [List.foldl_append, ih, isrt_snoc]
  exact insR_unique h (isrt_srt h.swo l) x
end
end Go.Pw
