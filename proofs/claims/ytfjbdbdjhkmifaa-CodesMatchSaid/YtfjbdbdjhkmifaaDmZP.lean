/- Plain: the reference's regions: put together while two touch, then sorted; rows that are written over. -/
import Derived.Test.YtfjbdbdjhkmifaaDmP
import Derived.Test.YtfjbdbdjhkmifaaStabQ
import Derived.Test.YtfjbdbdjhkmifaaHunk
import Derived.Laws.IdiomCopy
import Derived.Laws.OwnMore
set_option linter.unusedVariables false
set_option linter.unusedSimpArgs false
namespace Go.Pw
open Go.RowKit
theorem mrg_perm {α : Type} (lt : α → α → Bool) : ∀ (n : Nat) (l r : List α), l.length + r.length ≤ n → (mrg lt l r).Perm (l ++ r)
  | _, [], r, _ => by rw [mrg_nil_left, List.nil_append]
  | _, x :: l, [], _ => by rw [mrg_nil, List.append_nil]
  | 0, x :: l, y :: r, h => by simp at h
  | n + 1, x :: l, y :: r, h => by
    simp at h
    rw [mrg_cons]
    split
    · have := (mrg_perm lt n (x :: l) r (by simp; omega)).cons y
      exact this.trans (List.perm_middle).symm
    · exact (mrg_perm lt n l (y :: r) (by simp; omega)).cons x
theorem isrt_perm {α : Type} (lt : α → α → Bool) : ∀ l : List α, (isrt lt l).Perm l :=
  snoc_ind (List.Perm.refl _) fun l x ih => by
    rw [isrt_snoc]
    exact (mrg_perm lt _ _ _ (Nat.le_refl _)).trans (ih.append_right [x])
/-- regions are compared by where they begin -/
def ltR (x y : Rg) : Bool := decide (x.1 < y.1)
theorem ltR_swo : Swo ltR := by
  constructor
  · intro a b h; unfold ltR at *; simp only [decide_eq_true_eq, decide_eq_false_iff_not] at *; omega
  · intro a b c h1 h2; unfold ltR at *; simp only [decide_eq_false_iff_not] at *; omega
theorem ltR_sorted {l : List Rg} (h : Srt ltR l) : l.Pairwise fun r q => r.1 ≤ q.1 :=
  List.Pairwise.imp (fun {r q} h => by unfold ltR at h; simp only [decide_eq_false_iff_not] at h; omega) h

/-- the regions while they are put together -/
structure RgSt (L0 L : List Rg) : Prop where
  ok : ∀ r ∈ L, r.1 ≤ r.2
  cov : ∀ t, Cov L t ↔ Cov L0 t
  le : L.length ≤ L0.length
  bd : ∀ r ∈ L, r.2 ≤ 1000
def joinR (L : List Rg) (i k : Nat) (r q : Rg) : List Rg := (L.set i (min r.1 q.1, max r.2 q.2)).eraseIdx k
theorem joinR_len {L : List Rg} {i k : Nat} {r q : Rg} (hk : k < L.length) : (joinR L i k r q).length = L.length - 1 := by
  unfold joinR; rw [List.length_eraseIdx, List.length_set, if_pos hk]
theorem RgSt.join {L0 L : List Rg} {i k : Nat} {r q : Rg} (h : RgSt L0 L) (hik : i < k) (hr : L[i]? = some r) (hq : L[k]? = some q) (ht : Tou r q) : RgSt L0 (joinR L i k r q) := by
  obtain ⟨hi, rfl⟩ := List.getElem?_eq_some_iff.1 hr
  obtain ⟨hk, rfl⟩ := List.getElem?_eq_some_iff.1 hq
  refine ⟨join_ok hik hk h.ok, fun t => (cov_join hik hk ht h.ok t).trans (h.cov t), by rw [joinR_len hk]; have := h.le; omega, fun x hx => ?_⟩
  rcases List.mem_or_eq_of_mem_set (List.mem_of_mem_eraseIdx hx) with hx | hx
  · exact h.bd x hx
  · subst hx
    have := h.bd L[i] (List.getElem_mem _)
    have := h.bd L[k] (List.getElem_mem _)
    show max _ _ ≤ 1000
    omega
/-- the pairs of places ahead of (i, k) do not touch -/
def NoT (L : List Rg) (i k : Nat) : Prop := ∀ i' k' r q, (i' < i ∨ (i' = i ∧ k' < k)) → i' < k' → L[i']? = some r → L[k']? = some q → ¬ Tou r q
theorem NoT.start (L : List Rg) : NoT L 0 1 := fun i' k' r q h1 h2 _ _ => by omega
theorem NoT.step {L : List Rg} {i k : Nat} {r q : Rg} (h : NoT L i k) (hr : L[i]? = some r) (hq : L[k]? = some q) (hn : ¬ Tou r q) : NoT L i (k + 1) := fun i' k' r' q' h1 h2 e1 e2 => by
  by_cases e : i' = i ∧ k' = k
  · obtain ⟨rfl, rfl⟩ := e
    rw [hr] at e1; rw [hq] at e2
    injection e1 with e1; injection e2 with e2
    subst e1 e2; exact hn
  · exact h i' k' r' q' (by omega) h2 e1 e2
theorem NoT.row {L : List Rg} {i k : Nat} (h : NoT L i k) (hk : L.length ≤ k) : NoT L (i + 1) (i + 2) := fun i' k' r' q' h1 h2 e1 e2 => by
  have := (List.getElem?_eq_some_iff.1 e2).1
  exact h i' k' r' q' (by omega) h2 e1 e2
theorem NoT.done {L : List Rg} {i k : Nat} (h : NoT L i k) (hi : L.length ≤ i) : L.Pairwise fun r q => ¬ Tou r q := by
  rw [List.pairwise_iff_getElem]
  intro i' k' h1 h2 h3
  exact h i' k' _ _ (by omega) h3 (List.getElem?_eq_getElem h1) (List.getElem?_eq_getElem h2)
/-- what comes out -/
theorem RgSt.sorted {L0 L : List Rg} (h : RgSt L0 L) (hn : L.Pairwise fun r q => ¬ Tou r q) : Sep (isrt ltR L) ∧ ∀ t, Cov (isrt ltR L) t ↔ Cov L0 t := by
  have hp := isrt_perm ltR L
  refine ⟨sep_of_sorted (fun r hr => h.ok r (hp.mem_iff.1 hr)) (untouched_perm hp.symm hn) (ltR_sorted (isrt_srt ltR_swo L)), fun t => (cov_perm hp t).trans (h.cov t)⟩

/-- a list written over from a place on -/
def setAll (xs : List Value) (o : Nat) : List Value → List Value
  | [] => xs
  | v :: vs => setAll (xs.set o v) (o + 1) vs
theorem setAll_length : ∀ (vs xs : List Value) (o : Nat), (setAll xs o vs).length = xs.length
  | [], xs, o => rfl
  | v :: vs, xs, o => by rw [setAll, setAll_length, List.length_set]
theorem setAll_eq : ∀ (vs xs : List Value) (o : Nat), o + vs.length ≤ xs.length → setAll xs o vs = xs.take o ++ (vs ++ xs.drop (o + vs.length))
  | [], xs, o, _ => by simp [setAll]
  | v :: vs, xs, o, h => by
    simp only [List.length_cons] at h
    rw [setAll, setAll_eq vs _ (o + 1) (by rw [List.length_set]; omega), List.take_succ_eq_append_getElem (by rw [List.length_set]; omega), List.getElem_set_self, List.take_set_of_le (Nat.le_refl _), List.drop_set_of_lt (by omega)]
    simp only [List.append_assoc, List.cons_append, List.nil_append, List.length_cons]
    rw [show o + 1 + vs.length = o + (vs.length + 1) by omega]
theorem own_setCells {e size n cap base g : Nat} : ∀ (vs xs : List Value) (o : Nat) (w : World), w.ownsRow base e size (.slice (some ⟨g, 0, none⟩) n cap) n xs → (w.setCells g o vs).ownsRow base e size (.slice (some ⟨g, 0, none⟩) n cap) n (setAll xs o vs) ∧ (∀ N, N ≤ g → Below N w (w.setCells g o vs)) ∧ (w.setCells g o vs).heap.size = w.heap.size
  | [], xs, o, w, h => ⟨h, fun N _ => Below.refl N w, rfl⟩
  | v :: vs, xs, o, w, h => by
    obtain ⟨a, b, c⟩ := own_setCells vs (xs.set o v) (o + 1) (w.setCell ⟨g, o, none⟩ v) (h.stored o v).1
    exact ⟨a, fun N hN => ((Below.refl N w).setCell (p := ⟨g, o, none⟩) hN v).trans (b N hN), c.trans (by simp [World.setCell])⟩
theorem own_short {w : World} {base e size n n' cap g : Nat} {xs : List Value} (h : w.ownsRow base e size (.slice (some ⟨g, 0, none⟩) n cap) n xs) (hn : n' ≤ n) : w.ownsRow base e size (.slice (some ⟨g, 0, none⟩) n' cap) n' (xs.take (n' * size)) := by
  obtain ⟨hl, h0 | ⟨g', c', cur, hv, hg, hh, hc, hm, hs, ht⟩⟩ := h
  · obtain ⟨h0, _⟩ := h0; cases h0
  · injection hv with e1 e2 e3
    injection e1 with e1
    injection e1 with e1
    subst e1 e3
    have hle : n' * size ≤ n * size := Nat.mul_le_mul_right _ hn
    refine ⟨by rw [List.length_take, hl]; exact Nat.min_eq_left hle, .inr ⟨g, cap, cur, rfl, hg, hh, by omega, hm, hs, ?_⟩⟩
    rw [← ht, List.take_take, Nat.min_eq_left hle]
theorem pairCells_append : ∀ (l m : List Rg), pairCells (l ++ m) = pairCells l ++ pairCells m
  | [], m => rfl
  | x :: l, m => by simp [pairCells, pairCells_append l m]
theorem pairCells_len : ∀ (l : List Rg), (pairCells l).length = l.length * 2
  | [] => rfl
  | x :: l => by simp [pairCells, pairCells_len l]; omega
theorem pairCells_take : ∀ (l : List Rg) (k : Nat), (pairCells l).take (k * 2) = pairCells (l.take k)
  | [], k => by simp [pairCells]
  | x :: l, 0 => by simp [pairCells]
  | x :: l, k + 1 => by
    rw [show (k + 1) * 2 = k * 2 + 1 + 1 by omega]
    simp [pairCells, pairCells_take l k]
theorem pairCells_drop : ∀ (l : List Rg) (k : Nat), (pairCells l).drop (k * 2) = pairCells (l.drop k)
  | [], k => by simp [pairCells]
  | x :: l, 0 => by simp
  | x :: l, k + 1 => by
    rw [show (k + 1) * 2 = k * 2 + 1 + 1 by omega]
    simp [pairCells, pairCells_drop l k]
theorem pairCells_get : ∀ (l : List Rg) (i : Nat) (r : Rg), l[i]? = some r → (pairCells l)[i * 2]? = some (.int .i64 (r.1 : Int)) ∧ (pairCells l)[i * 2 + 1]? = some (.int .i64 (r.2 : Int))
  | x :: l, 0, r, h => by simp at h; subst h; simp [pairCells]
  | x :: l, i + 1, r, h => by
    have := pairCells_get l i r (by simpa using h)
    rw [show (i + 1) * 2 = i * 2 + 1 + 1 by omega]
    simpa [pairCells] using this
  | [], _, _, h => by simp at h
theorem pairCells_set : ∀ (l : List Rg) (i : Nat) (r : Rg), ((pairCells l).set (i * 2) (.int .i64 (r.1 : Int))).set (i * 2 + 1) (.int .i64 (r.2 : Int)) = pairCells (l.set i r)
  | [], i, r => by simp [pairCells]
  | x :: l, 0, r => by simp [pairCells]
  | x :: l, i + 1, r => by
    rw [show (i + 1) * 2 = i * 2 + 1 + 1 by omega]
    simp [pairCells, pairCells_set l i r]
theorem pairCells_one : ∀ (l : List Rg), ∀ u ∈ pairCells l, u.oneCell' = true
  | [], u, h => by simp [pairCells] at h
  | x :: l, u, h => by
    simp only [pairCells, List.mem_cons] at h
    rcases h with rfl | rfl | h
    · rfl
    · rfl
    · exact pairCells_one l u h
/-- one element is cut out: what lies behind it is moved up -/
theorem cut_out (L : List Rg) (k : Nat) (hk : k < L.length) : (setAll (pairCells L) (k * 2) (pairCells (L.drop (k + 1)))).take ((L.length - 1) * 2) = pairCells (L.eraseIdx k) := by
  have h1 : (pairCells (L.drop (k + 1))).length = (L.length - (k + 1)) * 2 := by rw [pairCells_len, List.length_drop]
  rw [setAll_eq _ _ _ (by rw [h1, pairCells_len]; omega), ← List.append_assoc, List.take_append_of_le_length (by rw [List.length_append, List.length_take, h1, pairCells_len]; omega), List.take_of_length_le (by rw [List.length_append, List.length_take, h1, pairCells_len]; omega), pairCells_take, ← pairCells_append, List.eraseIdx_eq_take_drop_succ]
end Go.Pw
