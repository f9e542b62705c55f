/- Trees that are exchanged: the selection of the two least ones by exchanges. -/
import Derived.Test.YtfjbdbdjhkmifaaCdS
set_option linter.unusedVariables false
set_option linter.unusedSimpArgs false
namespace Go.Pw
/-- two places are exchanged -/
def swapA {α : Type} (l : List α) (i k : Nat) (x y : α) : List α := (l.set i y).set k x
theorem swapA_len {α : Type} (l : List α) (i k : Nat) (x y : α) : (swapA l i k x y).length = l.length := by simp [swapA]
theorem swapA_at {α : Type} (l : List α) (i k j : Nat) (x y : α) (hi : i < l.length) (hk : k < l.length) : (swapA l i k x y)[j]? = if j = k then some x else if j = i then some y else l[j]? := by
  unfold swapA
  by_cases e1 : j = k
  · subst e1
    rw [if_pos rfl, List.getElem?_set_self (by simpa using hk)]
  · rw [if_neg e1, List.getElem?_set_ne (fun e => e1 e.symm)]
    by_cases e2 : j = i
    · subst e2
      rw [if_pos rfl, List.getElem?_set_self hi]
    · rw [if_neg e2, List.getElem?_set_ne (fun e => e2 e.symm)]
theorem set_perm {α : Type} (x : α) : ∀ (l : List α) (i : Nat) (y : α), l[i]? = some y → (y :: l.set i x).Perm (x :: l)
  | [], i, y, h => by simp at h
  | a :: l, 0, y, h => by
    simp at h; subst h
    exact List.Perm.swap _ _ _
  | a :: l, i + 1, y, h => by
    have := set_perm x l i y (by simpa using h)
    exact (List.Perm.swap _ _ _).trans ((this.cons a).trans (List.Perm.swap _ _ _))
theorem swapA_perm {α : Type} (l : List α) (i k : Nat) (x y : α) (hik : i ≠ k) (hi : l[i]? = some x) (hk : l[k]? = some y) : (swapA l i k x y).Perm l := by
  have h1 := set_perm y l i x hi
  have h2 := set_perm x (l.set i y) k y (by rw [List.getElem?_set_ne hik]; exact hk)
  exact (h2.trans h1).cons_inv
/-- where the selection stands: the first i are the least of what follows, and the i-th one is the least up to k -/
structure Sel (i k : Nat) (xs : List Tr) : Prop where
  pre : ∀ p j x y, p < i → p < j → xs[p]? = some x → xs[j]? = some y → ¬ ltT y x
  cur : ∀ j x y, i < j → j < k → xs[i]? = some x → xs[j]? = some y → ¬ ltT y x
theorem Sel.start (xs : List Tr) : Sel 0 1 xs := ⟨fun p j x y h => by omega, fun j x y h1 h2 => by omega⟩
theorem Sel.stay {i k : Nat} {xs : List Tr} (h : Sel i k xs) {a b : Tr} (ha : xs[i]? = some a) (hb : xs[k]? = some b) (hn : ¬ ltT b a) : Sel i (k + 1) xs :=
  ⟨h.pre, fun j x y h1 h2 hx hy => by
    by_cases e : j = k
    · subst e
      rw [ha] at hx; rw [hb] at hy
      injection hx with hx; injection hy with hy
      subst hx hy; exact hn
    · exact h.cur j x y h1 (by omega) hx hy⟩
theorem Sel.swap {i k : Nat} {xs : List Tr} (h : Sel i k xs) (hik : i < k) {a b : Tr} (ha : xs[i]? = some a) (hb : xs[k]? = some b) (hl : ltT b a) : Sel i (k + 1) (swapA xs i k a b) := by
  have hi := (List.getElem?_eq_some_iff.1 ha).1
  have hk := (List.getElem?_eq_some_iff.1 hb).1
  refine ⟨fun p j x y h1 h2 hx hy => ?_, fun j x y h1 h2 hx hy => ?_⟩
  · rw [swapA_at _ _ _ _ _ _ hi hk] at hx hy
    rw [if_neg (by omega), if_neg (by omega)] at hx
    split at hy
    · injection hy with hy; subst hy
      exact h.pre p i x _ h1 h1 hx ha
    · split at hy
      · injection hy with hy; subst hy
        exact h.pre p k x _ h1 (by omega) hx hb
      · exact h.pre p j x y h1 h2 hx hy
  · rw [swapA_at _ _ _ _ _ _ hi hk] at hx hy
    rw [if_neg (by omega), if_pos rfl] at hx
    injection hx with hx; subst hx
    split at hy
    · injection hy with hy; subst hy
      exact fun e => ltT_asymm e hl
    · rw [if_neg (by omega)] at hy
      exact fun e => h.cur j a y h1 (by omega) ha hy (ltT_trans e hl)
theorem Sel.next {i k : Nat} {xs : List Tr} (h : Sel i k xs) (hk : xs.length ≤ k) : Sel (i + 1) (i + 1 + 1) xs :=
  ⟨fun p j x y h1 h2 hx hy => by
    have hj := (List.getElem?_eq_some_iff.1 hy).1
    by_cases e : p = i
    · subst e; exact h.cur j x y h2 (by omega) hx hy
    · exact h.pre p j x y (by omega) h2 hx hy, fun j x y h1 h2 => by omega⟩
theorem Sel.step {ts xs : List Tr} (hap : Apart ts) (hp : xs.Perm ts) (h : Sel 2 3 xs) {a b : Tr} {r : List Tr} (e : xs = a :: b :: r) : HStep ts (joinT a b :: r) (joinT a b) := by
  subst e
  have hap2 := hap.perm hp.symm
  have la : Least a ([] ++ (b :: r)) := least_of (p := []) (q := b :: r) hap2 fun t ht => by
    obtain ⟨j, hj⟩ := List.getElem?_of_mem ht
    exact h.pre 0 (j + 1) a t (by omega) (by omega) rfl (by simpa using hj)
  have hap3 : Apart ([] ++ b :: r) := Apart.cut (p := []) hap2
  have lb : Least b ([] ++ r) := least_of (p := []) (q := r) hap3 fun t ht => by
    obtain ⟨j, hj⟩ := List.getElem?_of_mem ht
    exact h.pre 1 (j + 2) b t (by omega) (by omega) rfl (by simpa using hj)
  exact ⟨a, b, r, hp.symm, la, lb, rfl, List.Perm.refl _⟩
theorem trCells_set : ∀ (ts : List Tr) (us : List Value) (i : Nat) (t : Tr) (u : Value), i < ts.length → us.length = ts.length →
    trCells (ts.set i t) (us.set i u) = (((trCells ts us).set (i * 3) (.int .i64 (t.w : Int))).set (i * 3 + 1) (.int .i64 (t.l : Int))).set (i * 3 + 2) u
  | [], _, i, _, _, h, _ => by simp at h
  | t :: ts, [], _, _, _, _, e => by simp at e
  | t :: ts, v :: us, 0, t', u', _, _ => by simp [trCells]
  | t :: ts, v :: us, i + 1, t', u', h, e => by
    have := trCells_set ts us i t' u' (by simpa using h) (by simpa using e)
    rw [show (i + 1) * 3 = i * 3 + 1 + 1 + 1 by omega]
    simpa [trCells] using this
/-- three cells are written -/
abbrev put3 (w : World) (g o : Nat) (a b c : Value) : World := ((w.setCell ⟨g, o, none⟩ a).setCell ⟨g, o + 1, none⟩ b).setCell ⟨g, o + 2, none⟩ c
theorem put3_other {w : World} {g x : Nat} (o : Nat) (a b c : Value) (h : x ≠ g) : (put3 w g o a b c).heap[x]? = w.heap[x]? :=
  (heap_setCell_other _ _ _ _ h).trans ((heap_setCell_other _ _ _ _ h).trans (heap_setCell_other _ _ _ _ h))
theorem own_put3 {e base g n cap : Nat} {w : World} {ts : List Tr} {us : List Value} (h : w.ownsRow base e 3 (.slice (some ⟨g, 0, none⟩) n cap) n (trCells ts us)) (hus : us.length = ts.length) (i : Nat) (hi : i < ts.length) (t : Tr) (u : Value) :
    (put3 w g (i * 3) (.int .i64 (t.w : Int)) (.int .i64 (t.l : Int)) u).ownsRow base e 3 (.slice (some ⟨g, 0, none⟩) n cap) n (trCells (ts.set i t) (us.set i u)) := by
  rw [trCells_set _ _ _ _ _ hi hus]
  have := (own_setCells [.int .i64 (t.w : Int), .int .i64 (t.l : Int), u] (trCells ts us) (i * 3) w h).1
  simpa [World.setCells, setAll, put3] using this
end Go.Pw
namespace Go.Proofs.Ytfjbdbdjhkmifaa
open Go.RowKit Go.Pw
theorem tr_swap {T base g n cap : Nat} {w : World} {ts : List Tr} {us : List Value} (hT : T ≠ 3) (hus : us.length = ts.length) (h : w.ownsRow base T 3 (.slice (some ⟨g, 0, none⟩) n cap) n (trCells ts us))
    (hsy : ∀ (i : Nat) (u : Value) (t : Tr), us[i]? = some u → ts[i]? = some t → SyOwn w base u t.sy) {i k : Nat} {a b : Tr} {ua ub : Value} (ha : ts[i]? = some a) (hb : ts[k]? = some b) (hua : us[i]? = some ua) (hub : us[k]? = some ub) (hn : n = ts.length) :
    TrAt (put3 (put3 w g (i * 3) (.int .i64 (b.w : Int)) (.int .i64 (b.l : Int)) ub) g (k * 3) (.int .i64 (a.w : Int)) (.int .i64 (a.l : Int)) ua) T base (.slice (some ⟨g, 0, none⟩) n cap) (swapA ts i k a b) := by
  have hi := (List.getElem?_eq_some_iff.1 ha).1
  have hk := (List.getElem?_eq_some_iff.1 hb).1
  have h1 := own_put3 h hus i hi b ub
  have h2 := own_put3 h1 (by simp [hus]) k (by simpa using hk) a ua
  have hg := own_cellsG h (g := g) rfl
  obtain ⟨cur, hc⟩ := hg
  subst hn
  refine ⟨swapA us i k ua ub, by simp [swapA, hus], by rw [swapA_len]; exact h2, fun j u t e1 e2 => ?_⟩
  have key : ∀ {u : Value} {l : List Nat}, SyOwn w base u l → SyOwn (put3 (put3 w g (i * 3) (.int .i64 (b.w : Int)) (.int .i64 (b.l : Int)) ub) g (k * 3) (.int .i64 (a.w : Int)) (.int .i64 (a.l : Int)) ua) base u l := fun {u l} hs => own_offG hs fun x hx => by
    have hne : x ≠ g := fun e => own_typeG hs hc (by exact hT) (by rw [hx, e])
    exact (put3_other _ _ _ _ hne).trans (put3_other _ _ _ _ hne)
  have e1 := (swapA_at us i k j ua ub (by omega) (by omega)).symm.trans e1
  have e2 := (swapA_at ts i k j a b hi hk).symm.trans e2
  by_cases ej : j = k
  · rw [if_pos ej] at e1 e2
    obtain rfl := Option.some.inj e1
    obtain rfl := Option.some.inj e2
    exact key (hsy i _ _ hua ha)
  · rw [if_neg ej] at e1 e2
    by_cases ej2 : j = i
    · rw [if_pos ej2] at e1 e2
      obtain rfl := Option.some.inj e1
      obtain rfl := Option.some.inj e2
      exact key (hsy k _ _ hub hb)
    · rw [if_neg ej2] at e1 e2
      exact key (hsy j u t e1 e2)
end Go.Proofs.Ytfjbdbdjhkmifaa
