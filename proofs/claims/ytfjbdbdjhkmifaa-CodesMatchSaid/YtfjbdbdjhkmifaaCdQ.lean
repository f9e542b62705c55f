/- Plain: the lengths of codes, and the codes by their lengths. -/
import Derived.Test.YtfjbdbdjhkmifaaCdP
set_option linter.unusedVariables false
set_option linter.unusedSimpArgs false
namespace Go.Pw
section
variable {α : Type}
theorem mrg_single (lt : α → α → Bool) (x : α) (B : List α) (hB : ∀ b, B.head? = some b → lt x b = true) : ∀ A : List α, (∀ a ∈ A, lt x a = false) → mrg lt (A ++ B) [x] = A ++ x :: B
  | [], _ => by
    cases B with
    | nil => rfl
    | cons b B =>
      show mrg lt (b :: B) [x] = _
      rw [mrg_cons, if_pos (hB b rfl), mrg_nil]; rfl
  | a :: A, h => by
    show mrg lt (a :: (A ++ B)) [x] = _
    rw [mrg_cons, if_neg (by rw [h a List.mem_cons_self]; simp), mrg_single lt x B hB A (fun b hb => h b (List.mem_cons_of_mem _ hb))]; rfl
/-- the elements by their keys, from n on, so many -/
def byKey (key : α → Nat) (l : List α) (n m : Nat) : List α := (List.range' n m).flatMap fun k => l.filter fun s => key s == k
theorem mem_byKey {key : α → Nat} {l : List α} {n m : Nat} {x : α} (h : x ∈ byKey key l n m) : x ∈ l ∧ n ≤ key x ∧ key x < n + m := by
  obtain ⟨k, hk, hx⟩ := List.mem_flatMap.1 h
  obtain ⟨h1, h2⟩ := List.mem_filter.1 hx
  have := List.mem_range'_1.1 hk
  have e : key x = k := by simpa using h2
  exact ⟨h1, by omega, by omega⟩
theorem byKey_add (key : α → Nat) (l : List α) (n a b : Nat) : byKey key l n (a + b) = byKey key l n a ++ byKey key l (n + a) b := by
  unfold byKey
  rw [← List.range'_append_1, List.flatMap_append]
theorem byKey_snoc_other (key : α → Nat) (l : List α) (x : α) (n m : Nat) (h : key x < n ∨ n + m ≤ key x) : byKey key (l ++ [x]) n m = byKey key l n m := by
  unfold byKey
  rw [List.flatMap_def, List.flatMap_def, List.map_congr_left]
  intro k hk
  have := List.mem_range'_1.1 hk
  rw [List.filter_append]
  have e : (key x == k) = false := by simp; omega
  simp [e]
theorem byKey_one (key : α → Nat) (l : List α) (n : Nat) : byKey key l n 1 = l.filter fun s => key s == n := by simp [byKey]
/-- the stable sort by a key -/
theorem isrt_byKey (key : α → Nat) (N : Nat) : ∀ l : List α, (∀ x ∈ l, 1 ≤ key x ∧ key x ≤ N) → isrt (fun x y => decide (key x < key y)) l = byKey key l 1 N := by
  refine snoc_ind (fun _ => ?_) fun l x ih h => ?_
  · simp [isrt, byKey]
  · have hx := h x (by simp)
    rw [isrt_snoc, ih (fun y hy => h y (List.mem_append_left _ hy))]
    obtain ⟨a, ha⟩ : ∃ a, a + 1 = key x := ⟨key x - 1, by omega⟩
    obtain ⟨b, hb⟩ : ∃ b, N = a + (1 + b) := ⟨N - (a + 1), by omega⟩
    rw [hb, byKey_add, byKey_add, byKey_add key (l ++ [x]), byKey_add key (l ++ [x]), byKey_snoc_other key l x 1 a (.inr (by omega)), byKey_snoc_other key l x (1 + a + 1) b (.inl (by omega)), byKey_one, byKey_one]
    rw [← List.append_assoc, mrg_single _ x _ (fun y hy => ?_) _ (fun y hy => ?_)]
    · have e : (key x == 1 + a) = true := by simp; omega
      simp [e]
    · have := mem_byKey (List.mem_of_head? hy)
      simp; omega
    · rcases List.mem_append.1 hy with hy | hy
      · have := mem_byKey hy
        simp; omega
      · have := (List.mem_filter.1 hy).2
        simp at this ⊢; omega
theorem mrg_snoc_perm (lt : α → α → Bool) (x : α) : ∀ A : List α, (mrg lt A [x]).Perm (A ++ [x])
  | [] => List.Perm.refl _
  | a :: A => by
    rw [mrg_cons]
    split
    · rw [mrg_nil]
      exact (List.perm_append_singleton x (a :: A)).symm
    · exact (mrg_snoc_perm lt x A).cons a
theorem byKey_perm (key : α → Nat) (N : Nat) (l : List α) (h : ∀ x ∈ l, 1 ≤ key x ∧ key x ≤ N) : (byKey key l 1 N).Perm l := by
  rw [← isrt_byKey key N l h]
  clear h
  revert l
  refine snoc_ind (List.Perm.refl _) fun l x ih => ?_
  rw [isrt_snoc]
  exact (mrg_snoc_perm _ _ _).trans (ih.append_right _)
end
/-- the value of bits, the lowest one first -/
def valR : List UInt8 → Nat
  | [] => 0
  | x :: r => (if x = 49 then 1 else 0) + 2 * valR r
def incR : List UInt8 → List UInt8
  | [] => []
  | x :: r => if x = 49 then 48 :: incR r else 49 :: r
theorem incR_len : ∀ r, (incR r).length = r.length
  | [] => rfl
  | x :: r => by rw [incR]; split <;> simp [incR_len r]
theorem valR_lt : ∀ r, valR r < 2 ^ r.length
  | [] => by simp [valR]
  | x :: r => by
    have := valR_lt r
    rw [valR, List.length_cons, Nat.pow_succ]
    split <;> omega
theorem incR_val : ∀ r, valR r + 1 < 2 ^ r.length → valR (incR r) = valR r + 1
  | [], h => by simp [valR] at h
  | x :: r, h => by
    rw [valR, List.length_cons, Nat.pow_succ] at h
    rw [incR, valR]
    split
    · rename_i e
      rw [if_pos e] at h
      rw [valR, if_neg (by decide), incR_val r (by omega)]; omega
    · rename_i e
      rw [valR, if_pos rfl]; omega
/-- all are the digit 1 -/
def Ones (c : List UInt8) : Prop := ∀ x ∈ c, x = 49
theorem ones_val : ∀ r, Ones r → valR r + 1 = 2 ^ r.length
  | [], _ => rfl
  | x :: r, h => by
    have := ones_val r (fun y hy => h y (List.mem_cons_of_mem _ hy))
    rw [valR, if_pos (h x List.mem_cons_self), List.length_cons, Nat.pow_succ]; omega
theorem ones_rev {c : List UInt8} (h : Ones c) : Ones c.reverse := fun x hx => h x (by simpa using hx)
def incL (c : List UInt8) : List UInt8 := (incR c.reverse).reverse
theorem incL_len (c : List UInt8) : (incL c).length = c.length := by simp [incL, incR_len]
def valC (c : List UInt8) : Nat := valR c.reverse
theorem incR_ones : ∀ (m : Nat) (t : List UInt8), incR (List.replicate m 49 ++ t) = List.replicate m 48 ++ incR t
  | 0, t => by simp
  | m + 1, t => by rw [List.replicate_succ, List.cons_append, incR, if_pos rfl, incR_ones m t]; rfl
theorem incL_at (p : List UInt8) (x : UInt8) (m : Nat) (hx : x ≠ 49) : incL (p ++ x :: List.replicate m 49) = p ++ 49 :: List.replicate m 48 := by
  unfold incL
  rw [List.reverse_append, List.reverse_cons, List.reverse_replicate, List.append_assoc, incR_ones, List.singleton_append, incR, if_neg hx, List.reverse_append, List.reverse_cons, List.reverse_reverse, List.reverse_replicate, List.append_assoc]; rfl
theorem incL_ones (m : Nat) : incL (List.replicate m 49) = List.replicate m 48 := by
  have := incR_ones m []
  rw [List.append_nil] at this
  unfold incL
  rw [List.reverse_replicate, this]; simp [incR]
def padC (c : List UInt8) (n : Nat) : List UInt8 := c ++ List.replicate (n - c.length) 48
theorem padC_len (c : List UInt8) (n : Nat) (h : c.length ≤ n) : (padC c n).length = n := by simp [padC]; omega
theorem valR_zeros : ∀ (m : Nat) (t : List UInt8), valR (List.replicate m 48 ++ t) = 2 ^ m * valR t
  | 0, t => by simp
  | m + 1, t => by
    rw [List.replicate_succ, List.cons_append, valR, if_neg (by decide), valR_zeros m t, Nat.pow_succ]
    rw [Nat.zero_add, Nat.mul_comm (2 ^ m) 2, Nat.mul_assoc]
theorem valC_pad (c : List UInt8) (n : Nat) : valC (padC c n) = 2 ^ (n - c.length) * valC c := by
  unfold valC padC
  rw [List.reverse_append, List.reverse_replicate, valR_zeros]
/-- the code that follows -/
def nextC (c : List UInt8) (n : Nat) : List UInt8 := padC (if c = [] then [] else incL c) n
/-- no code comes behind the last one -/
def NoOver (r : List Nat) : List Nat → List UInt8 → Prop
  | [], _ => True
  | s :: os, c => (c = [] ∨ ¬ Ones c) ∧ NoOver r os (nextC c (r.getD s 0))
theorem noOver_kraft (M : Nat) (r : List Nat) : ∀ (os : List Nat) (c : List UInt8), (∀ s ∈ os, c.length ≤ r.getD s 0 ∧ 1 ≤ r.getD s 0 ∧ r.getD s 0 ≤ M) → os.Pairwise (fun a b => r.getD a 0 ≤ r.getD b 0) →
    (if c = [] then 0 else (valC c + 1) * 2 ^ (M - c.length)) + kr M r os ≤ 2 ^ M → NoOver r os c
  | [], _, _, _, _ => trivial
  | s :: os, c, h1, h2, h3 => by
    obtain ⟨g1, g2, g3⟩ := h1 s List.mem_cons_self
    obtain ⟨p1, p2⟩ := List.pairwise_cons.1 h2
    have hk : kr M r (s :: os) = 2 ^ (M - r.getD s 0) + kr M r os := by simp [kr]
    rw [hk] at h3
    have hpos : 0 < 2 ^ (M - r.getD s 0) := Nat.pos_of_ne_zero (by simp)
    obtain ⟨n, hn⟩ : ∃ n, r.getD s 0 = n := ⟨_, rfl⟩
    rw [hn] at g1 g2 g3 h3 hpos p1
    have hlast : ∀ c', c'.length = n → c' ≠ [] → (valC c' + 1) * 2 ^ (M - n) + kr M r os ≤ 2 ^ M → NoOver r os c' := fun c' e1 e2 e3 =>
      noOver_kraft M r os c' (fun t ht => ⟨by rw [e1]; exact p1 t ht, (h1 t (List.mem_cons_of_mem _ ht)).2⟩) p2 (by rw [if_neg e2, e1]; exact e3)
    by_cases hc : c = []
    · subst hc
      refine ⟨.inl rfl, ?_⟩
      rw [hn]
      have e : nextC [] n = List.replicate n 48 := by simp [nextC, padC]
      rw [e]
      refine hlast _ (by simp) (by intro h; have := congrArg List.length h; simp at this; omega) ?_
      have v : valC (List.replicate n 48) = 0 := by
        have := valR_zeros n []
        rw [List.append_nil] at this
        unfold valC
        rw [List.reverse_replicate, this]; simp [valR]
      rw [v]
      simp at h3 ⊢
      exact h3
    · rw [if_neg hc] at h3
      have hM : 2 ^ M = 2 ^ c.length * 2 ^ (M - c.length) := by rw [← Nat.pow_add]; congr 1; omega
      have hlt : valC c + 1 < 2 ^ c.length := by
        have : (valC c + 1) * 2 ^ (M - c.length) < 2 ^ c.length * 2 ^ (M - c.length) := by rw [← hM]; omega
        exact Nat.lt_of_mul_lt_mul_right this
      refine ⟨.inr (fun ho => ?_), ?_⟩
      · have := ones_val _ (ones_rev ho)
        rw [List.length_reverse] at this
        unfold valC at hlt
        omega
      · rw [hn]
        have hl : (incL c).length = c.length := incL_len c
        have e : nextC c n = padC (incL c) n := by rw [nextC, if_neg hc]
        have hv : valC (incL c) = valC c + 1 := by
          unfold valC incL
          rw [List.reverse_reverse]
          exact incR_val _ (by rw [List.length_reverse]; exact hlt)
        have hlen : (padC (incL c) n).length = n := padC_len _ _ (by rw [hl]; exact g1)
        rw [e]
        refine hlast _ hlen (by intro h; rw [h] at hlen; simp at hlen; omega) ?_
        rw [valC_pad, hl, hv]
        have e2 : 2 ^ (n - c.length) * 2 ^ (M - n) = 2 ^ (M - c.length) := by rw [← Nat.pow_add]; congr 1; omega
        have e3 : (2 ^ (n - c.length) * (valC c + 1) + 1) * 2 ^ (M - n) = (valC c + 1) * 2 ^ (M - c.length) + 2 ^ (M - n) := by
          rw [Nat.add_mul, Nat.one_mul, Nat.mul_comm (2 ^ (n - c.length)), Nat.mul_assoc, e2]
        rw [e3]
        omega
/-- the codes of symbols, in their order -/
def codeRun (r : List Nat) : List Nat → List UInt8 → List ByteArray → List ByteArray
  | [], _, o => o
  | s :: os, c, o => codeRun r os (nextC c (r.getD s 0)) (o.set s ⟨(nextC c (r.getD s 0)).toArray⟩)
/-- the symbols that have a code -/
def coded (r : List Nat) : List Nat := (List.range r.length).filter fun s => decide (0 < r.getD s 0)
/-- in the order of their lengths -/
def ordC (r : List Nat) : List Nat := byKey (fun s => r.getD s 0) (coded r) 1 r.length
def codesL (r : List Nat) : List ByteArray := codeRun r (ordC r) [] (List.replicate r.length ⟨#[]⟩)
/-- lengths that have codes -/
def GoodLens (r : List Nat) : Prop := (∀ s, r.getD s 0 ≤ r.length) ∧ kr r.length r (coded r) ≤ 2 ^ r.length
theorem noOver_good {r : List Nat} (h : GoodLens r) : NoOver r (ordC r) [] := by
  have hm : ∀ s ∈ coded r, 1 ≤ r.getD s 0 ∧ r.getD s 0 ≤ r.length := fun s hs => ⟨of_decide_eq_true (List.mem_filter.1 hs).2, h.1 s⟩
  have hp := byKey_perm (fun s => r.getD s 0) r.length (coded r) hm
  refine noOver_kraft r.length r (ordC r) [] (fun s hs => ⟨Nat.zero_le _, hm s (hp.subset hs)⟩) ?_ ?_
  · have hs := isrt_srt (lt := fun x y => decide (r.getD x 0 < r.getD y 0)) ⟨fun x y h => by simp at h ⊢; omega, fun x y z h1 h2 => by simp at h1 h2 ⊢; omega⟩ (coded r)
    have hb := isrt_byKey (fun s => r.getD s 0) r.length (coded r) hm
    rw [hb] at hs
    exact hs.imp (fun {a b} h => by simpa using h)
  · rw [if_pos rfl, Nat.zero_add, show ordC r = byKey (fun s => r.getD s 0) (coded r) 1 r.length from rfl, kr_perm hp]
    exact h.2
end Go.Pw
