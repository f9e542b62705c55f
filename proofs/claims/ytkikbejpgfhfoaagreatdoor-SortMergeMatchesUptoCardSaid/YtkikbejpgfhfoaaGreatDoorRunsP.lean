/- Plain: many runs merged; lines divided into runs; passes. -/
import Derived.Test.YtkikbejpgfhfoaaGreatDoorStabP
set_option linter.unusedVariables false
set_option linter.unusedSimpArgs false
namespace Go.Pw
variable {α : Type}

/-- all the runs merged -/
def mrgs (lt : α → α → Bool) : List (List α) → List α
  | [] => []
  | r :: rs => mrg lt r (mrgs lt rs)
theorem mrgs_mem {lt : α → α → Bool} {z : α} : ∀ {rs : List (List α)}, z ∈ mrgs lt rs → ∃ r ∈ rs, z ∈ r
  | [], h => by simp [mrgs] at h
  | r :: rs, h => by
    rcases mrg_mem lt h with h | h
    · exact ⟨r, by simp, h⟩
    · obtain ⟨q, h1, h2⟩ := mrgs_mem h
      exact ⟨q, by simp [h1], h2⟩
theorem mrgs_len {lt : α → α → Bool} : ∀ (rs : List (List α)), (mrgs lt rs).length = rs.flatten.length
  | [] => rfl
  | r :: rs => by rw [mrgs, mrg_len, mrgs_len rs, List.flatten_cons, List.length_append]
theorem mrgs_srt {lt : α → α → Bool} (h : Swo lt) : ∀ {rs : List (List α)}, (∀ r ∈ rs, Srt lt r) → Srt lt (mrgs lt rs)
  | [], _ => List.Pairwise.nil
  | r :: rs, hs => srt_mrg h (hs r (by simp)) (mrgs_srt h fun q hq => hs q (by simp [hq]))
theorem mrgs_append {lt : α → α → Bool} (h : Swo lt) : ∀ (A B : List (List α)), mrgs lt (A ++ B) = mrg lt (mrgs lt A) (mrgs lt B)
  | [], B => rfl
  | r :: A, B => by
    show mrg lt r (mrgs lt (A ++ B)) = mrg lt (mrg lt r (mrgs lt A)) (mrgs lt B)
    rw [mrgs_append h A B, mrg_assoc h _ _ _ _ (Nat.le_refl _)]
theorem mrgs_isrt {lt : α → α → Bool} (h : Swo lt) : ∀ (ls : List (List α)), mrgs lt (ls.map (isrt lt)) = isrt lt ls.flatten
  | [] => rfl
  | l :: ls => by
    show mrg lt (isrt lt l) (mrgs lt (ls.map (isrt lt))) = _
    rw [mrgs_isrt h ls, isrt_append h, List.flatten_cons]
theorem mrgs_one (lt : α → α → Bool) (r : List α) : mrgs lt [r] = r := mrg_nil lt r
theorem mrgs_short {lt : α → α → Bool} : ∀ {rs : List (List α)}, rs.length ≤ 1 → mrgs lt rs = rs.flatten
  | [], _ => rfl
  | [r], _ => by rw [mrgs_one]; simp
  | _ :: _ :: _, h => by simp at h

/-- the best of the first runs: the first of those whose head is smallest -/
def Bst (lt : α → α → Bool) (rs : List (List α)) (i : Nat) (b : Int) : Prop :=
  (b = -1 ∧ ∀ j < i, rs[j]?.getD [] = []) ∨
  (∃ k x t, b = (k : Nat) ∧ k < i ∧ rs[k]? = some (x :: t) ∧ (∀ j < k, ∀ y u, rs[j]? = some (y :: u) → lt x y = true) ∧ (∀ j < i, k < j → ∀ y u, rs[j]? = some (y :: u) → lt y x = false))
theorem Bst.start (lt : α → α → Bool) (rs : List (List α)) : Bst lt rs 0 (-1) := .inl ⟨rfl, fun j h => absurd h (by omega)⟩
theorem Bst.empty {lt : α → α → Bool} {rs : List (List α)} {i : Nat} {b : Int} (h : Bst lt rs i b) (he : rs[i]? = some []) : Bst lt rs (i + 1) b := by
  rcases h with ⟨h1, h2⟩ | ⟨k, x, t, h1, h2, h3, h4, h5⟩
  · refine .inl ⟨h1, fun j hj => ?_⟩
    rcases Nat.lt_or_eq_of_le (show j ≤ i by omega) with hlt | rfl
    · exact h2 j hlt
    · rw [he]; rfl
  · refine .inr ⟨k, x, t, h1, by omega, h3, h4, fun j hj hk y u hy => ?_⟩
    rcases Nat.lt_or_eq_of_le (show j ≤ i by omega) with hlt | rfl
    · exact h5 j hlt hk y u hy
    · rw [he] at hy; cases hy
theorem Bst.first {lt : α → α → Bool} {rs : List (List α)} {i : Nat} {b : Int} {x : α} {t : List α} (h : Bst lt rs i b) (hb : b < 0) (he : rs[i]? = some (x :: t)) : Bst lt rs (i + 1) (i : Nat) := by
  rcases h with ⟨h1, h2⟩ | ⟨k, x', t', h1, h2, h3, h4, h5⟩
  · refine .inr ⟨i, x, t, rfl, by omega, he, fun j hj y u hy => ?_, fun j hj hk => absurd hj (by omega)⟩
    have := h2 j hj
    rw [hy] at this; cases this
  · omega
theorem Bst.keep {lt : α → α → Bool} {rs : List (List α)} {i k : Nat} {b : Int} {x y : α} {t u : List α} (h : Bst lt rs i b) (hb : b = (k : Nat)) (hk : rs[k]? = some (y :: u)) (he : rs[i]? = some (x :: t)) (hl : lt x y = false) : Bst lt rs (i + 1) b := by
  rcases h with ⟨h1, h2⟩ | ⟨k', x', t', h1, h2, h3, h4, h5⟩
  · omega
  · obtain rfl : k = k' := by omega
    rw [hk] at h3; injection h3 with h3; injection h3 with h3 h3'; subst h3; subst h3'
    refine .inr ⟨k, y, u, h1, by omega, hk, h4, fun j hj hkj z v hz => ?_⟩
    rcases Nat.lt_or_eq_of_le (show j ≤ i by omega) with hlt | rfl
    · exact h5 j hlt hkj z v hz
    · rw [he] at hz; injection hz with hz; injection hz with hz _; subst hz; exact hl
theorem Bst.take {lt : α → α → Bool} (hw : Swo lt) {rs : List (List α)} {i k : Nat} {b : Int} {x y : α} {t u : List α} (h : Bst lt rs i b) (hb : b = (k : Nat)) (hk : rs[k]? = some (y :: u)) (he : rs[i]? = some (x :: t)) (hl : lt x y = true) : Bst lt rs (i + 1) (i : Nat) := by
  rcases h with ⟨h1, h2⟩ | ⟨k', x', t', h1, h2, h3, h4, h5⟩
  · omega
  · obtain rfl : k = k' := by omega
    rw [hk] at h3; injection h3 with h3; injection h3 with h3 h3'; subst h3; subst h3'
    refine .inr ⟨i, x, t, rfl, by omega, he, fun j hj z v hz => ?_, fun j hj hk => absurd hj (by omega)⟩
    rcases Nat.lt_trichotomy j k with h6 | h6 | h6
    · exact hw.lt_trans hl (h4 j h6 z v hz)
    · subst h6; rw [hk] at hz; injection hz with hz; injection hz with hz _; subst hz; exact hl
    · exact hw.lt_of_lt_le hl (h5 j hj h6 z v hz)
/-- behind the scan: nothing is left -/
theorem Bst.none {lt : α → α → Bool} {rs : List (List α)} {b : Int} (h : Bst lt rs rs.length b) (hb : b < 0) : mrgs lt rs = [] := by
  rcases h with ⟨h1, h2⟩ | ⟨k', x', t', h1, h2, h3, h4, h5⟩
  · have : ∀ qs : List (List α), (∀ r ∈ qs, r = []) → mrgs lt qs = [] := by
      intro qs
      induction qs with
      | nil => intro _; rfl
      | cons q qs ih => intro hq; rw [mrgs, ih fun r hr => hq r (by simp [hr]), hq q (by simp)]; rfl
    refine this rs fun r hr => ?_
    obtain ⟨j, hj, rfl⟩ := List.getElem_of_mem hr
    have := h2 j hj
    rwa [List.getElem?_eq_getElem hj] at this
  · omega
/-- behind the scan: the smallest line comes first -/
theorem Bst.some {lt : α → α → Bool} (hw : Swo lt) {rs : List (List α)} {k : Nat} {b : Int} (h : Bst lt rs rs.length b) (hb : b = (k : Nat)) (hs : ∀ r ∈ rs, Srt lt r) :
    ∃ x t, rs[k]? = some (x :: t) ∧ mrgs lt rs = x :: mrgs lt (rs.set k t) ∧ (∀ r ∈ rs.set k t, Srt lt r) := by
  rcases h with ⟨h1, h2⟩ | ⟨k', x, t, h1, h2, h3, h4, h5⟩
  · omega
  · obtain rfl : k = k' := by omega
    obtain ⟨hk, e⟩ := List.getElem?_eq_some_iff.1 h3
    have c : rs = rs.take k ++ (x :: t) :: rs.drop (k + 1) := by
      rw [← e, List.getElem_cons_drop, List.take_append_drop]
    have hx : Srt lt (x :: t) := hs _ (by rw [c]; simp)
    have hlen : (rs.take k).length = k := by rw [List.length_take]; omega
    have c2 : rs.set k t = rs.take k ++ t :: rs.drop (k + 1) := by
      rw [List.set_eq_take_append_cons_drop, if_pos hk]
    refine ⟨x, t, h3, ?_, ?_⟩
    · rw [c2]
      conv => lhs; rw [c]
      rw [mrgs_append hw, mrgs_append hw, mrgs, mrgs]
      have a1 : mrg lt (x :: t) (mrgs lt (rs.drop (k + 1))) = x :: mrg lt t (mrgs lt (rs.drop (k + 1))) := by
        cases hm : mrgs lt (rs.drop (k + 1)) with
        | nil => rw [mrg_nil, mrg_nil]
        | cons z v =>
          rw [mrg_cons, if_neg]
          obtain ⟨r, hr, hz⟩ := mrgs_mem (show z ∈ mrgs lt (rs.drop (k + 1)) by rw [hm]; simp)
          obtain ⟨j, hj, rfl⟩ := List.getElem_of_mem hr
          rw [List.length_drop] at hj
          rw [List.getElem_drop] at hz
          have hrj : Srt lt (rs[k + 1 + j]'(by omega)) := hs _ (List.getElem_mem _)
          have hq : rs[k + 1 + j]? = Option.some (rs[k + 1 + j]'(by omega)) := List.getElem?_eq_getElem _
          generalize rs[k + 1 + j]'(by omega) = q at hz hrj hq
          cases q with
          | nil => cases hz
          | cons y u =>
            have h6 := h5 (k + 1 + j) (by omega) (by omega) y u hq
            rcases List.mem_cons.1 hz with rfl | hz
            · simp [h6]
            · have h7 := (List.pairwise_cons.1 hrj).1 z hz
              simp [hw.trans _ _ _ h6 h7]
      rw [a1]
      cases hm : mrgs lt (rs.take k) with
      | nil => rfl
      | cons z v =>
        rw [mrg_cons, if_pos]
        obtain ⟨r, hr, hz⟩ := mrgs_mem (show z ∈ mrgs lt (rs.take k) by rw [hm]; simp)
        obtain ⟨j, hj, rfl⟩ := List.getElem_of_mem hr
        rw [hlen] at hj
        rw [List.getElem_take] at hz
        have hrj : Srt lt (rs[j]'(by omega)) := hs _ (List.getElem_mem _)
        have hq : rs[j]? = Option.some (rs[j]'(by omega)) := List.getElem?_eq_getElem _
        generalize rs[j]'(by omega) = q at hz hrj hq
        cases q with
        | nil => cases hz
        | cons y u =>
          have h6 := h4 j hj y u hq
          rcases List.mem_cons.1 hz with rfl | hz
          · exact h6
          · exact hw.lt_of_lt_le h6 ((List.pairwise_cons.1 hrj).1 z hz)
    · intro r hr
      rw [c2] at hr
      rcases List.mem_append.1 hr with hr | hr
      · exact hs r (List.mem_of_mem_take hr)
      · rcases List.mem_cons.1 hr with rfl | hr
        · exact (List.pairwise_cons.1 hx).2
        · exact hs r (List.mem_of_mem_drop hr)

/-- chunks of a list -/
def chk (n : Nat) : Nat → List α → List (List α)
  | 0, _ => []
  | k + 1, l => if l.length = 0 then [] else l.take n :: chk n k (l.drop n)
theorem chk_flat {n : Nat} (hn : 0 < n) : ∀ (k : Nat) (l : List α), l.length ≤ k → (chk n k l).flatten = l
  | 0, l, h => by rw [List.eq_nil_of_length_eq_zero (by omega : l.length = 0)]; rfl
  | k + 1, l, h => by
    rw [chk]
    split
    · rename_i h0; rw [List.eq_nil_of_length_eq_zero h0]; rfl
    · rw [List.flatten_cons, chk_flat hn k _ (by rw [List.length_drop]; omega), List.take_append_drop]
theorem chk_mem {n : Nat} : ∀ (k : Nat) (l : List α) {c : List α}, c ∈ chk n k l → ∀ z ∈ c, z ∈ l
  | 0, l, c, h => by cases h
  | k + 1, l, c, h => by
    intro z hz
    rw [chk] at h
    split at h
    · cases h
    · rcases List.mem_cons.1 h with rfl | h
      · exact List.mem_of_mem_take hz
      · exact List.mem_of_mem_drop (chk_mem k _ h z hz)
/-- how many chunks -/
def cnt (n : Nat) : Nat → Nat → Nat
  | 0, _ => 0
  | k + 1, l => if l = 0 then 0 else cnt n k (l - n) + 1
theorem chk_len {n : Nat} : ∀ (k : Nat) (l : List α), (chk n k l).length = cnt n k l.length
  | 0, l => rfl
  | k + 1, l => by
    rw [chk, cnt]
    split <;> rename_i h
    · rfl
    · rw [List.length_cons, chk_len k, List.length_drop]
theorem cnt_eq {n : Nat} (hn : 0 < n) : ∀ (k l : Nat), l ≤ k → cnt n k l = (l + n - 1) / n
  | 0, l, h => by
    obtain rfl : l = 0 := by omega
    rw [cnt, Nat.div_eq_of_lt (by omega)]
  | k + 1, l, h => by
    rw [cnt]
    split
    · rename_i h0; subst h0; rw [Nat.div_eq_of_lt (by omega)]
    · rw [cnt_eq hn k _ (by omega)]
      by_cases h1 : l ≤ n
      · rw [show l - n + n - 1 = n - 1 by omega, Nat.div_eq_of_lt (by omega), show l + n - 1 = (l - 1) + n by omega, Nat.add_div_right _ hn, Nat.div_eq_of_lt (by omega)]
      · rw [show l + n - 1 = (l - n + n - 1) + n by omega, Nat.add_div_right _ hn]
theorem mrgs_chk {lt : α → α → Bool} (h : Swo lt) {n : Nat} (hn : 0 < n) : ∀ (k : Nat) (rs : List (List α)), rs.length ≤ k → mrgs lt ((chk n k rs).map (mrgs lt)) = mrgs lt rs
  | 0, rs, hk => by rw [List.eq_nil_of_length_eq_zero (by omega : rs.length = 0)]; rfl
  | k + 1, rs, hk => by
    rw [chk]
    split
    · rename_i h0; rw [List.eq_nil_of_length_eq_zero h0]; rfl
    · rw [List.map_cons, mrgs, mrgs_chk h hn k _ (by rw [List.length_drop]; omega), ← mrgs_append h, List.take_append_drop]
/-- one pass -/
def passL (lt : α → α → Bool) (n : Nat) (rs : List (List α)) : List (List α) := (chk n rs.length rs).map (mrgs lt)
theorem passL_mrgs {lt : α → α → Bool} (h : Swo lt) {n : Nat} (hn : 0 < n) (rs : List (List α)) : mrgs lt (passL lt n rs) = mrgs lt rs := mrgs_chk h hn _ _ (Nat.le_refl _)
theorem passL_srt {lt : α → α → Bool} (h : Swo lt) {n : Nat} {rs : List (List α)} (hs : ∀ r ∈ rs, Srt lt r) : ∀ r ∈ passL lt n rs, Srt lt r := by
  intro r hr
  obtain ⟨c, hc, rfl⟩ := List.mem_map.1 hr
  exact mrgs_srt h fun q hq => hs q (chk_mem _ _ hc q hq)
theorem passL_len {lt : α → α → Bool} {n : Nat} (hn : 0 < n) (rs : List (List α)) : (passL lt n rs).length = (rs.length + n - 1) / n := by
  rw [passL, List.length_map, chk_len, cnt_eq hn _ _ (Nat.le_refl _)]
/-- how many passes -/
def pasN (n : Nat) : Nat → Nat → Nat
  | 0, _ => 0
  | k + 1, r => if r ≤ 1 then 0 else pasN n k ((r + n - 1) / n) + 1
theorem less_div {n r : Nat} (hn : 2 ≤ n) (hr : 1 < r) : (r + n - 1) / n < r := by
  rw [Nat.div_lt_iff_lt_mul (by omega)]
  have := Nat.mul_le_mul_left r hn
  have h2 : n * (r - 1) ≥ 2 * (r - 1) := Nat.mul_le_mul_right _ hn
  have h3 : r * n = n * (r - 1) + n := by
    rw [Nat.mul_comm r n]
    conv => lhs; rw [show r = (r - 1) + 1 by omega, Nat.mul_add, Nat.mul_one]
  omega
theorem pasN_fuel {n : Nat} (hn : 2 ≤ n) : ∀ (k j r : Nat), r ≤ k → r ≤ j → pasN n k r = pasN n j r
  | 0, 0, r, _, _ => rfl
  | 0, j + 1, r, h1, _ => by
    obtain rfl : r = 0 := by omega
    rw [pasN, pasN, if_pos (by omega)]
  | k + 1, 0, r, _, h2 => by
    obtain rfl : r = 0 := by omega
    rw [pasN, pasN, if_pos (by omega)]
  | k + 1, j + 1, r, h1, h2 => by
    rw [pasN, pasN]
    split
    · rfl
    · rename_i h0
      have := less_div hn (show 1 < r by omega)
      rw [pasN_fuel hn k j _ (by omega) (by omega)]
/-- the passes that so many runs ask for -/
def pas (n r : Nat) : Nat := pasN n r r
theorem pas_done {n r : Nat} (h : r ≤ 1) : pas n r = 0 := by
  unfold pas
  cases r with
  | zero => rfl
  | succ r => rw [pasN, if_pos h]
theorem pas_step {n r : Nat} (hn : 2 ≤ n) (h : 1 < r) : pas n r = pas n ((r + n - 1) / n) + 1 := by
  have h1 := less_div hn h
  unfold pas
  cases r with
  | zero => omega
  | succ r => rw [pasN, if_neg (by omega), pasN_fuel hn r ((r + 1 + n - 1) / n) _ (by omega) (Nat.le_refl _)]
theorem pas_le {n : Nat} (hn : 2 ≤ n) : ∀ (k r : Nat), r ≤ k → pas n r ≤ r
  | 0, r, h => by rw [pas_done (by omega)]; omega
  | k + 1, r, h => by
    by_cases h1 : r ≤ 1
    · rw [pas_done h1]; omega
    · have h2 := less_div hn (show 1 < r by omega)
      rw [pas_step hn (by omega)]
      have := pas_le hn k ((r + n - 1) / n) (by omega)
      omega

/-- lines divided into runs: the runs so far and the room that is left -/
def dvd1 (size : α → Nat) (memory : Int) (st : List (List α) × Int) (s : α) : List (List α) × Int :=
  if st.1.length = 0 ∨ ((size s : Int) + 1 > st.2) then (st.1 ++ [[s]], memory - ((size s : Int) + 1)) else (st.1.set (st.1.length - 1) (st.1.getLastD [] ++ [s]), st.2 - ((size s : Int) + 1))
def dvd (size : α → Nat) (memory : Int) (l : List α) : List (List α) × Int := l.foldl (dvd1 size memory) ([], 0)
theorem dvd_snoc (size : α → Nat) (memory : Int) (l : List α) (s : α) : dvd size memory (l ++ [s]) = dvd1 size memory (dvd size memory l) s := by simp [dvd]
theorem set_last (l : List (List α)) (r : List α) (h : l.length ≠ 0) : l.set (l.length - 1) r = l.dropLast ++ [r] := by
  rcases List.eq_nil_or_concat l with rfl | ⟨q, x, rfl⟩
  · simp at h
  · simp
theorem dvd_flat (size : α → Nat) (memory : Int) : ∀ l : List α, (dvd size memory l).1.flatten = l := by
  refine snoc_ind rfl fun l x ih => ?_
  rw [dvd_snoc, dvd1]
  split
  · simp [ih]
  · rename_i h
    rw [not_or] at h
    rw [set_last _ _ h.1]
    rcases List.eq_nil_or_concat (dvd size memory l).1 with h1 | ⟨q, y, h1⟩
    · rw [h1] at h; simp at h
    · rw [h1] at ih ⊢
      simp at ih ⊢
      rw [← ih]
      simp
/-- the reference's count of the runs: runs and what is used -/
def cnt1 (size : α → Nat) (memory : Int) (st : Nat × Int) (s : α) : Nat × Int :=
  if st.1 = 0 ∨ st.2 + ((size s : Int) + 1) > memory then (st.1 + 1, (size s : Int) + 1) else (st.1, st.2 + ((size s : Int) + 1))
theorem dvd_count (size : α → Nat) (memory : Int) : ∀ l : List α, let c := l.foldl (cnt1 size memory) (0, 0); (dvd size memory l).1.length = c.1 ∧ (c.1 = 0 ∨ (dvd size memory l).2 = memory - c.2) := by
  refine snoc_ind ⟨rfl, .inl rfl⟩ fun l x ih => ?_
  simp only [List.foldl_append, List.foldl_cons, List.foldl_nil] at ih ⊢
  generalize l.foldl (cnt1 size memory) (0, 0) = c at ih ⊢
  rw [dvd_snoc, dvd1, cnt1]
  obtain ⟨h1, h2⟩ := ih
  by_cases hc : c.1 = 0 ∨ c.2 + ((size x : Int) + 1) > memory
  · have hd : (dvd size memory l).1.length = 0 ∨ (size x : Int) + 1 > (dvd size memory l).2 := by
      rcases hc with hc | hc
      · exact .inl (by omega)
      · rcases h2 with h2 | h2
        · exact .inl (by omega)
        · exact .inr (by omega)
    rw [if_pos hc, if_pos hd]
    refine ⟨by simp [h1], .inr rfl⟩
  · have hd : ¬ ((dvd size memory l).1.length = 0 ∨ (size x : Int) + 1 > (dvd size memory l).2) := by
      rw [not_or] at hc ⊢
      rcases h2 with h2 | h2
      · exact absurd h2 hc.1
      · exact ⟨by omega, by omega⟩
    rw [if_neg hc, if_neg hd]
    refine ⟨by simp [h1], .inr ?_⟩
    rw [not_or] at hc
    rcases h2 with h2 | h2
    · exact absurd h2 hc.1
    · simp only []; omega
end Go.Pw
