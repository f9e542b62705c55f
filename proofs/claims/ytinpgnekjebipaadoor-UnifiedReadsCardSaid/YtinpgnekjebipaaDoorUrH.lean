/- Plain: the head of a group of hunks: what it may be, and how it is read letter by letter. No program in sight. -/
import Derived.Test.YtinpgnekjebipaaDoorUrP
import Derived.Test.YtinpgnekjebipaaDoorDigQ
import Derived.Test.YtinpgnekjebipaaDoorSplC
import Derived.Lib.AtoiAll
import Derived.Lib.ItoaMem
set_option linter.unusedVariables false
set_option linter.unusedSimpArgs false
namespace Go.Pw
open Go.RowKit
/-- a numeral of at most six digits -/
def Num (l : List UInt8) (n : Nat) : Prop := l.length ≤ 6 ∧ l = Lib.decDigits n
section
variable {l : List UInt8} {n : Nat}
theorem Num.val (h : Num l n) : n = valL l := by rw [h.2]; exact (dec_ok n).2.1.symm
theorem Num.dig (h : Num l n) : DigL l := by rw [h.2]; exact (dec_ok n).1
theorem Num.ne (h : Num l n) : l ≠ [] := by rw [h.2]; exact (dec_ok n).2.2.2
theorem Num.le (h : Num l n) : n ≤ 999999 := by
  have h1 := valL_lt l h.dig
  have h2 : 10 ^ l.length ≤ 10 ^ 6 := Nat.pow_le_pow_right (by decide) h.1
  rw [h.val]
  omega
end
def atH (n m : Nat) : Int := if m = 0 then (n : Int) else (n : Int) - 1
/-- what stands behind a sign -/
def Part (l : List UInt8) (p : Int × Nat) : Prop := (∃ n, Num l n ∧ p = (atH n 1, 1)) ∨ ∃ a b n m, l = a ++ 44 :: b ∧ Num a n ∧ Num b m ∧ p = (atH n m, m)
def HForm (l : List UInt8) (h : Hd) : Prop := ∃ x y p q, l = [64, 64, 32, 45] ++ (x ++ ([32, 43] ++ (y ++ [32, 64, 64]))) ∧ Part x p ∧ Part y q ∧ h = ⟨p.1, p.2, q.1, q.2⟩
theorem Part.bound {l : List UInt8} {p : Int × Nat} (h : Part l p) : -1 ≤ p.1 ∧ p.1 ≤ 999999 ∧ p.2 ≤ 999999 := by
  rcases h with ⟨n, hn, rfl⟩ | ⟨a, b, n, m, _, hn, hm, rfl⟩
  · have := hn.le
    simp [atH]; omega
  · have := hn.le
    have := hm.le
    simp only [atH]; split <;> omega
theorem HForm.ok {l : List UInt8} {h : Hd} (hf : HForm l h) : HdOk h := by
  obtain ⟨x, y, p, q, _, hp, hq, rfl⟩ := hf
  obtain ⟨a1, a2, a3⟩ := hp.bound
  obtain ⟨b1, b2, b3⟩ := hq.bound
  exact ⟨a1, a2, a3, b1, b2, b3⟩

/-- a number, read digit by digit -/
def numR (l : List UInt8) : Option (Nat × List UInt8) :=
  if 6 < (l.takeWhile digB).length then none
  else if l.takeWhile digB = [] then none
  else if (l.takeWhile digB).headD 0 = 48 ∧ (l.takeWhile digB).length ≠ 1 then none
  else some (valL (l.takeWhile digB), l.dropWhile digB)

theorem digBn (c : UInt8) : digB c = true ↔ 48 ≤ c.toNat ∧ c.toNat ≤ 57 := by simp [digB]
theorem DigL.all {l : List UInt8} (h : DigL l) : ∀ c ∈ l, digB c = true := fun c hc => (digBn c).2 (h c hc)
theorem mem_takeW {p : UInt8 → Bool} : ∀ {l : List UInt8} {c : UInt8}, c ∈ l.takeWhile p → p c = true
  | d :: l, c, h => by
    rw [List.takeWhile_cons] at h
    split at h
    · rcases List.mem_cons.1 h with h | h
      · subst h; assumption
      · exact mem_takeW h
    · simp at h
theorem dropW_head {p : UInt8 → Bool} : ∀ {l : List UInt8} {c : UInt8} {t : List UInt8}, l.dropWhile p = c :: t → p c = false
  | d :: l, c, t, h => by
    rw [List.dropWhile_cons] at h
    split at h
    · exact dropW_head h
    · injection h with h1 h2
      subst h1
      simpa using ‹¬ p d = true›
theorem numR_some {l : List UInt8} {n : Nat} {r : List UInt8} (h : numR l = some (n, r)) : ∃ d, l = d ++ r ∧ Num d n ∧ ∀ c t, r = c :: t → digB c = false := by
  unfold numR at h
  split at h
  · cases h
  · split at h
    · cases h
    · split at h
      · cases h
      · rename_i h1 h2 h3
        obtain ⟨rfl, rfl⟩ := Prod.mk.inj (Option.some.inj h)
        have hd : DigL (l.takeWhile digB) := fun c hc => (digBn c).1 (mem_takeW hc)
        refine ⟨_, (List.takeWhile_append_dropWhile).symm, ⟨by omega, ?_⟩, fun c t e => dropW_head e⟩
        rw [← stripZ_dig _ hd h2]
        cases ht : l.takeWhile digB with
        | nil => exact absurd ht h2
        | cons c t =>
          by_cases h48 : c = 48
          · have : (c :: t).length = 1 := by
              rw [ht] at h3
              simp [h48] at h3
              simp [h3]
            cases t with
            | nil => rfl
            | cons _ _ => simp at this
          · have hc := hd c (by rw [ht]; simp)
            exact (stripZ_stop (by
              rintro (e | e)
              · exact h48 e
              · subst e; simp at hc)).symm
theorem takeW_num {d r : List UInt8} (hd : DigL d) (hr : ∀ c t, r = c :: t → digB c = false) : (d ++ r).takeWhile digB = d ∧ (d ++ r).dropWhile digB = r := by
  rw [List.takeWhile_append_of_pos hd.all, List.dropWhile_append_of_pos hd.all]
  cases r with
  | nil => simp
  | cons c t =>
    have := hr c t rfl
    simp [List.takeWhile_cons, List.dropWhile_cons, this]
theorem numR_of {d r : List UInt8} {n : Nat} (hn : Num d n) (hr : ∀ c t, r = c :: t → digB c = false) : numR (d ++ r) = some (n, r) := by
  obtain ⟨e1, e2⟩ := takeW_num hn.dig hr
  have h6 := hn.1
  unfold numR
  rw [e1, e2, if_neg (by omega), if_neg hn.ne, if_neg, ← hn.val]
  rintro ⟨h48, hl⟩
  by_cases h10 : n < 10
  · rw [hn.2, Lib.decDigits_one h10] at hl
    exact hl rfl
  · have hc : Canon d := by rw [hn.2]; exact (dec_ok n).2.2.1 (by omega)
    have hp : 0 < d.length := List.length_pos_iff.2 hn.ne
    refine hc.2 hp ?_
    cases d with
    | nil => exact absurd rfl hn.ne
    | cons c t => exact h48

/-- one half of a head, read letter by letter -/
def halfR (sg l : List UInt8) : Option (Nat × Nat × List UInt8) :=
  if sg.isPrefixOf l then
    match numR (l.drop sg.length) with
    | none => none
    | some (n, r) =>
      if r.headD 0 = 44 then
        match numR (r.drop 1) with
        | none => none
        | some (m, r2) => some (n, m, r2)
      else some (n, 1, r)
  else none
def hdR (l : List UInt8) : Option Hd :=
  match halfR [64, 64, 32, 45] l with
  | none => none
  | some (n, m, r) =>
    match halfR [32, 43] r with
    | none => none
    | some (n', m', r') => if r' = [32, 64, 64] then some ⟨atH n m, m, atH n' m', m'⟩ else none
theorem headD_cons {r : List UInt8} {c : UInt8} (hc : c ≠ 0) (h : r.headD 0 = c) : r = c :: r.drop 1 := by
  cases r with
  | nil => exact absurd h.symm hc
  | cons d t => simp at h; subst h; rfl
theorem halfR_some {sg l r : List UInt8} {n m : Nat} (h : halfR sg l = some (n, m, r)) : ∃ x, l = sg ++ (x ++ r) ∧ Part x (atH n m, m) := by
  unfold halfR at h
  split at h
  · rename_i hp
    obtain ⟨t, rfl⟩ := List.isPrefixOf_iff_prefix.1 hp
    rw [List.drop_left] at h
    split at h
    · cases h
    · rename_i n1 r1 hn
      obtain ⟨d, rfl, hd, _⟩ := numR_some hn
      split at h
      · rename_i h44
        split at h
        · cases h
        · rename_i m1 r2 hm
          obtain ⟨e, he, hem, _⟩ := numR_some hm
          simp only [Option.some.injEq, Prod.mk.injEq] at h
          obtain ⟨rfl, rfl, rfl⟩ := h
          refine ⟨d ++ 44 :: e, ?_, .inr ⟨d, e, n1, m1, rfl, hd, hem, rfl⟩⟩
          rw [headD_cons (by decide) h44, he]
          simp
      · simp only [Option.some.injEq, Prod.mk.injEq] at h
        obtain ⟨rfl, rfl, rfl⟩ := h
        exact ⟨d, rfl, .inl ⟨n1, hd, rfl⟩⟩
  · cases h
theorem halfR_of {sg x r : List UInt8} {p : Int × Nat} (h : Part x p) : ∃ n, halfR sg (sg ++ (x ++ 32 :: r)) = some (n, p.2, 32 :: r) ∧ p.1 = atH n p.2 := by
  have hp : sg.isPrefixOf (sg ++ (x ++ 32 :: r)) = true := List.isPrefixOf_iff_prefix.2 ⟨_, rfl⟩
  unfold halfR
  rw [if_pos hp, List.drop_left]
  rcases h with ⟨n, hn, rfl⟩ | ⟨a, b, n, m, rfl, hn, hm, rfl⟩
  · rw [numR_of hn (fun c t e => by injection e with e1 e2; subst e1; rfl)]
    exact ⟨n, rfl, rfl⟩
  · rw [List.append_assoc, List.cons_append, numR_of hn (fun c t e => by injection e with e1 e2; subst e1; rfl)]
    dsimp only
    rw [if_pos (by rfl)]
    rw [show (44 :: (b ++ 32 :: r)).drop 1 = b ++ 32 :: r from rfl, numR_of hm (fun c t e => by injection e with e1 e2; subst e1; rfl)]
    exact ⟨n, rfl, rfl⟩
theorem hdR_iff (l : List UInt8) (h : Hd) : hdR l = some h ↔ HForm l h := by
  constructor
  · intro e
    unfold hdR at e
    split at e
    · cases e
    · rename_i n m r h1
      split at e
      · cases e
      · rename_i n' m' r' h2
        split at e
        · rename_i h3
          obtain ⟨x, rfl, hx⟩ := halfR_some h1
          obtain ⟨y, rfl, hy⟩ := halfR_some h2
          subst h3
          exact ⟨x, y, _, _, rfl, hx, hy, (Option.some.inj e).symm⟩
        · cases e
  · rintro ⟨x, y, p, q, rfl, hp, hq, rfl⟩
    obtain ⟨n, e1, e2⟩ := halfR_of (sg := [64, 64, 32, 45]) (r := [43] ++ (y ++ [32, 64, 64])) hp
    obtain ⟨n', e3, e4⟩ := halfR_of (sg := [32, 43]) (r := [64, 64]) hq
    unfold hdR
    have e1' : halfR [64, 64, 32, 45] ([64, 64, 32, 45] ++ (x ++ ([32, 43] ++ (y ++ [32, 64, 64])))) = some (n, p.2, [32, 43] ++ (y ++ [32, 64, 64])) := e1
    have e3' : halfR [32, 43] ([32, 43] ++ (y ++ [32, 64, 64])) = some (n', q.2, [32, 64, 64]) := e3
    rw [e1']
    dsimp only
    rw [e3']
    dsimp only
    rw [if_pos rfl, ← e2, ← e4]
theorem form_unique {l : List UInt8} {g h : Hd} (hg : HForm l g) (hh : HForm l h) : g = h := Option.some.inj (((hdR_iff l g).2 hg).symm.trans ((hdR_iff l h).2 hh))

/-- the pieces of a head -/
theorem splC_end {b : UInt8} {x : List UInt8} (h : ∀ c ∈ x, c ≠ b) : splC b [] x = [x] := by
  have := splC_cur b [] [] x h
  simpa [splC] using this
theorem splC_next {b : UInt8} {x y : List UInt8} (h : ∀ c ∈ x, c ≠ b) : splC b [] (x ++ b :: y) = x :: splC b [] y := by
  rw [splC_cur b _ [] x h, splC, if_pos rfl]; rfl
def joinC (b : UInt8) : List (List UInt8) → List UInt8
  | [] => []
  | [x] => x
  | x :: y :: l => x ++ b :: joinC b (y :: l)
theorem splC_ne (b : UInt8) (l cur : List UInt8) : splC b cur l ≠ [] := fun e => by
  have := splC_len b l cur
  rw [e] at this; simp at this
theorem splC_join (b : UInt8) : ∀ (l cur : List UInt8), joinC b (splC b cur l) = cur ++ l
  | [], cur => by simp [splC, joinC]
  | c :: l, cur => by
    rw [splC]
    split
    · rename_i h
      subst h
      have ih := splC_join c l []
      cases he : splC c [] l with
      | nil => exact absurd he (splC_ne _ _ _)
      | cons y t => rw [joinC, ← he, ih]; simp
    · rw [splC_join b l]; simp
theorem DigL.no {l : List UInt8} (h : DigL l) {b : UInt8} (hb : b.toNat < 48) : ∀ c ∈ l, c ≠ b := fun c hc e => by
  have := h c hc
  subst e; omega
theorem Part.no32 {x : List UInt8} {p : Int × Nat} (h : Part x p) : ∀ c ∈ x, c ≠ 32 := by
  rcases h with ⟨n, hn, _⟩ | ⟨a, b, n, m, rfl, hn, hm, _⟩
  · exact hn.dig.no (by decide)
  · intro c hc
    rcases List.mem_append.1 hc with hc | hc
    · exact hn.dig.no (by decide) c hc
    · rcases List.mem_cons.1 hc with hc | hc
      · subst hc; decide
      · exact hm.dig.no (by decide) c hc
theorem HForm.pieces {l : List UInt8} {h : Hd} (hf : HForm l h) : ∃ x y p q, splC 32 [] l = [[64, 64], 45 :: x, 43 :: y, [64, 64]] ∧ Part x p ∧ Part y q ∧ h = ⟨p.1, p.2, q.1, q.2⟩ := by
  obtain ⟨x, y, p, q, rfl, hp, hq, rfl⟩ := hf
  refine ⟨x, y, p, q, ?_, hp, hq, rfl⟩
  have e1 : [64, 64, 32, 45] ++ (x ++ ([32, 43] ++ (y ++ [32, 64, 64]))) = [64, 64] ++ 32 :: ((45 :: x) ++ 32 :: ((43 :: y) ++ 32 :: [64, 64])) := by simp
  rw [e1, splC_next (by decide), splC_next, splC_next, splC_end (by decide)]
  · intro c hc
    rcases List.mem_cons.1 hc with hc | hc
    · subst hc; decide
    · exact hq.no32 c hc
  · intro c hc
    rcases List.mem_cons.1 hc with hc | hc
    · subst hc; decide
    · exact hp.no32 c hc
theorem form_of_pieces {l x y : List UInt8} {p q : Int × Nat} (hs : splC 32 [] l = [[64, 64], 45 :: x, 43 :: y, [64, 64]]) (hp : Part x p) (hq : Part y q) : HForm l ⟨p.1, p.2, q.1, q.2⟩ := by
  refine ⟨x, y, p, q, ?_, hp, hq, rfl⟩
  have := splC_join 32 l []
  rw [hs] at this
  simp [joinC] at this
  rw [← this]
  simp
/-- a part, cut at its first comma -/
theorem part_cut {x a b : List UInt8} (hx : x = a ++ 44 :: b) (ha : ∀ c ∈ a, c ≠ 44) (p : Int × Nat) : Part x p ↔ ∃ n m, Num a n ∧ Num b m ∧ p = (atH n m, m) := by
  subst hx
  constructor
  · rintro (⟨n, hn, rfl⟩ | ⟨a', b', n, m, e, hn, hm, rfl⟩)
    · have := hn.dig.no (b := 44) (by decide) 44 (by simp)
      exact absurd rfl this
    · have h1 := splC_next (b := 44) (y := b) ha
      have h2 := splC_next (b := 44) (y := b') (hn.dig.no (by decide))
      rw [e, h2] at h1
      injection h1 with h3 h4
      subst h3
      have h5 := List.append_cancel_left e
      injection h5 with _ h6
      subst h6
      exact ⟨n, m, hn, hm, rfl⟩
  · rintro ⟨n, m, hn, hm, rfl⟩
    exact .inr ⟨a, b, n, m, rfl, hn, hm, rfl⟩
theorem part_whole {x : List UInt8} (ha : ∀ c ∈ x, c ≠ 44) (p : Int × Nat) : Part x p ↔ ∃ n, Num x n ∧ p = (atH n 1, 1) := by
  constructor
  · rintro (h | ⟨a', b', n, m, rfl, hn, hm, rfl⟩)
    · exact h
    · exact absurd rfl (ha 44 (by simp))
  · exact .inl
/-- strconv.Atoi and back -/
theorem parse_dig : ∀ (l : List UInt8) (acc : Nat), DigL l → acc * 10 ^ l.length + valL l < 18446744073709551610 → Lib.parseUint10 acc l = .ok (acc * 10 ^ l.length + valL l)
  | [], acc, _, _ => by simp [Lib.parseUint10, valL]
  | c :: l, acc, hd, hb => by
    have hc := hd c (by simp)
    have hp := pow_pos10 l.length
    rw [valL, List.length_cons, Nat.pow_succ] at hb
    have e : acc * (10 ^ l.length * 10) = (acc * 10) * 10 ^ l.length := by rw [Nat.mul_comm (10 ^ l.length) 10, Nat.mul_assoc]
    rw [e] at hb
    have e2 : (acc * 10) * 10 ^ l.length + ((c.toNat - 48) * 10 ^ l.length + valL l) = (acc * 10 + (c.toNat - 48)) * 10 ^ l.length + valL l := by rw [Nat.add_mul]; omega
    rw [e2] at hb
    have hle : acc * 10 + (c.toNat - 48) ≤ (acc * 10 + (c.toNat - 48)) * 10 ^ l.length := Nat.le_mul_of_pos_right _ hp
    rw [Lib.parseUint10, if_pos hc, if_neg (by omega), if_neg (by omega), parse_dig l _ (fun x hx => hd x (by simp [hx])) hb]
    rw [valL, List.length_cons, Nat.pow_succ, e, e2]
theorem atoi_num {l : List UInt8} {n : Nat} (h : Num l n) : Lib.atoiAll l = .ok (n : Int) := by
  have hd := h.dig
  have hn := h.le
  have hv := h.val
  cases l with
  | nil => exact absurd rfl h.ne
  | cons c t =>
    have hc := hd c (by simp)
    have h43 : ¬ c.toNat = 43 := by omega
    have h45 : ¬ c.toNat = 45 := by omega
    have hp : Lib.parseMag (c :: t) = .ok n := by
      have hb : 0 * 10 ^ (c :: t).length + valL (c :: t) < 18446744073709551610 := by rw [Nat.zero_mul]; omega
      have hq := parse_dig (c :: t) 0 hd hb
      unfold Lib.parseMag
      rw [if_neg (by simp), hq, hv]
      simp
    unfold Lib.atoiAll
    simp only [h43, h45, or_self, if_false, hp, false_and, not_false_eq_true, true_and]
    rw [if_neg (by omega)]
theorem num_of_atoi {l : List UInt8} {v : Int} (h : Lib.atoiAll l = .ok v) (h6 : l.length ≤ 6) (h0 : 0 ≤ v) (hi : Lib.itoa v = l) : Num l v.toNat := by
  refine ⟨h6, ?_⟩
  have : v = (v.toNat : Int) := by omega
  rw [this, Lib.itoa_nonneg] at hi
  exact hi.symm
end Go.Pw
