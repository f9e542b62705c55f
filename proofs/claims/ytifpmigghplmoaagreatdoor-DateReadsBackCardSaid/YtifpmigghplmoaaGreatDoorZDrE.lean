/- A time is read along a format: the program's reader: result. -/
import Derived.Test.YtifpmigghplmoaaGreatDoorZDrD
import Derived.Test.YtifpmigghplmoaaGreatDoorDateC
import Derived.Test.YtifpmigghplmoaaGreatDoorShelf3
/- DReadL -/
set_option linter.unusedVariables false
set_option linter.unusedSimpArgs false
namespace Go.Proofs.YtifpmigghplmoaaGreatDoor
open Go.RowKit Go.Pw Go.Shelf
/-- is what was noted a time of day on a day -/
def okH (hs : List (UInt8 × Int)) : Bool := dayB (lastH hs 89 1970) (lastH hs 109 1) (lastH hs 100 1) && decide (lastH hs 72 0 ≤ 23) && decide (lastH hs 77 0 ≤ 59) && decide (lastH hs 83 0 ≤ 59)
def secH (hs : List (UInt8 × Int)) : Int := 86400 * dn (lastH hs 89 1970) (lastH hs 109 1).toNat (lastH hs 100 1) + 3600 * lastH hs 72 0 + 60 * lastH hs 77 0 + lastH hs 83 0
/-- what is noted lies in bounds -/
def NoteOk (hs : List (UInt8 × Int)) : Prop := ∀ p ∈ hs, p.1 ∈ noteLs ∧ (p.1 ≠ 115 → 0 ≤ p.2 ∧ p.2 ≤ 1000000) ∧ -9223372036854775808 ≤ p.2 ∧ p.2 ≤ 9223372036854775807
theorem lastH_in {P : Int → Prop} {hs : List (UInt8 × Int)} {l : UInt8} {d : Int} (hd : P d) (h : ∀ p ∈ hs, p.1 = l → P p.2) : P (lastH hs l d) := by
  unfold lastH
  induction hs generalizing d with
  | nil => exact hd
  | cons p r ih =>
    rw [List.foldl_cons]
    refine ih ?_ (fun q hq => h q (List.mem_cons_of_mem _ hq))
    by_cases e : p.1 = l
    · rw [if_pos e]; exact h p List.mem_cons_self e
    · rw [if_neg e]; exact hd
theorem NoteOk.last {hs : List (UInt8 × Int)} (h : NoteOk hs) {l : UInt8} (hl : l ≠ 115) {d : Int} (hd : 0 ≤ d ∧ d ≤ 1000000) : 0 ≤ lastH hs l d ∧ lastH hs l d ≤ 1000000 :=
  lastH_in (P := fun v => 0 ≤ v ∧ v ≤ 1000000) hd (fun p hp e => (h p hp).2.1 (by rw [e]; exact hl))
theorem NoteOk.last64 {hs : List (UInt8 × Int)} (h : NoteOk hs) {l : UInt8} {d : Int} (hd : -9223372036854775808 ≤ d ∧ d ≤ 9223372036854775807) : -9223372036854775808 ≤ lastH hs l d ∧ lastH hs l d ≤ 9223372036854775807 :=
  lastH_in (P := fun v => -9223372036854775808 ≤ v ∧ v ≤ 9223372036854775807) hd (fun p hp e => (h p hp).2.2)
theorem dayB_in {y m d : Int} (h : dayB y m d = true) : 1 ≤ y ∧ y ≤ 9999 ∧ 1 ≤ m ∧ m ≤ 12 ∧ 1 ≤ d ∧ d ≤ mdays y m.toNat := by
  unfold dayB at h
  simp only [Bool.and_eq_true, decide_eq_true_eq] at h
  exact ⟨h.1.1.1, h.1.1.2, h.1.2.1, h.1.2.2, h.2.1, h.2.2⟩
end Go.Proofs.YtifpmigghplmoaaGreatDoor

/- DReadN -/
set_option linter.unusedVariables false
namespace Go.Pw
open Go.RowKit
theorem mkB_data (l : List UInt8) : (mkB l).data.toList = l := by unfold mkB; simp
theorem nil_mkB (l : List UInt8) : (⟨#[]⟩ : ByteArray) ++ mkB l = mkB l := by
  have e : ((⟨#[]⟩ : ByteArray) ++ mkB l).data.toList = l := by simp [mkB]
  rw [← mkB_list ((⟨#[]⟩ : ByteArray) ++ mkB l), e]
/-- a part that was read, and its bounds -/
def ItIn (i : It) : Prop := ItGood i.c i ∧ i.c ∈ oneLetters ∧ (i.c ≠ 115 → 0 ≤ i.n ∧ i.n ≤ 10000)
theorem rd1_in {T : List UInt8} {c : UInt8} {a a' : Nat} {its : List It} (hc : c ∈ oneLetters) (h : rd1 T c a = .inr (a', its)) : ∀ i ∈ its, ItIn i := by
  obtain ⟨g1, g2, g3⟩ := rd1_ok hc h
  intro i hi
  obtain ⟨k1, k2, k3, k4⟩ := g2 i hi
  subst k4
  refine ⟨⟨k1, k2, k3, rfl⟩, hc, fun hne => ?_⟩
  have num : ∀ (c : UInt8) (m : Nat), 0 < m → m ≤ 4 → (c ∈ numLetters ∨ c = 117 ∨ c = 101) → rdNum T c a a m = .inr (a', its) → 0 ≤ i.n ∧ i.n ≤ 10000 := by
    intro c m hm hm4 hc h
    obtain ⟨h1, h2, h3, h4⟩ := rdNum_ok hm hc h
    obtain ⟨q1, q2, q3, q4⟩ := h3 i hi
    have hp : (10 : Int) ^ m ≤ 10000 := by
      match m, hm4 with
      | 0, _ | 1, _ | 2, _ | 3, _ | 4, _ => decide
    omega
  have nm : ∀ (c : UInt8) (names : List (List UInt8)), (∀ s ∈ names, s.length = 3) → names.length ≤ 12 → rdName names T c a = .inr (a', its) → 0 ≤ i.n ∧ i.n ≤ 10000 := by
    intro c names hn hl h
    unfold rdName at h
    by_cases h1 : hasP names T a 1 = false
    · rw [if_pos h1] at h; cases h
    · rw [if_neg h1] at h
      by_cases h2 : hasP names T a 2 = false
      · rw [if_pos h2] at h; cases h
      · rw [if_neg h2] at h
        by_cases h3 : hasP names T a 3 = false
        · rw [if_pos h3] at h; cases h
        · rw [if_neg h3] at h
          simp only [Sum.inr.injEq, Prod.mk.injEq] at h
          obtain ⟨rfl, rfl⟩ := h
          obtain ⟨k1, k2, k3⟩ := mem_take3 hn (by simpa using h3)
          obtain rfl := List.mem_singleton.1 hi
          simp only; omega
  obtain ⟨c, hcc⟩ : ∃ c, i.c = c := ⟨_, rfl⟩
  rw [hcc] at hc h hne
  unfold oneLetters at hc
  simp only [List.mem_cons, List.not_mem_nil, or_false] at hc
  rcases hc with rfl | rfl | rfl | rfl | rfl | rfl | rfl | rfl | rfl | rfl | rfl | rfl | rfl
  · exact num 89 4 (by omega) (by omega) (.inl (by decide)) (by simpa [rd1] using h)
  · exact num 121 2 (by omega) (by omega) (.inl (by decide)) (by simpa [rd1] using h)
  · exact num 109 2 (by omega) (by omega) (.inl (by decide)) (by simpa [rd1] using h)
  · exact num 100 2 (by omega) (by omega) (.inl (by decide)) (by simpa [rd1] using h)
  · exact num 72 2 (by omega) (by omega) (.inl (by decide)) (by simpa [rd1] using h)
  · exact num 77 2 (by omega) (by omega) (.inl (by decide)) (by simpa [rd1] using h)
  · exact num 83 2 (by omega) (by omega) (.inl (by decide)) (by simpa [rd1] using h)
  · exact num 106 3 (by omega) (by omega) (.inl (by decide)) (by simpa [rd1] using h)
  · have h2 : (if T.getD a 0 = 32 then rdNum T 101 a (a + 1) 1 else rdNum T 101 a a 2) = .inr (a', its) := by simpa [rd1] using h
    by_cases hb : T.getD a 0 = 32
    · rw [if_pos hb] at h2
      obtain ⟨q1, q2, q3, q4⟩ := rdE_ok hb h2
      obtain ⟨g1, g2, g3, g4⟩ := q3 i hi
      omega
    · rw [if_neg hb] at h2
      exact num 101 2 (by omega) (by omega) (.inr (.inr rfl)) h2
  · exact num 117 1 (by omega) (by omega) (.inr (.inl rfl)) (by simpa [rd1] using h)
  · exact nm 97 dNames dNames3 (by decide) (by simpa [rd1] using h)
  · exact nm 98 mNames mNames3 (by decide) (by simpa [rd1] using h)
  · exact absurd rfl hne
/-- steps of directives of one thing, or of bytes -/
def StpOk (s : Stp) : Prop := ∀ c, s = .dir c → c ∈ oneLetters
theorem rdL_in {T : List UInt8} : ∀ (st : List Stp) (at_ : Nat) (acc : List It) (at' : Nat) (its : List It), (∀ s ∈ st, StpOk s) → (∀ i ∈ acc, ItIn i) → rdL T st at_ acc = .inr (at', its) → ∀ i ∈ its, ItIn i
  | [], at_, acc, at', its, _, ha, h => by
    simp only [rdL, Sum.inr.injEq, Prod.mk.injEq] at h
    obtain ⟨rfl, rfl⟩ := h
    exact ha
  | s :: st, at_, acc, at', its, hs, ha, h => by
    rw [rdL_cons] at h
    cases hr : rdS T s at_ with
    | inl q => rw [hr] at h; cases h
    | inr x =>
      rw [hr] at h
      refine rdL_in st x.1 (acc ++ x.2) at' its (fun s' h' => hs s' (List.mem_cons_of_mem _ h')) (fun i hi => ?_) h
      rcases List.mem_append.1 hi with hi | hi
      · exact ha i hi
      · cases s with
        | dir c =>
          exact rd1_in (hs _ List.mem_cons_self c rfl) (show rd1 T c at_ = .inr (x.1, x.2) from hr) i hi
        | byte b =>
          have hr2 : (if T[at_]? = some b then Sum.inr (at_ + 1, []) else Sum.inl at_) = (Sum.inr x : Sum Nat (Nat × List It)) := hr
          by_cases hb : T[at_]? = some b
          · rw [if_pos hb] at hr2
            rw [← Sum.inr.inj hr2] at hi
            cases hi
          · rw [if_neg hb] at hr2; cases hr2
theorem expand_ok {c : UInt8} (hc : c ∈ dLetters) : ∀ s ∈ expand c, StpOk s := by
  unfold dLetters at hc
  simp only [List.mem_cons, List.not_mem_nil, or_false] at hc
  rcases hc with rfl | rfl | rfl | rfl | rfl | rfl | rfl | rfl | rfl | rfl | rfl | rfl | rfl | rfl | rfl | rfl | rfl | rfl <;>
    (intro s hs c hcs; subst hcs; (simp [expand] at hs <;> first | (subst hs; decide) | (rcases hs with rfl | rfl | rfl <;> decide)))
theorem expand_len (c : UInt8) : (expand c).length ≤ 5 := by
  unfold expand
  by_cases h1 : c = 70
  · rw [if_pos h1]; simp
  · rw [if_neg h1]
    by_cases h2 : c = 84
    · rw [if_pos h2]; simp
    · rw [if_neg h2]
      by_cases h3 : c = 110
      · rw [if_pos h3]; simp
      · rw [if_neg h3]
        by_cases h4 : c = 116
        · rw [if_pos h4]; simp
        · rw [if_neg h4]
          by_cases h5 : c = 37
          · rw [if_pos h5]; simp
          · rw [if_neg h5]; simp
theorem stepsOf_ok {ps : List (UInt8 × UInt8)} (h : ∀ p ∈ ps, p.1 = 0 ∨ p.1 ∈ dLetters) : ∀ s ∈ stepsOf ps, StpOk s := by
  intro s hs
  unfold stepsOf at hs
  obtain ⟨p, hp, hs⟩ := List.mem_flatMap.1 hs
  by_cases h0 : p.1 = 0
  · rw [if_pos h0] at hs
    obtain rfl := List.mem_singleton.1 hs
    intro c hc; cases hc
  · rw [if_neg h0] at hs
    exact expand_ok ((h p hp).resolve_left h0) s hs
theorem stepsOf_len (ps : List (UInt8 × UInt8)) : (stepsOf ps).length ≤ 5 * ps.length := by
  induction ps with
  | nil => simp [stepsOf]
  | cons p r ih =>
    rw [stepsOf_cons, List.length_append, List.length_cons]
    have : (if p.1 = 0 then [Stp.byte p.2] else expand p.1).length ≤ 5 := by
      by_cases h : p.1 = 0
      · rw [if_pos h]; simp
      · rw [if_neg h]; exact expand_len _
    omega
theorem rdL_count {T : List UInt8} : ∀ (st : List Stp) (at_ : Nat) (acc : List It) (at' : Nat) (its : List It), (∀ s ∈ st, StpOk s) → rdL T st at_ acc = .inr (at', its) → its.length ≤ acc.length + st.length
  | [], at_, acc, at', its, _, h => by
    simp only [rdL, Sum.inr.injEq, Prod.mk.injEq] at h
    obtain ⟨rfl, rfl⟩ := h
    simp
  | s :: st, at_, acc, at', its, hs, h => by
    rw [rdL_cons] at h
    cases hr : rdS T s at_ with
    | inl q => rw [hr] at h; cases h
    | inr x =>
      rw [hr] at h
      have ih := rdL_count st x.1 (acc ++ x.2) at' its (fun s' h' => hs s' (List.mem_cons_of_mem _ h')) h
      have hx : x.2.length ≤ 1 := by
        cases s with
        | dir c => exact Nat.le_of_eq (rd1_ok (hs _ List.mem_cons_self c rfl) (show rd1 T c at_ = .inr (x.1, x.2) from hr)).2.2
        | byte b =>
          have hr2 : (if T[at_]? = some b then Sum.inr (at_ + 1, []) else Sum.inl at_) = (Sum.inr x : Sum Nat (Nat × List It)) := hr
          by_cases hb : T[at_]? = some b
          · rw [if_pos hb] at hr2
            rw [← Sum.inr.inj hr2]; simp
          · rw [if_neg hb] at hr2; cases hr2
      rw [List.length_append] at ih
      rw [List.length_cons]; omega
end Go.Pw
namespace Go.Proofs.YtifpmigghplmoaaGreatDoor
open Go.RowKit Go.Pw
theorem noteOk_of {its : List It} (h : ∀ i ∈ its, ItIn i) : NoteOk (its.map nt) := by
  intro p hp
  obtain ⟨i, hi, rfl⟩ := List.mem_map.1 hp
  obtain ⟨⟨g1, g2, g3, -⟩, hc, hn⟩ := h i hi
  obtain ⟨c, n, p⟩ := i
  unfold nt
  simp only at g2 g3 hc hn ⊢
  refine ⟨?_, fun hne => ?_, by omega, by omega⟩
  · unfold oneLetters at hc
    simp only [List.mem_cons, List.not_mem_nil, or_false] at hc
    rcases hc with rfl | rfl | rfl | rfl | rfl | rfl | rfl | rfl | rfl | rfl | rfl | rfl | rfl <;> decide
  · have : c ≠ 115 := fun e => hne (by subst e; rfl)
    have := hn this
    omega
end Go.Proofs.YtifpmigghplmoaaGreatDoor
