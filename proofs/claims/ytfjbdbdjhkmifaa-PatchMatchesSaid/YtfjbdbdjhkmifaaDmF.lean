/- The reference's alike and SameLines. -/
import Derived.Test.YtfjbdbdjhkmifaaSame
set_option linter.unusedVariables false
set_option linter.unusedSimpArgs false
namespace Go.Pw
/-- how many elements two lists have in common at their beginning -/
def pre {α : Type} [DecidableEq α] : List α → List α → Nat
  | x :: l, y :: m => if x = y then pre l m + 1 else 0
  | _, _ => 0
theorem pre_stop {α : Type} [DecidableEq α] : ∀ (l m : List α) (k : Nat), k ≤ l.length → k ≤ m.length → l.take k = m.take k → (k = l.length ∨ k = m.length ∨ l[k]? ≠ m[k]?) → pre l m = k
  | [], m, k, h1, _, _, _ => by simp at h1; subst h1; simp [pre]
  | x :: l, [], k, _, h2, _, _ => by simp at h2; subst h2; simp [pre]
  | x :: l, y :: m, 0, _, _, _, h => by
    simp at h
    rw [pre, if_neg h]
  | x :: l, y :: m, k + 1, h1, h2, h3, h => by
    simp at h1 h2 h3 h
    obtain ⟨rfl, h3⟩ := h3
    rw [pre, if_pos rfl, pre_stop l m k h1 h2 h3 h]
theorem pre_full {α : Type} [DecidableEq α] : ∀ (l m : List α), l.length = m.length → (pre l m = l.length ↔ l = m)
  | [], [], _ => by simp [pre]
  | x :: l, y :: m, h => by
    simp at h
    have ih := pre_full l m h
    by_cases e : x = y
    · subst e; simp [pre, ih]
    · simp [pre, e]
  | [], y :: m, h => by simp at h
  | x :: l, [], h => by simp at h
theorem pre_le {α : Type} [DecidableEq α] : ∀ (l m : List α), pre l m ≤ l.length ∧ pre l m ≤ m.length
  | [], m => by simp [pre]
  | x :: l, [] => by simp [pre]
  | x :: l, y :: m => by
    have := pre_le l m
    rw [pre]
    split <;> simp <;> omega
end Go.Pw
namespace Go.Proofs.Ytfjbdbdjhkmifaa
open Go.RowKit Go.Pw
set_option maxHeartbeats 2000000 in
set_option maxRecDepth 100000 in
theorem alike_any (v1 v2 : Value) (l m : List ByteArray) (w : World) (h1 : Strs w v1 l) (h2 : Strs w v2 m) (hl : l.length ≤ 1000000000) (hm : m.length ≤ 1000000000) :
    Calls Try.prog 50 #[v1, v2] w fun e w' => e = .returned (.int .i64 (pre l m : Int)) ∧ ∃ q, w' = w.drewN q := by
  obtain ⟨⟨_, A, ca, rfl, hca, hma, hxa⟩, _⟩ := h1
  obtain ⟨⟨_, B, cb, rfl, hcb, hmb, hxb⟩, _⟩ := h2
  have HXA := hide hxa
  have HXB := hide hxb
  clear hxa hxb
  go_enter Try.func50, Try.ntmps50
  go_wp2_with fail
  go_loopw [5] (fun i wr => ∃ k q : Nat, k ≤ l.length ∧ k ≤ m.length ∧ i = .int .i64 (k : Int) ∧ Hid (l.take k = m.take k) ∧ Hid (wr = w.drewN q)) (fun i _ => l.length - (intOf i).toNat)
  case atStart => exact ⟨0, 0, Nat.zero_le _, Nat.zero_le _, rfl, rfl, rfl⟩
  case round =>
    obtain ⟨k, q, hk1, hk2, rfl, ht, hwr⟩ := hrel
    have hwr' := hwr.out
    subst hwr'
    clear hwr
    by_cases hA : k < l.length
    · have hA1 : (k : Int) < (l.length : Int) := by omega
      have hA2 : decide ((k : Int) < (l.length : Int)) = true := by simpa using hA1
      have hA3 : decide (k < l.length) = true := by simpa using hA
      by_cases hB : k < m.length
      · have hB1 : (k : Int) < (m.length : Int) := by omega
        have hB2 : decide ((k : Int) < (m.length : Int)) = true := by simpa using hB1
        have hB3 : decide (k < m.length) = true := by simpa using hB
        obtain ⟨ba, oa, rfl, hba, hja⟩ := HXA.out (by omega)
        obtain ⟨bb, ob, rfl, hbb, hjb⟩ := HXB.out (by omega)
        have c1 : w.cell? ⟨ba, oa + k, none⟩ = some (.string l[k]) := hja k _ (by simp [hA])
        have c2 : w.cell? ⟨bb, ob + k, none⟩ = some (.string m[k]) := hjb k _ (by simp [hB])
        clear hja hjb
        by_cases he : l[k] = m[k]
        · have he' : (l[k].toList == m[k].toList) = true := by rw [he]; simp
          have HT : Hid (l.take (k + 1) = m.take (k + 1)) := hide (take_ext ht.out hA hB he)
          clear he
          go_wp2_with fail
          go_quiet (fail)
          clear c1 c2
          go_wp2_with fail
          go_roundw
          case rel => exact ⟨k + 1, _, by omega, by omega, by go_num, HT, hide rfl⟩
          case measure => simp [intOf]; omega
        · have he' : (l[k].toList == m[k].toList) = false := by
            cases hq : (l[k].toList == m[k].toList)
            · rfl
            · exact absurd (bytes_eq hq) he
          have HP : Hid (pre l m = k) := hide (pre_stop l m k hk1 hk2 ht.out (.inr (.inr (by rw [List.getElem?_eq_getElem hA, List.getElem?_eq_getElem hB]; intro h; injection h with h; exact he h))))
          clear he
          go_wp2_with fail
          go_quiet (fail)
          clear c1 c2
          go_wp2_with fail
          go_ret
          exact ⟨by rw [HP.out]; rfl, q + nq, by first | rfl | exact World.drewN_drewN _ _ _ | simp [World.drewN, Nat.add_assoc]⟩
      · have hB2 : decide ((k : Int) < (m.length : Int)) = false := by simp; omega
        have hB1 : ¬ ((k : Int) < (m.length : Int)) := by omega
        have hB3 : decide (k < m.length) = false := by simpa using hB
        have HP : Hid (pre l m = k) := hide (pre_stop l m k hk1 hk2 ht.out (.inr (.inl (by omega))))
        go_wp2_with fail
        go_quiet (fail)
        go_wp2_with fail
        go_ret
        exact ⟨by rw [HP.out]; rfl, q + nq, by first | rfl | exact World.drewN_drewN _ _ _ | simp [World.drewN, Nat.add_assoc]⟩
    · have hA2 : decide ((k : Int) < (l.length : Int)) = false := by simp; omega
      have hA1 : ¬ ((k : Int) < (l.length : Int)) := by omega
      have hA3 : decide (k < l.length) = false := by simpa using hA
      have HP : Hid (pre l m = k) := hide (pre_stop l m k hk1 hk2 ht.out (.inl (by omega)))
      go_wp2_with fail
      go_quiet (fail)
      go_wp2_with fail
      go_ret
      exact ⟨by rw [HP.out]; rfl, q + nq, by first | rfl | exact World.drewN_drewN _ _ _ | simp [World.drewN, Nat.add_assoc]⟩
set_option maxHeartbeats 1000000 in
theorem sameLines_any (v1 v2 : Value) (l m : List ByteArray) (w : World) (h1 : Strs w v1 l) (h2 : Strs w v2 m) (hl : l.length ≤ 1000000000) (hm : m.length ≤ 1000000000) :
    Calls Try.prog 45 #[v1, v2] w fun e w' => e = .returned (.bool (decide (l = m))) ∧ ∃ q, w' = w.drewN q := by
  have H1 := hide h1
  have H2 := hide h2
  obtain ⟨⟨_, A, ca, rfl, hca, hma, hxa⟩, _⟩ := h1
  obtain ⟨⟨_, B, cb, rfl, hcb, hmb, hxb⟩, _⟩ := h2
  clear hxa hxb
  by_cases hlm : l.length = m.length
  · have hd : ((l.length : Int) == (m.length : Int)) = true := by simp; omega
    have HLM := hide hlm
    have HC := hide (alike_any _ _ l m w H1.out H2.out hl hm)
    have HP : Hid (((pre l m : Int) == (l.length : Int)) = decide (l = m)) := hide (by
      have := pre_full l m hlm
      by_cases e : l = m
      · rw [decide_eq_true e]; have := this.2 e; simp; omega
      · rw [decide_eq_false e]; simp; intro h; exact e (this.1 (by omega)))
    obtain ⟨pp, hpp⟩ : ∃ pp, pre l m = pp := ⟨_, rfl⟩
    rw [hpp] at HC HP
    clear hlm hpp
    go_enter Try.func45, Try.ntmps45
    go_wp2_with fail
    refine HC.out.mono ?_
    rintro e w1 ⟨rfl, q, rfl⟩
    go_wp2_with fail
    go_ret
    exact ⟨ret_bool (by first | exact HP.out | (have := HP.out; simpa using this)), q, rfl⟩
  · have hd : ((l.length : Int) == (m.length : Int)) = false := by simp; omega
    have hne : ¬ l = m := fun e => hlm (by rw [e])
    have HNE := hide hne
    clear hne
    go_enter Try.func45, Try.ntmps45
    go_wp2_with fail
    go_ret
    exact ⟨ret_bool (by rw [decide_eq_false HNE.out]), 0, rfl⟩
end Go.Proofs.Ytfjbdbdjhkmifaa
