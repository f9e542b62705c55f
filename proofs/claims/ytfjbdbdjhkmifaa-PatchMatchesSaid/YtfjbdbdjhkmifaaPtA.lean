/- delta.same and delta.tail at strings; slices.Clone and slices.Reverse as own rows. -/
import Derived.Test.YtfjbdbdjhkmifaaDmF
import Derived.Test.YtfjbdbdjhkmifaaDiff
import Derived.Test.YtfjbdbdjhkmifaaDmZP
import Derived.Deep.Upon
set_option linter.unusedVariables false
set_option linter.unusedSimpArgs false
namespace Go.Proofs.Ytfjbdbdjhkmifaa
open Go.RowKit Go.Pw
set_option maxHeartbeats 2000000 in
set_option maxRecDepth 100000 in
theorem same_any (v1 v2 : Value) (l m : List ByteArray) (w : World) (h1 : Strs w v1 l) (h2 : Strs w v2 m) (hl : l.length ≤ 1000000000) (hm : m.length ≤ 1000000000) :
    Calls Try.prog 73 #[v1, v2] w fun e w' => e = .returned (.int .i64 (pre l m : Int)) ∧ ∃ q, w' = w.drewN q := by
  obtain ⟨⟨_, A, ca, rfl, hca, hma, hxa⟩, _⟩ := h1
  obtain ⟨⟨_, B, cb, rfl, hcb, hmb, hxb⟩, _⟩ := h2
  have HXA := hide hxa
  have HXB := hide hxb
  clear hxa hxb
  go_enter Try.func73, Try.ntmps73
  go_wp2_with fail
  go_loopw [5] (fun i wr => ∃ k q : Nat, k ≤ l.length ∧ k ≤ m.length ∧ i = .int .i64 (k : Int) ∧ Hid (l.take k = m.take k) ∧ Hid (wr = w.drewN q)) (fun i _ => l.length - (intOf i).toNat)
  case atStart => exact ⟨0, 0, Nat.zero_le _, Nat.zero_le _, rfl, rfl, rfl⟩
  case round =>
    obtain ⟨k, q, hk1, hk2, rfl, ht, hwr⟩ := hrel
    have hwr' := hwr.out
    subst hwr'
    clear hwr
    by_cases hA : k < l.length
    · have hA1 : (k : Int) < (l.length : Int) := by omega
      have hA2 : decide ((k : Int) < (l.length : Int)) = true := by simpa using hA1
      have hA3 : decide (k < l.length) = true := by simpa using hA
      by_cases hB : k < m.length
      · have hB1 : (k : Int) < (m.length : Int) := by omega
        have hB2 : decide ((k : Int) < (m.length : Int)) = true := by simpa using hB1
        have hB3 : decide (k < m.length) = true := by simpa using hB
        obtain ⟨ba, oa, rfl, hba, hja⟩ := HXA.out (by omega)
        obtain ⟨bb, ob, rfl, hbb, hjb⟩ := HXB.out (by omega)
        have c1 : w.cell? ⟨ba, oa + k, none⟩ = some (.string l[k]) := hja k _ (by simp [hA])
        have c2 : w.cell? ⟨bb, ob + k, none⟩ = some (.string m[k]) := hjb k _ (by simp [hB])
        clear hja hjb
        by_cases he : l[k] = m[k]
        · have he' : (l[k].toList == m[k].toList) = true := by rw [he]; simp
          have HT : Hid (l.take (k + 1) = m.take (k + 1)) := hide (take_ext ht.out hA hB he)
          clear he
          go_wp2_with fail
          go_quiet (fail)
          clear c1 c2
          go_wp2_with fail
          go_roundw
          case rel => exact ⟨k + 1, _, by omega, by omega, by go_num, HT, hide rfl⟩
          case measure => simp [intOf]; omega
        · have he' : (l[k].toList == m[k].toList) = false := by
            cases hq : (l[k].toList == m[k].toList)
            · rfl
            · exact absurd (bytes_eq hq) he
          have HP : Hid (pre l m = k) := hide (pre_stop l m k hk1 hk2 ht.out (.inr (.inr (by rw [List.getElem?_eq_getElem hA, List.getElem?_eq_getElem hB]; intro h; injection h with h; exact he h))))
          clear he
          go_wp2_with fail
          go_quiet (fail)
          clear c1 c2
          go_wp2_with fail
          go_ret
          exact ⟨by rw [HP.out]; rfl, q + nq, by first | rfl | exact World.drewN_drewN _ _ _ | simp [World.drewN, Nat.add_assoc]⟩
      · have hB2 : decide ((k : Int) < (m.length : Int)) = false := by simp; omega
        have hB1 : ¬ ((k : Int) < (m.length : Int)) := by omega
        have hB3 : decide (k < m.length) = false := by simpa using hB
        have HP : Hid (pre l m = k) := hide (pre_stop l m k hk1 hk2 ht.out (.inr (.inl (by omega))))
        go_wp2_with fail
        go_quiet (fail)
        go_wp2_with fail
        go_ret
        exact ⟨by rw [HP.out]; rfl, q + nq, by first | rfl | exact World.drewN_drewN _ _ _ | simp [World.drewN, Nat.add_assoc]⟩
    · have hA2 : decide ((k : Int) < (l.length : Int)) = false := by simp; omega
      have hA1 : ¬ ((k : Int) < (l.length : Int)) := by omega
      have hA3 : decide (k < l.length) = false := by simpa using hA
      have HP : Hid (pre l m = k) := hide (pre_stop l m k hk1 hk2 ht.out (.inl (by omega)))
      go_wp2_with fail
      go_quiet (fail)
      go_wp2_with fail
      go_ret
      exact ⟨by rw [HP.out]; rfl, q + nq, by first | rfl | exact World.drewN_drewN _ _ _ | simp [World.drewN, Nat.add_assoc]⟩

theorem cloneO_any (v : Value) (l : List ByteArray) (w : World) (h : Strs w v l) (hl : l.length * 16 ≤ 140737488355328) :
    Calls Try.prog 32 #[v] w fun e w' => ∃ v', e = .returned v' ∧ w'.ownsRow w.heap.size 9 1 v' l.length (l.map Value.string) ∧ Below w.heap.size w w' := by
  obtain ⟨⟨_, A, cap, rfl, hcap, hmax, hx⟩, hsz⟩ := h
  cases A with
  | none =>
    have h0 : l = [] := by
      by_cases h0 : 0 < l.length
      · obtain ⟨b, o, e, _⟩ := hx h0
        cases e
      · exact List.eq_nil_of_length_eq_zero (by omega)
    subst h0
    refine (Try.slices_Clone_string_nil _ cap w).mono ?_
    rintro e w' ⟨rfl, rfl⟩
    exact ⟨_, rfl, World.ownsRow_nil _ _ _ _, Below.refl _ _⟩
  | some ad =>
    by_cases h0 : 0 < l.length
    · obtain ⟨b, o, e, hb, hj⟩ := hx h0
      injection e with e
      subst e
      refine (Try.slices_Clone_string b o l.length cap l w (Nat.le_refl _) hl (fun j hj' => hj j _ (by simp [hj']))).mono ?_
      rintro e w' ⟨v', rfl, hown, _, hbl⟩
      rw [List.take_length] at hown
      exact ⟨v', rfl, hown, hbl⟩
    · obtain rfl : l = [] := List.eq_nil_of_length_eq_zero (by omega)
      refine (Try.slices_Clone_string_zero ad cap w).mono ?_
      rintro e w' ⟨v', rfl, hown, _, hbl⟩
      exact ⟨v', rfl, hown, hbl⟩

theorem own_cells {w : World} {base e n : Nat} {v : Value} {xs : List Value} (h : w.ownsRow base e 1 v n xs) (h0 : 0 < n) : ∃ g cap, v = .slice (some ⟨g, 0, none⟩) n cap ∧ base ≤ g ∧ g < w.heap.size ∧ n ≤ cap ∧ cap ≤ maxLen ∧ (∀ j u, xs[j]? = some u → w.cell? ⟨g, j, none⟩ = some u) ∧ ∀ j, w.frozen? ⟨g, j, none⟩ = false := by
  obtain ⟨hl, ⟨rfl, rfl⟩ | ⟨g, cap, cur, rfl, hg, hh, hn, hm, hs, hx⟩⟩ := h
  · omega
  · refine ⟨g, cap, rfl, hg, (Array.getElem?_eq_some_iff.1 hh).1, hn, hm, fun j u hu => ?_, fun j => ?_⟩
    · simp only [World.cell?, hh]
      rw [← hx, List.getElem?_take] at hu
      split at hu
      · simpa using hu
      · cases hu
    · simp [World.frozen?, hh]

theorem strs_enc (l : List ByteArray) (F : Nat → ByteArray) (h : ∀ i (hi : i < l.length), F i = l[i]) : ((Lib.strsOf F l.length).reverse.map encStr) = l.reverse.map Value.string := by
  have : (Lib.strsOf F l.length).map encStr = l.map Value.string := by
    apply List.ext_getElem
    · simp [Lib.strsOf]
    · intro i h1 h2
      simp only [List.length_map] at h2
      simp [Lib.strsOf, encStr, h i h2]
  rw [List.map_reverse, this, List.map_reverse]

/-- slices.Reverse of an own row -/
theorem reverseO_any (v : Value) (l : List ByteArray) (base : Nat) (w : World) (h : w.ownsRow base 9 1 v l.length (l.map Value.string)) (hl : l.length ≤ 9223372036854775807) :
    Calls Try.prog 87 #[v] w fun e w' => e = .returned (.tuple #[]) ∧ w'.ownsRow base 9 1 v l.length (l.reverse.map Value.string) ∧ (∀ N, N ≤ base → Below N w w') ∧ w'.heap.size = w.heap.size ∧ ∀ i, i < w.heap.size → v.ownBlock ≠ some i → w'.heap[i]? = w.heap[i]? := by
  by_cases h0 : 0 < l.length
  · obtain ⟨g, cap, rfl, hg, hgz, hn, hm, hc, hf⟩ := own_cells h h0
    refine (Try.slices_Reverse_string_cells g 0 l.length cap (fun i => l.getD i ByteArray.empty) w hl (fun i hi => ?_) (fun j _ => by rw [Nat.zero_add]; exact hf j)).mono ?_
    · rw [Nat.zero_add]; exact hc i _ (by simp [hi])
    · rintro e w' ⟨rfl, q, rfl⟩
      rw [strs_enc l _ (fun i hi => by simp [hi])]
      obtain ⟨a, b, c⟩ := own_setCells (l.reverse.map Value.string) (l.map Value.string) 0 (w.drewN q) (by exact h)
      refine ⟨rfl, ?_, fun N hN => ?_, by rw [c]; rfl, fun i hi hne => ?_⟩
      · rw [setAll_eq _ _ _ (by simp)] at a
        rw [List.drop_of_length_le (by simp), List.append_nil] at a
        simpa using a
      · exact (below_drewN (Below.refl N w) q).trans (b N (by omega))
      · exact World.heap_setCells_other (w.drewN q) g 0 _ hi (fun e => hne (by rw [e]; rfl))
  · obtain rfl : l = [] := List.eq_nil_of_length_eq_zero (by omega)
    have hv : ∃ a cap, v = .slice a 0 cap := by
      obtain ⟨_, ⟨rfl, _⟩ | ⟨g, cap, cur, rfl, _⟩⟩ := h
      · exact ⟨_, _, rfl⟩
      · exact ⟨_, _, rfl⟩
    obtain ⟨a, cap, rfl⟩ := hv
    refine (Try.slices_Reverse_string_empty a cap w).mono ?_
    rintro e w' ⟨rfl, rfl⟩
    exact ⟨rfl, by simpa using h, fun N _ => Below.refl _ _, rfl, fun _ _ _ => rfl⟩

theorem own_strs {w : World} {base e : Nat} {v : Value} {l : List ByteArray} (h : w.ownsRow base e 1 v l.length (l.map Value.string)) (hz : ∀ x ∈ l, x.size ≤ 9223372036854775807) : Strs w v l := ⟨.of_own h, hz⟩
theorem own_off {w w' : World} {base e n : Nat} {v : Value} {xs : List Value} (h : w.ownsRow base e 1 v n xs) (hb : ∀ g, v.ownBlock = some g → w'.heap[g]? = w.heap[g]?) : w'.ownsRow base e 1 v n xs := by
  refine ⟨h.1, ?_⟩
  rcases h.2 with h2 | ⟨g, cap, cur, hv, hg, hh, r⟩
  · exact .inl h2
  · exact .inr ⟨g, cap, cur, hv, hg, (hb g (by rw [hv]; rfl)).trans hh, r⟩

set_option maxHeartbeats 1000000 in
/-- how many lines two lists have in common at their end -/
theorem tail_any (v1 v2 : Value) (l m : List ByteArray) (w : World) (h1 : Strs w v1 l) (h2 : Strs w v2 m) (hl : l.length ≤ 1000000) (hm : m.length ≤ 1000000) :
    Calls Try.prog 74 #[v1, v2] w fun e w' => e = .returned (.int .i64 (pre l.reverse m.reverse : Int)) ∧ Below w.heap.size w w' := by
  have H1 := hide h1
  have H2 := hide h2
  obtain ⟨⟨_, A, ca, rfl, hca, hma, hxa⟩, hsa⟩ := h1
  obtain ⟨⟨_, B, cb, rfl, hcb, hmb, hxb⟩, hsb⟩ := h2
  clear hxa hxb
  go_enter Try.func74, Try.ntmps74
  go_wp2_with fail
  refine (cloneO_any _ l w H1.out (by omega)).mono ?_
  rintro e w1 ⟨va, rfl, ha, hb1⟩
  go_wp2_with fail
  refine (cloneO_any _ m w1 (H2.out.below hb1) (by omega)).mono ?_
  rintro e w2 ⟨vb, rfl, hb, hb2⟩
  have ha2 := hide (own_below ha hb2)
  have hbw : Below w.heap.size w w2 := hb1.trans (hb2.mono hb1.size)
  have hlt := hide (own_lt ha)
  have hgb := hide (own_ge hb)
  go_wp2_with fail
  refine (reverseO_any va l _ w2 ha2.out (by omega)).mono ?_
  rintro e w3 ⟨rfl, ha3, hb3, hz3, ho3⟩
  have hb3' : w3.ownsRow w1.heap.size 9 1 vb m.length (m.map Value.string) := own_off hb fun g hg => ho3 g (own_lt hb g hg) (fun e => by have := hlt.out g e; have := hgb.out g hg; omega)
  go_wp2_with fail
  refine (reverseO_any vb m _ w3 hb3' (by omega)).mono ?_
  rintro e w4 ⟨rfl, hb4, hc4, hz4, ho4⟩
  have ha4 : w4.ownsRow w.heap.size 9 1 va l.length (l.reverse.map Value.string) := own_off ha3 fun g hg => ho4 g (own_lt ha3 g hg) (fun e => by have := hlt.out g hg; have := hgb.out g e; omega)
  go_wp2_with fail
  have s1 : Strs w4 va l.reverse := own_strs (by simpa using ha4) (fun x hx => hsa x (by simpa using hx))
  have s2 : Strs w4 vb m.reverse := own_strs (by simpa using hb4) (fun x hx => hsb x (by simpa using hx))
  refine (same_any va vb l.reverse m.reverse w4 s1 s2 (by simp; omega) (by simp; omega)).mono ?_
  rintro e w5 ⟨rfl, q, rfl⟩
  go_wp2_with fail
  go_ret
  exact ⟨rfl, below_drewN ((hbw.trans (hb3 _ (Nat.le_refl _))).trans (hc4 _ hb1.size)) q⟩
end Go.Proofs.Ytfjbdbdjhkmifaa
