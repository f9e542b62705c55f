/- The reference's alikeEnds, and plain laws of where it seeks. -/
import Derived.Test.YtfjbdbdjhkmifaaPtM
set_option linter.unusedVariables false
set_option linter.unusedSimpArgs false
namespace Go.Pw
/-- no place seen so far: at the distances below d, and of the distance d the first j of the two -/
def Nf (l o : List ByteArray) (c : Int) (fin d j : Nat) : Prop := ∀ k, fin ≤ k → Fits l o k → (d : Int) ≤ far c k ∧ (1 ≤ j → (k : Int) ≠ c + d) ∧ (2 ≤ j → (k : Int) ≠ c - d)
theorem nf_start (l o : List ByteArray) (c : Int) (fin : Nat) : Nf l o c fin 0 0 := fun k _ _ => ⟨by unfold far; omega, by omega, by omega⟩
theorem nf_next {l o : List ByteArray} {c : Int} {fin d : Nat} (h : Nf l o c fin d 2) : Nf l o c fin (d + 1) 0 := fun k h1 h2 => by
  obtain ⟨g1, g2, g3⟩ := h k h1 h2
  have g2 := g2 (by omega)
  have g3 := g3 (by omega)
  unfold far at *
  exact ⟨by omega, by omega, by omega⟩
theorem nf_one {l o : List ByteArray} {c : Int} {fin d : Nat} (h : Nf l o c fin d 0) (hn : ∀ k : Nat, (k : Int) = c + d → fin ≤ k → ¬ Fits l o k) : Nf l o c fin d 1 := fun k h1 h2 => ⟨(h k h1 h2).1, fun _ e => hn k e h1 h2, by omega⟩
theorem nf_two {l o : List ByteArray} {c : Int} {fin d : Nat} (h : Nf l o c fin d 1) (hn : ∀ k : Nat, (k : Int) = c - d → fin ≤ k → ¬ Fits l o k) : Nf l o c fin d 2 := fun k h1 h2 => ⟨(h k h1 h2).1, fun _ => (h k h1 h2).2.1 (by omega), fun _ e => hn k e h1 h2⟩
theorem nf_hit {l o : List ByteArray} {c : Int} {fin d j k : Nat} (h : Nf l o c fin d j) (h1 : fin ≤ k) (h2 : Fits l o k) (hj : j = 0 ∧ (k : Int) = c + d ∨ j = 1 ∧ (k : Int) = c - d) : plc l o c fin = some k := by
  refine plc_of (hi := l.length + 1) ⟨h1, by have := h2.1; omega, h2, fun q q1 q2 q3 => ?_⟩ (by omega)
  obtain ⟨g1, g2, g3⟩ := h q q1 q3
  unfold far at *
  rcases hj with ⟨rfl, e⟩ | ⟨rfl, e⟩
  · omega
  · have := g2 (by omega)
    omega
theorem nf_end {l o : List ByteArray} {c : Int} {fin d : Nat} (h : Nf l o c fin d 0) (h1 : (fin : Int) ≤ c) (h2 : c ≤ fin + d - 1) (h3 : l.length < d) : plc l o c fin = none := by
  refine plc_of (hi := l.length + 1) (fun k k1 _ k3 => ?_) (by omega)
  have g1 := (h k k1 k3).1
  have := k3.1
  unfold far at g1
  omega
/-- the hunks come in order -/
def OrdH : List Hk → Int → Prop
  | [], _ => True
  | h :: hs, e => e ≤ h.frm ∧ OrdH hs (h.frm + h.old.length)
/-- where a hunk is due, against where the last one ended -/
def Due (s : Pt) (e : Int) : Prop := 0 ≤ e ∧ (s.fin : Int) - e ≤ s.del + s.off ∧ s.del + s.off ≤ s.fin + 10
theorem Due.more {s : Pt} {e e' : Int} (h : Due s e) (he : e ≤ e') : Due s e' := ⟨by have := h.1; omega, by have := h.2.1; omega, h.2.2⟩
theorem Due.put {s : Pt} {e : Int} {h : Hk} {f k : Nat} (hs : Due s e) (he : e ≤ h.frm) (hf : f ≤ 10) : Due (putAt h f s k) (h.frm + h.old.length) := by
  obtain ⟨h1, h2, h3⟩ := hs
  have l1 := fzO_length h f
  have l3 := fz_sum h f
  have l4 : fzF h f ≤ f := by unfold fzF; omega
  have l5 : fzH h f ≤ f := by unfold fzH; omega
  have hd : due h f s = h.frm + fzH h f + s.del := rfl
  refine ⟨by omega, ?_, ?_⟩
  · show ((k + (fzN h f).length : Nat) : Int) - _ ≤ s.del + ((fzN h f).length - (fzO h f).length : Int) + ((k : Int) - due h f s); omega
  · show s.del + ((fzN h f).length - (fzO h f).length : Int) + ((k : Int) - due h f s) ≤ ((k + (fzN h f).length : Nat) : Int) + 10; omega
theorem Due.try {h : Hk} {i : Nat} {s : Pt} {e : Int} (hs : Due s e) (he : e ≤ h.frm) : ∀ (m f : Nat), f + m ≤ 11 → Due (tryP h i s f m).1 (h.frm + h.old.length)
  | 0, f, _ => hs.more (by omega)
  | m + 1, f, hf => by
    rw [tryP]
    split
    · exact hs.put he (by omega)
    · exact Due.try hs he m (f + 1) (by omega)
end Go.Pw
namespace Go.Proofs.Ytfjbdbdjhkmifaa
open Go.RowKit Go.Pw
theorem hrun_ord : ∀ (hs : List Hk) (s : WS), hOut none (hRun none false hs s) = 0 → OrdH hs s.fin
  | [], _, _ => trivial
  | g :: hs, s, h0 => by
    rw [hRun] at h0
    split at h0
    · rename_i hst
      unfold hStep at hst
      split at hst
      · rename_i h1; exact absurd hst h1
      · rename_i h1
        obtain ⟨e1, e2⟩ := form_zero (show formErr g s.fin = 0 by omega)
        exact ⟨e2, hrun_ord hs (s.next g) h0⟩
    · rename_i h1; exact absurd h0 h1
theorem hunks_ord {hs : List Hk} (h : hunkErr none false hs = 0) : OrdH hs 0 := by
  unfold hunkErr at h
  split at h
  · cases h
  · exact hrun_ord hs ⟨0, 0⟩ h
set_option maxHeartbeats 2000000 in
set_option maxRecDepth 100000 in
theorem alikeEnds_any (v1 v2 : Value) (l m : List ByteArray) (w : World) (h1 : Strs w v1 l) (h2 : Strs w v2 m) (hl : l.length ≤ 1000000000) (hm : m.length ≤ 1000000000) :
    Calls Try.prog 51 #[v1, v2] w fun e w' => e = .returned (.int .i64 (pre l.reverse m.reverse : Int)) ∧ ∃ q, w' = w.drewN q := by
  obtain ⟨⟨_, A, ca, rfl, hca, hma, hxa⟩, _⟩ := h1
  obtain ⟨⟨_, B, cb, rfl, hcb, hmb, hxb⟩, _⟩ := h2
  have HXA := hide hxa
  have HXB := hide hxb
  clear hxa hxb
  go_enter Try.func51, Try.ntmps51
  go_wp2_with fail
  go_loopw [5] (fun i wr => ∃ k q : Nat, k ≤ l.length ∧ k ≤ m.length ∧ i = .int .i64 (k : Int) ∧ Hid (l.reverse.take k = m.reverse.take k) ∧ Hid (wr = w.drewN q)) (fun i _ => l.length - (intOf i).toNat)
  case atStart => exact ⟨0, 0, Nat.zero_le _, Nat.zero_le _, rfl, rfl, rfl⟩
  case round =>
    obtain ⟨k, q, hk1, hk2, rfl, ht, hwr⟩ := hrel
    have hwr' := hwr.out
    subst hwr'
    clear hwr
    by_cases hA : k < l.length
    · have hA1 : (k : Int) < (l.length : Int) := by omega
      have hA2 : decide ((k : Int) < (l.length : Int)) = true := by simpa using hA1
      have hA3 : decide (k < l.length) = true := by simpa using hA
      by_cases hB : k < m.length
      · have hB1 : (k : Int) < (m.length : Int) := by omega
        have hB2 : decide ((k : Int) < (m.length : Int)) = true := by simpa using hB1
        have hB3 : decide (k < m.length) = true := by simpa using hB
        obtain ⟨ba, oa, rfl, hba, hja⟩ := HXA.out (by omega)
        obtain ⟨bb, ob, rfl, hbb, hjb⟩ := HXB.out (by omega)
        have c1 : w.cell? ⟨ba, oa + (l.length - 1 - k), none⟩ = some (.string (l[l.length - 1 - k]'(by omega))) := hja _ _ (by rw [List.getElem?_map, List.getElem?_eq_getElem (by omega)]; rfl)
        have c2 : w.cell? ⟨bb, ob + (m.length - 1 - k), none⟩ = some (.string (m[m.length - 1 - k]'(by omega))) := hjb _ _ (by rw [List.getElem?_map, List.getElem?_eq_getElem (by omega)]; rfl)
        clear hja hjb
        have i1 : (0 : Int) ≤ (l.length : Int) - 1 - (k : Int) := by omega
        have i2 : (l.length : Int) - 1 - (k : Int) < (l.length : Int) := by omega
        have i3 : ((l.length : Int) - 1 - (k : Int)).toNat = l.length - 1 - k := by omega
        have j1 : (0 : Int) ≤ (m.length : Int) - 1 - (k : Int) := by omega
        have j2 : (m.length : Int) - 1 - (k : Int) < (m.length : Int) := by omega
        have j3 : ((m.length : Int) - 1 - (k : Int)).toNat = m.length - 1 - k := by omega
        by_cases he : (l[l.length - 1 - k]'(by omega)) = (m[m.length - 1 - k]'(by omega))
        · have he' : ((l[l.length - 1 - k]'(by omega)).toList == (m[m.length - 1 - k]'(by omega)).toList) = true := by rw [he]; simp
          have HT : Hid (l.reverse.take (k + 1) = m.reverse.take (k + 1)) := hide (take_ext ht.out (by simpa using hA) (by simpa using hB) (by simpa using he))
          clear he
          go_wp2_with fail
          go_quiet (fail)
          clear c1 c2
          go_wp2_with fail
          go_roundw
          case rel => exact ⟨k + 1, _, by omega, by omega, by go_num, HT, hide rfl⟩
          case measure => simp [intOf]; omega
        · have he' : ((l[l.length - 1 - k]'(by omega)).toList == (m[m.length - 1 - k]'(by omega)).toList) = false := by
            cases hq : ((l[l.length - 1 - k]'(by omega)).toList == (m[m.length - 1 - k]'(by omega)).toList)
            · rfl
            · exact absurd (bytes_eq hq) he
          have HP : Hid (pre l.reverse m.reverse = k) := hide (pre_stop l.reverse m.reverse k (by simpa using hk1) (by simpa using hk2) ht.out (.inr (.inr (by rw [List.getElem?_eq_getElem (by simpa using hA), List.getElem?_eq_getElem (by simpa using hB)]; intro h; injection h with h; exact he (by simpa using h)))))
          clear he
          go_wp2_with fail
          go_quiet (fail)
          clear c1 c2
          go_wp2_with fail
          go_ret
          exact ⟨by rw [HP.out]; rfl, q + nq, by first | rfl | exact World.drewN_drewN _ _ _ | simp [World.drewN, Nat.add_assoc]⟩
      · have hB2 : decide ((k : Int) < (m.length : Int)) = false := by simp; omega
        have hB1 : ¬ ((k : Int) < (m.length : Int)) := by omega
        have hB3 : decide (k < m.length) = false := by simpa using hB
        have HP : Hid (pre l.reverse m.reverse = k) := hide (pre_stop l.reverse m.reverse k (by simpa using hk1) (by simpa using hk2) ht.out (.inr (.inl (by simp; omega))))
        go_wp2_with fail
        go_quiet (fail)
        go_wp2_with fail
        go_ret
        exact ⟨by rw [HP.out]; rfl, q + nq, by first | rfl | exact World.drewN_drewN _ _ _ | simp [World.drewN, Nat.add_assoc]⟩
    · have hA2 : decide ((k : Int) < (l.length : Int)) = false := by simp; omega
      have hA1 : ¬ ((k : Int) < (l.length : Int)) := by omega
      have hA3 : decide (k < l.length) = false := by simpa using hA
      have HP : Hid (pre l.reverse m.reverse = k) := hide (pre_stop l.reverse m.reverse k (by simpa using hk1) (by simpa using hk2) ht.out (.inl (by simp; omega)))
      go_wp2_with fail
      go_quiet (fail)
      go_wp2_with fail
      go_ret
      exact ⟨by rw [HP.out]; rfl, q + nq, by first | rfl | exact World.drewN_drewN _ _ _ | simp [World.drewN, Nat.add_assoc]⟩
end Go.Proofs.Ytfjbdbdjhkmifaa
