import Derived.Test.YtinpgnekjebipaaDoorDiff
import Derived.Test.YtinpgnekjebipaaDoorPairs
set_option linter.unusedSimpArgs false
set_option linter.unusedVariables false
namespace Go.Proofs.YtinpgnekjebipaaDoor
open Go.RowKit Go.Pw

/-- the world in which 'diff' begins its work -/
def diffStart (w : World) (va vb : Value) : World :=
  ((((w.alloc (.cells #[va] 44)).alloc (.cells #[vb] 44)).alloc (.cells #[.slice none 0 0] 32)).alloc (.cells #[.int .i64 0] 3)).alloc (.cells #[.int .i64 0] 3)
theorem diffStart_env (w : World) (va vb : Value) : DiffEnv w (diffStart w va vb) w.heap.size va vb 0 0 (.slice none 0 0) [] := by
  have hz : (diffStart w va vb).heap = ((((w.heap.push (.cells #[va] 44)).push (.cells #[vb] 44)).push (.cells #[.slice none 0 0] 32)).push (.cells #[.int .i64 0] 3)).push (.cells #[.int .i64 0] 3) := rfl
  refine ⟨?_, by rw [hz]; simp, ?_, ?_, ?_, ?_, ?_, HunksOwn.nil _ _ _ _⟩
  · exact (((((Below.refl _ _).alloc (Nat.le_refl _) _).alloc (by simp) _).alloc (by simp; omega) _).alloc (by simp; omega) _).alloc (by simp; omega) _
  all_goals (rw [hz]; simp only [Array.getElem?_push, Array.size_push])
  · rw [if_neg (by omega), if_neg (by omega), if_neg (by omega), if_neg (by omega), if_pos (by first | trivial | omega)]
  · rw [if_neg (by omega), if_neg (by omega), if_neg (by omega), if_pos (by first | trivial | omega)]
  · rw [if_neg (by omega), if_neg (by omega), if_pos (by first | trivial | omega)]
  · rw [if_neg (by omega), if_pos (by first | trivial | omega)]; rfl
  · rw [if_pos (by first | trivial | omega)]; rfl
theorem diffStart_size (w : World) (va vb : Value) : (diffStart w va vb).heap.size = w.heap.size + 5 := by simp [diffStart]
theorem Chain.length_le {n m : Nat} : ∀ {f t : Nat} {ps : List (Nat × Nat)}, Chain n m f t ps → ps.length + f ≤ n
  | f, t, [], h => by simp; exact h.1
  | f, t, p :: ps, h => by have := Chain.length_le h.2.2.2.2; have := h.1; simp; omega

theorem pairCells_length (l : List (Nat × Nat)) : (pairCells l).length = l.length * 2 := by
  induction l with
  | nil => rfl
  | cons x l ih => simp [pairCells, ih]; omega
theorem pairCells_atD : ∀ (l : List (Nat × Nat)) (j : Nat) (hj : j < l.length), (pairCells l)[2 * j]? = some (.int .i64 (l[j].1 : Int)) ∧ (pairCells l)[2 * j + 1]? = some (.int .i64 (l[j].2 : Int))
  | p :: ps, 0, _ => by simp [pairCells]
  | p :: ps, j + 1, h => by
    have := pairCells_atD ps j (by simpa using h)
    rw [show 2 * (j + 1) = 2 * j + 1 + 1 by omega]
    simpa [pairCells] using this

theorem gap_length (a b : List ByteArray) (f t x y : Nat) : (gap a b f t x y).length ≤ 1 := by unfold gap; split <;> simp

/-- the pairs' row, while out's row is written -/
theorem own_only {w w' : World} {N base : Nat} {v vp : Value} {n : Nat} {hs : List Hk} {xs : List Value} (h : w.ownsRow base 92 2 vp n xs) (hb : N + 5 ≤ base) (ho : HunksOwn w 46 (N + 5) (N + 5) v hs) (hk : Only N v w w') : w'.ownsRow base 92 2 vp n xs := by
  refine ⟨h.1, ?_⟩
  rcases h.2 with h2 | ⟨g, cap, cur, hv, hg, hh, r⟩
  · exact .inl h2
  · refine .inr ⟨g, cap, cur, hv, hg, ?_, r⟩
    obtain ⟨hlt, _⟩ := Array.getElem?_eq_some_iff.1 hh
    rw [hk g hlt (by omega) (by omega) (by omega) ?_]
    · exact hh
    · intro e
      obtain ⟨vs, _, hrow, _⟩ := ho
      rcases hrow.2 with ⟨rfl, _⟩ | ⟨g2, cap2, cur2, rfl, _, hh2, _⟩
      · simp [Value.ownBlock] at e
      · simp [Value.ownBlock] at e
        subst e
        rw [hh] at hh2
        simp at hh2

set_option maxHeartbeats 2000000 in
set_option maxRecDepth 100000 in
theorem diff_own (va vb : Value) (a b : List ByteArray) (w : World) (ha : Strs w va a) (hb : Strs w vb b) (hla : a.length ≤ 1000) (hlb : b.length ≤ 1000) :
    Calls Tryd.prog 41 #[va, vb] w fun e w' => ∃ v, e = .returned v ∧ HunksOwn w' 46 (w.heap.size + 5) (w.heap.size + 5) v (hunksOf a b 0 0 (stayAt a b 0 0)) ∧ Below w.heap.size w w' := by
  have HA := hide ha
  have HB := hide hb
  obtain ⟨⟨_, A, ca, rfl, hca, hma, _⟩, _⟩ := ha
  obtain ⟨⟨_, B, cb, rfl, hcb, hmb, _⟩, _⟩ := hb
  go_enter Tryd.func41, Tryd.ntmps41
  go_wp2_with fail
  have hb0 : Below w.heap.size w (diffStart w (.slice A a.length ca) (.slice B b.length cb)) := (diffStart_env _ _ _).bl
  have hst : Hid (DiffEnv w (diffStart w (.slice A a.length ca) (.slice B b.length cb)) w.heap.size (.slice A a.length ca) (.slice B b.length cb) 0 0 (.slice none 0 0) []) := diffStart_env _ _ _
  have hsz := diffStart_size w (.slice A a.length ca) (.slice B b.length cb)
  change Calls _ _ _ (diffStart w (.slice A a.length ca) (.slice B b.length cb)) _
  generalize diffStart w (.slice A a.length ca) (.slice B b.length cb) = w1 at *
  have HSZ := hide hsz
  clear hsz
  refine (stay_any _ _ a b _ (HA.out.below hb0) (HB.out.below hb0) hla hlb).mono ?_
  rintro e w2 ⟨vp, rfl, hown, hb2⟩
  have hst2 := hide (hst.out.below hb2)
  have hbl2 : Below w.heap.size w w2 := hb0.trans (hb2.mono (by have := HSZ.out; omega))
  rw [HSZ.out] at hown
  clear hst hb0 hb2
  obtain ⟨ps, hps⟩ : ∃ ps, ps = stayAt a b 0 0 := ⟨_, rfl⟩
  rw [← hps] at hown
  have hch : Chain a.length b.length 0 0 ps := by rw [hps]; exact stay_chain a b
  have HPS := hide hps
  clear hps HSZ
  have hpl := hown.1
  obtain ⟨PA, pc, hvp, hpn⟩ : ∃ PA pc, vp = .slice PA ps.length pc ∧ ps.length ≤ pc := by
    rcases hown.2 with ⟨rfl, h0⟩ | ⟨g, cap, cur, rfl, _, _, hn, _⟩
    · exact ⟨none, 0, by rw [h0], by omega⟩
    · exact ⟨_, cap, rfl, hn⟩
  subst hvp
  have HOWN := hide hown
  have HCH := hide hch
  clear hown hch hpl
  have hps1 : ps.length ≤ 1000 := by have := Chain.length_le HCH.out; omega
  go_wp2_with fail
  go_loopw [16] (fun i wr => ∃ (j f t : Nat) (v : Value) (hs : List Hk), j ≤ ps.length ∧ i = .int .i64 (j : Int) ∧ Hid (Chain a.length b.length f t (ps.drop j)) ∧ hs.length ≤ f ∧ Hid (hs ++ hunksOf a b f t (ps.drop j) = hunksOf a b 0 0 ps) ∧
      Hid (DiffEnv w wr w.heap.size (.slice A a.length ca) (.slice B b.length cb) f t v hs) ∧ Hid (wr.ownsRow (w.heap.size + 5) 92 2 (.slice PA ps.length pc) ps.length (pairCells ps)))
    (fun i _ => ps.length - (intOf i).toNat)
  case atStart => exact ⟨0, 0, 0, _, [], by omega, rfl, HCH, by simp, rfl, hst2, HOWN⟩
  case round =>
    clear hst2 HOWN HCH hbl2
    obtain ⟨j, f, t, v, hs, hj, rfl, hch, hlen, heq, henv, hown⟩ := hrel
    by_cases hlt : j < ps.length
    · obtain ⟨_, PA', pc', hv, _, _, hrd⟩ := Rd.of_own hown.out
      injection hv with e1 _ e3
      subst e1 e3
      obtain ⟨g, o, rfl, hg, hcl⟩ := hrd (by omega)
      have hat := pairCells_atD ps j hlt
      have c0 : wr.cell? ⟨g, o + j * 2, none⟩ = some (.int .i64 (ps[j].1 : Int)) := by rw [Nat.mul_comm]; exact hcl _ _ hat.1
      have c1 : wr.cell? ⟨g, o + j * 2 + 1, none⟩ = some (.int .i64 (ps[j].2 : Int)) := by rw [Nat.mul_comm]; exact hcl _ _ hat.2
      clear hcl hat
      have hdr : ps.drop j = ps[j] :: ps.drop (j + 1) := List.drop_eq_getElem_cons hlt
      have hch' := hch.out
      rw [hdr] at hch'
      obtain ⟨k1, k2, k3, k4, k5⟩ := hch'
      have heq' := heq.out
      rw [hdr, hunksOf, ← List.append_assoc] at heq'
      have HEQ := hide heq'
      have K5 := hide k5
      have hgl := gap_length a b f t ps[j].1 ps[j].2
      clear hdr heq' heq hch k5
      have hfl : f ≤ 1000 := by omega
      go_wp2_with fail
      have hen2 := hide (henv.out.below ((Below.refl _ _).alloc (Nat.le_refl _) (.cells #[.int .i64 (ps[j].1 : Int), .int .i64 (ps[j].2 : Int)] 92)))
      have how2 := hide (own_below hown.out ((Below.refl _ _).alloc (Nat.le_refl _) (.cells #[.int .i64 (ps[j].1 : Int), .int .i64 (ps[j].2 : Int)] 92)))
      refine (add_any w _ (.slice A a.length ca) (.slice B b.length cb) v a b f t ps[j].1 ps[j].2 hs HA.out HB.out hla hlb k1 k2 (by omega) (by omega) hen2.out (by omega)).mono ?_
      rintro e w4 ⟨rfl, v', henv', honly⟩
      have hown' := hide (own_only how2.out (Nat.le_refl _) hen2.out.own honly)
      have HEN := hide henv'
      clear henv henv' honly hown hen2 how2 c0 c1
      go_wp2_with fail
      go_roundw
      case rel => exact ⟨j + 1, ps[j].1 + 1, ps[j].2 + 1, v', hs ++ gap a b f t ps[j].1 ps[j].2, by omega, by go_num, K5, by simp; omega, HEQ, HEN, hown'⟩
      case measure => simp [intOf]; omega
    · have hdr : ps.drop j = [] := List.drop_of_length_le (by omega)
      have heq' := heq.out
      have hch' := hch.out
      rw [hdr] at hch' heq'
      have HEQ := hide heq'
      have hfl : f ≤ a.length := hch'.1
      have htl : t ≤ b.length := hch'.2
      clear hdr heq' heq hch hch' hown
      have cA := cell_of_one henv.out.ba
      have cB := cell_of_one henv.out.bb
      go_wp2_with fail
      refine (add_any w _ (.slice A a.length ca) (.slice B b.length cb) v a b f t a.length b.length hs HA.out HB.out hla hlb hfl htl (Nat.le_refl _) (Nat.le_refl _) henv.out (by omega)).mono ?_
      rintro e w4 ⟨rfl, v', henv', honly⟩
      have cO := cell_of_one henv'.bo
      have HEN := hide henv'
      clear henv henv' honly cA cB
      go_wp2_with fail
      go_ret
      refine ⟨v', rfl, ?_, HEN.out.bl⟩
      have := HEN.out.own
      rw [← HPS.out, ← HEQ.out]
      exact this
theorem diff_any (va vb : Value) (a b : List ByteArray) (w : World) (ha : Strs w va a) (hb : Strs w vb b) (hla : a.length ≤ 1000) (hlb : b.length ≤ 1000) :
    Calls Tryd.prog 41 #[va, vb] w fun e w' => ∃ v, e = .returned v ∧ Hunks w' v (hunksOf a b 0 0 (stayAt a b 0 0)) ∧ Below w.heap.size w w' := by
  refine (diff_own va vb a b w ha hb hla hlb).mono ?_
  rintro e w' ⟨v, rfl, h, hb⟩
  exact ⟨v, rfl, h.read, hb⟩
end Go.Proofs.YtinpgnekjebipaaDoor
