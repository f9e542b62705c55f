/- Plain: pairs of lines that stay, in order. -/
import Derived.Test.YtinpgnekjebipaaDoorLcs
import Derived.Test.YtinpgnekjebipaaDoorDiff
import Derived.Test.YtinpgnekjebipaaDoorSame
import Derived.Test.YtinpgnekjebipaaDoorUrY
/- Pairs -/
set_option linter.unusedVariables false
namespace Go.Pw
variable {α : Type} [DecidableEq α]

/-- pairs that go up, from (f, t) on, below (n, m) -/
def Chain (n m : Nat) : Nat → Nat → List (Nat × Nat) → Prop
  | f, t, [] => f ≤ n ∧ t ≤ m
  | f, t, p :: ps => f ≤ p.1 ∧ t ≤ p.2 ∧ p.1 < n ∧ p.2 < m ∧ Chain n m (p.1 + 1) (p.2 + 1) ps
theorem Chain.weaken {n m f f' t t' : Nat} : ∀ {ps : List (Nat × Nat)}, Chain n m f t ps → f' ≤ f → t' ≤ t → Chain n m f' t' ps
  | [], h, h1, h2 => ⟨by have := h.1; omega, by have := h.2; omega⟩
  | p :: ps, h, h1, h2 => ⟨by have := h.1; omega, by have := h.2.1; omega, h.2.2.1, h.2.2.2.1, h.2.2.2.2⟩
theorem Chain.le {n m f t : Nat} : ∀ {ps : List (Nat × Nat)}, Chain n m f t ps → f ≤ n ∧ t ≤ m
  | [], h => h
  | p :: ps, h => ⟨by have := h.1; have := h.2.2.1; omega, by have := h.2.1; have := h.2.2.2.1; omega⟩
theorem stayL_chain (n m : Nat) : ∀ (xs ys : List α) (i k : Nat), i + xs.length = n → k + ys.length = m → Chain n m i k (stayL xs ys i k)
  | [], ys, i, k, h1, h2 => ⟨by simp at h1; omega, by omega⟩
  | x :: xs, ys, i, k, h1, h2 => by
    simp only [List.length_cons] at h1
    rw [stayL]
    split
    · exact ⟨by omega, by omega⟩
    · cases hp : place x ys with
      | none => exact (stayL_chain n m xs ys (i + 1) k (by omega) h2).weaken (by omega) (Nat.le_refl _)
      | some j =>
        have hj := place_lt hp
        simp only
        split
        · exact ⟨Nat.le_refl _, by simp, by simp; omega, by simp; omega, stayL_chain n m xs (ys.drop (j + 1)) (i + 1) (k + j + 1) (by omega) (by simp; omega)⟩
        · exact (stayL_chain n m xs ys (i + 1) k (by omega) h2).weaken (by omega) (Nat.le_refl _)
theorem stay_chain (a b : List α) : Chain a.length b.length 0 0 (stayAt a b 0 0) := stayL_chain _ _ _ _ _ _ (by simp) (by simp)
end Go.Pw

/- DiffB -/
set_option linter.unusedSimpArgs false
set_option linter.unusedVariables false
namespace Go.Proofs.YtinpgnekjebipaaDoor
open Go.RowKit Go.Pw

/-- the world in which 'diff' begins its work -/
def diffStart (w : World) (va vb : Value) : World :=
  ((((w.alloc (.cells #[va] 44)).alloc (.cells #[vb] 44)).alloc (.cells #[.slice none 0 0] 32)).alloc (.cells #[.int .i64 0] 3)).alloc (.cells #[.int .i64 0] 3)
theorem diffStart_env (w : World) (va vb : Value) : DiffEnv w (diffStart w va vb) w.heap.size va vb 0 0 (.slice none 0 0) [] := by
  have hz : (diffStart w va vb).heap = ((((w.heap.push (.cells #[va] 44)).push (.cells #[vb] 44)).push (.cells #[.slice none 0 0] 32)).push (.cells #[.int .i64 0] 3)).push (.cells #[.int .i64 0] 3) := rfl
  refine ⟨?_, by rw [hz]; simp, ?_, ?_, ?_, ?_, ?_, HunksOwn.nil _ _ _ _⟩
  · exact (((((Below.refl _ _).alloc (Nat.le_refl _) _).alloc (by simp) _).alloc (by simp; omega) _).alloc (by simp; omega) _).alloc (by simp; omega) _
  all_goals (rw [hz]; simp only [Array.getElem?_push, Array.size_push])
  · rw [if_neg (by omega), if_neg (by omega), if_neg (by omega), if_neg (by omega), if_pos (by first | trivial | omega)]
  · rw [if_neg (by omega), if_neg (by omega), if_neg (by omega), if_pos (by first | trivial | omega)]
  · rw [if_neg (by omega), if_neg (by omega), if_pos (by first | trivial | omega)]
  · rw [if_neg (by omega), if_pos (by first | trivial | omega)]; rfl
  · rw [if_pos (by first | trivial | omega)]; rfl
theorem diffStart_size (w : World) (va vb : Value) : (diffStart w va vb).heap.size = w.heap.size + 5 := by simp [diffStart]
theorem Chain.length_le {n m : Nat} : ∀ {f t : Nat} {ps : List (Nat × Nat)}, Chain n m f t ps → ps.length + f ≤ n
  | f, t, [], h => by simp; exact h.1
  | f, t, p :: ps, h => by have := Chain.length_le h.2.2.2.2; have := h.1; simp; omega

theorem pairCells_length (l : List (Nat × Nat)) : (pairCells l).length = l.length * 2 := by
  induction l with
  | nil => rfl
  | cons x l ih => simp [pairCells, ih]; omega
theorem pairCells_atD : ∀ (l : List (Nat × Nat)) (j : Nat) (hj : j < l.length), (pairCells l)[2 * j]? = some (.int .i64 (l[j].1 : Int)) ∧ (pairCells l)[2 * j + 1]? = some (.int .i64 (l[j].2 : Int))
  | p :: ps, 0, _ => by simp [pairCells]
  | p :: ps, j + 1, h => by
    have := pairCells_atD ps j (by simpa using h)
    rw [show 2 * (j + 1) = 2 * j + 1 + 1 by omega]
    simpa [pairCells] using this

theorem gap_length (a b : List ByteArray) (f t x y : Nat) : (gap a b f t x y).length ≤ 1 := by unfold gap; split <;> simp

/-- the pairs' row, while out's row is written -/
theorem own_only {w w' : World} {N base : Nat} {v vp : Value} {n : Nat} {hs : List Hk} {xs : List Value} (h : w.ownsRow base 92 2 vp n xs) (hb : N + 5 ≤ base) (ho : HunksOwn w 46 (N + 5) (N + 5) v hs) (hk : Only N v w w') : w'.ownsRow base 92 2 vp n xs := by
  refine ⟨h.1, ?_⟩
  rcases h.2 with h2 | ⟨g, cap, cur, hv, hg, hh, r⟩
  · exact .inl h2
  · refine .inr ⟨g, cap, cur, hv, hg, ?_, r⟩
    obtain ⟨hlt, _⟩ := Array.getElem?_eq_some_iff.1 hh
    rw [hk g hlt (by omega) (by omega) (by omega) ?_]
    · exact hh
    · intro e
      obtain ⟨vs, _, hrow, _⟩ := ho
      rcases hrow.2 with ⟨rfl, _⟩ | ⟨g2, cap2, cur2, rfl, _, hh2, _⟩
      · simp [Value.ownBlock] at e
      · simp [Value.ownBlock] at e
        subst e
        rw [hh] at hh2
        simp at hh2

set_option maxHeartbeats 2000000 in
set_option maxRecDepth 100000 in
theorem diff_own (va vb : Value) (a b : List ByteArray) (w : World) (ha : Strs w va a) (hb : Strs w vb b) (hla : a.length ≤ 1000) (hlb : b.length ≤ 1000) :
    Calls Tryd.prog 41 #[va, vb] w fun e w' => ∃ v, e = .returned v ∧ HunksOwn w' 46 (w.heap.size + 5) (w.heap.size + 5) v (hunksOf a b 0 0 (stayAt a b 0 0)) ∧ Below w.heap.size w w' := by
  have HA := hide ha
  have HB := hide hb
  obtain ⟨⟨_, A, ca, rfl, hca, hma, _⟩, _⟩ := ha
  obtain ⟨⟨_, B, cb, rfl, hcb, hmb, _⟩, _⟩ := hb
  go_enter Tryd.func41, Tryd.ntmps41
  go_wp2_with fail
  have hb0 : Below w.heap.size w (diffStart w (.slice A a.length ca) (.slice B b.length cb)) := (diffStart_env _ _ _).bl
  have hst : Hid (DiffEnv w (diffStart w (.slice A a.length ca) (.slice B b.length cb)) w.heap.size (.slice A a.length ca) (.slice B b.length cb) 0 0 (.slice none 0 0) []) := diffStart_env _ _ _
  have hsz := diffStart_size w (.slice A a.length ca) (.slice B b.length cb)
  change Calls _ _ _ (diffStart w (.slice A a.length ca) (.slice B b.length cb)) _
  generalize diffStart w (.slice A a.length ca) (.slice B b.length cb) = w1 at *
  have HSZ := hide hsz
  clear hsz
  refine (stay_any _ _ a b _ (HA.out.below hb0) (HB.out.below hb0) hla hlb).mono ?_
  rintro e w2 ⟨vp, rfl, hown, hb2⟩
  have hst2 := hide (hst.out.below hb2)
  have hbl2 : Below w.heap.size w w2 := hb0.trans (hb2.mono (by have := HSZ.out; omega))
  rw [HSZ.out] at hown
  clear hst hb0 hb2
  obtain ⟨ps, hps⟩ : ∃ ps, ps = stayAt a b 0 0 := ⟨_, rfl⟩
  rw [← hps] at hown
  have hch : Chain a.length b.length 0 0 ps := by rw [hps]; exact stay_chain a b
  have HPS := hide hps
  clear hps HSZ
  have hpl := hown.1
  obtain ⟨PA, pc, hvp, hpn⟩ : ∃ PA pc, vp = .slice PA ps.length pc ∧ ps.length ≤ pc := by
    rcases hown.2 with ⟨rfl, h0⟩ | ⟨g, cap, cur, rfl, _, _, hn, _⟩
    · exact ⟨none, 0, by rw [h0], by omega⟩
    · exact ⟨_, cap, rfl, hn⟩
  subst hvp
  have HOWN := hide hown
  have HCH := hide hch
  clear hown hch hpl
  have hps1 : ps.length ≤ 1000 := by have := Chain.length_le HCH.out; omega
  go_wp2_with fail
  go_loopw [16] (fun i wr => ∃ (j f t : Nat) (v : Value) (hs : List Hk), j ≤ ps.length ∧ i = .int .i64 (j : Int) ∧ Hid (Chain a.length b.length f t (ps.drop j)) ∧ hs.length ≤ f ∧ Hid (hs ++ hunksOf a b f t (ps.drop j) = hunksOf a b 0 0 ps) ∧
      Hid (DiffEnv w wr w.heap.size (.slice A a.length ca) (.slice B b.length cb) f t v hs) ∧ Hid (wr.ownsRow (w.heap.size + 5) 92 2 (.slice PA ps.length pc) ps.length (pairCells ps)))
    (fun i _ => ps.length - (intOf i).toNat)
  case atStart => exact ⟨0, 0, 0, _, [], by omega, rfl, HCH, by simp, rfl, hst2, HOWN⟩
  case round =>
    clear hst2 HOWN HCH hbl2
    obtain ⟨j, f, t, v, hs, hj, rfl, hch, hlen, heq, henv, hown⟩ := hrel
    by_cases hlt : j < ps.length
    · obtain ⟨_, PA', pc', hv, _, _, hrd⟩ := Rd.of_own hown.out
      injection hv with e1 _ e3
      subst e1 e3
      obtain ⟨g, o, rfl, hg, hcl⟩ := hrd (by omega)
      have hat := pairCells_atD ps j hlt
      have c0 : wr.cell? ⟨g, o + j * 2, none⟩ = some (.int .i64 (ps[j].1 : Int)) := by rw [Nat.mul_comm]; exact hcl _ _ hat.1
      have c1 : wr.cell? ⟨g, o + j * 2 + 1, none⟩ = some (.int .i64 (ps[j].2 : Int)) := by rw [Nat.mul_comm]; exact hcl _ _ hat.2
      clear hcl hat
      have hdr : ps.drop j = ps[j] :: ps.drop (j + 1) := List.drop_eq_getElem_cons hlt
      have hch' := hch.out
      rw [hdr] at hch'
      obtain ⟨k1, k2, k3, k4, k5⟩ := hch'
      have heq' := heq.out
      rw [hdr, hunksOf, ← List.append_assoc] at heq'
      have HEQ := hide heq'
      have K5 := hide k5
      have hgl := gap_length a b f t ps[j].1 ps[j].2
      clear hdr heq' heq hch k5
      have hfl : f ≤ 1000 := by omega
      go_wp2_with fail
      have hen2 := hide (henv.out.below ((Below.refl _ _).alloc (Nat.le_refl _) (.cells #[.int .i64 (ps[j].1 : Int), .int .i64 (ps[j].2 : Int)] 92)))
      have how2 := hide (own_below hown.out ((Below.refl _ _).alloc (Nat.le_refl _) (.cells #[.int .i64 (ps[j].1 : Int), .int .i64 (ps[j].2 : Int)] 92)))
      refine (add_any w _ (.slice A a.length ca) (.slice B b.length cb) v a b f t ps[j].1 ps[j].2 hs HA.out HB.out hla hlb k1 k2 (by omega) (by omega) hen2.out (by omega)).mono ?_
      rintro e w4 ⟨rfl, v', henv', honly⟩
      have hown' := hide (own_only how2.out (Nat.le_refl _) hen2.out.own honly)
      have HEN := hide henv'
      clear henv henv' honly hown hen2 how2 c0 c1
      go_wp2_with fail
      go_roundw
      case rel => exact ⟨j + 1, ps[j].1 + 1, ps[j].2 + 1, v', hs ++ gap a b f t ps[j].1 ps[j].2, by omega, by go_num, K5, by simp; omega, HEQ, HEN, hown'⟩
      case measure => simp [intOf]; omega
    · have hdr : ps.drop j = [] := List.drop_of_length_le (by omega)
      have heq' := heq.out
      have hch' := hch.out
      rw [hdr] at hch' heq'
      have HEQ := hide heq'
      have hfl : f ≤ a.length := hch'.1
      have htl : t ≤ b.length := hch'.2
      clear hdr heq' heq hch hch' hown
      have cA := cell_of_one henv.out.ba
      have cB := cell_of_one henv.out.bb
      go_wp2_with fail
      refine (add_any w _ (.slice A a.length ca) (.slice B b.length cb) v a b f t a.length b.length hs HA.out HB.out hla hlb hfl htl (Nat.le_refl _) (Nat.le_refl _) henv.out (by omega)).mono ?_
      rintro e w4 ⟨rfl, v', henv', honly⟩
      have cO := cell_of_one henv'.bo
      have HEN := hide henv'
      clear henv henv' honly cA cB
      go_wp2_with fail
      go_ret
      refine ⟨v', rfl, ?_, HEN.out.bl⟩
      have := HEN.out.own
      rw [← HPS.out, ← HEQ.out]
      exact this
theorem diff_any (va vb : Value) (a b : List ByteArray) (w : World) (ha : Strs w va a) (hb : Strs w vb b) (hla : a.length ≤ 1000) (hlb : b.length ≤ 1000) :
    Calls Tryd.prog 41 #[va, vb] w fun e w' => ∃ v, e = .returned v ∧ Hunks w' v (hunksOf a b 0 0 (stayAt a b 0 0)) ∧ Below w.heap.size w w' := by
  refine (diff_own va vb a b w ha hb hla hlb).mono ?_
  rintro e w' ⟨v, rfl, h, hb⟩
  exact ⟨v, rfl, h.read, hb⟩
end Go.Proofs.YtinpgnekjebipaaDoor

/- DiffC -/
set_option linter.unusedSimpArgs false
set_option linter.unusedVariables false
namespace Go.Proofs.YtinpgnekjebipaaDoor
open Go.RowKit Go.Pw

/-- what Diff returns as hunks -/
def diffOf (a b : List ByteArray) : List Hk := hunksOf a b 0 0 (stayAt a b 0 0)

theorem strsL_two (w : World) (va vb : Value) (a b : List ByteArray) (t : TypeId) (ha : Strs w va a) (hb : Strs w vb b) :
    StrsL (w.alloc (.cells #[va, vb] t)) (.slice (some ⟨w.heap.size, 0, none⟩) 2 2) [a, b] := by
  refine ⟨[va, vb], rfl, ⟨rfl, _, 2, rfl, Nat.le_refl _, by unfold maxLen; omega, fun _ => ⟨w.heap.size, 0, rfl, by simp, ?_⟩⟩, ?_⟩
  · intro j u hu
    match j, hu with
    | 0, hu => simp at hu; subst hu; simp [World.cell?_alloc_new]
    | 1, hu => simp at hu; subst hu; simp [World.cell?_alloc_new]
    | j + 2, hu => simp at hu
  · intro i u l hu hl
    match i, hu, hl with
    | 0, hu, hl => simp at hu hl; subst hu hl; exact ha.alloc _
    | 1, hu, hl => simp at hu hl; subst hu hl; exact hb.alloc _
    | j + 2, hu, _ => simp at hu

theorem fnz_zero {l : List Int} (h : firstNZ l = 0) : ∀ x ∈ l, x = 0 := by
  induction l with
  | nil => simp
  | cons x l ih =>
    rw [firstNZ] at h
    split at h
    · rename_i hx
      intro y hy
      rcases List.mem_cons.1 hy with rfl | hy
      · exact hx
      · exact ih h y hy
    · exact absurd h (by assumption)
theorem listErr_len {l : List ByteArray} (h : listErr l = 0) : l.length ≤ 1000 := by
  unfold listErr at h
  split at h
  · omega
  · omega
theorem lists_len {ls : List (List ByteArray)} (h : listsErr ls = 0) {l : List ByteArray} (hl : l ∈ ls) : l.length ≤ 1000 :=
  listErr_len (fnz_zero h _ (List.mem_map_of_mem hl))

set_option maxHeartbeats 1000000 in
theorem Diff_bad (va vb : Value) (a b : List ByteArray) (w : World) (ha : Strs w va a) (hb : Strs w vb b) (he : ¬ listsErr [a, b] = 0) :
    Calls Tryd.prog 21 #[va, vb] w fun e w' => e = .returned (.tuple #[.slice none 0 0, .int .i64 (listsErr [a, b])]) ∧ Below w.heap.size w w' := by
  have HA := hide ha
  have HB := hide hb
  obtain ⟨⟨_, A, ca, rfl, _⟩, _⟩ := ha
  obtain ⟨⟨_, B, cb, rfl, _⟩, _⟩ := hb
  have he' : (listsErr [a, b] != 0) = true := by simpa using he
  go_enter Tryd.func21, Tryd.ntmps21
  go_wp2_with fail
  refine (listed_any _ [a, b] _ (strsL_two w _ _ a b _ HA.out HB.out)).mono ?_
  rintro e w1 ⟨rfl, rfl⟩
  go_wp2_with fail
  go_ret2
  exact ⟨rfl, (Below.refl _ _).alloc (Nat.le_refl _) _⟩
set_option maxHeartbeats 1000000 in
theorem Diff_good (va vb : Value) (a b : List ByteArray) (w : World) (ha : Strs w va a) (hb : Strs w vb b) (he : listsErr [a, b] = 0) :
    Calls Tryd.prog 21 #[va, vb] w fun e w' => ∃ v, e = .returned (.tuple #[v, .int .i64 0]) ∧ Hunks w' v (diffOf a b) ∧ Below w.heap.size w w' := by
  have HA := hide ha
  have HB := hide hb
  obtain ⟨⟨_, A, ca, rfl, _⟩, _⟩ := ha
  obtain ⟨⟨_, B, cb, rfl, _⟩, _⟩ := hb
  have la := lists_len he (l := a) (by simp)
  have lb := lists_len he (l := b) (by simp)
  have HE := hide he
  clear he
  have bb := (Below.refl w.heap.size w).alloc (Nat.le_refl _) (.cells #[.slice A a.length ca, .slice B b.length cb] 44)
  go_enter Tryd.func21, Tryd.ntmps21
  go_wp2_with fail
  refine (listed_any _ [a, b] _ (strsL_two w _ _ a b _ HA.out HB.out)).mono ?_
  rintro e w1 ⟨rfl, rfl⟩
  rw [HE.out]
  go_wp2_with fail
  refine (diff_any _ _ a b _ (HA.out.below bb) (HB.out.below bb) la lb).mono ?_
  rintro e w1 ⟨v, rfl, hh, hb1⟩
  go_wp2_with fail
  go_ret2
  exact ⟨v, rfl, hh, bb.trans (hb1.mono (by simp))⟩
end Go.Proofs.YtinpgnekjebipaaDoor

/- Differs -/
set_option linter.unusedSimpArgs false
set_option linter.unusedVariables false
namespace Go.Proofs.YtinpgnekjebipaaDoor
open Go.RowKit Go.Pw

theorem strs_new (w : World) (l : List ByteArray) (t : TypeId) (hs : ∀ s ∈ l, s.size ≤ maxLen) (hl : l.length ≤ maxLen) :
    Strs (w.alloc (.cells (l.map Value.string).toArray t)) (.slice (some ⟨w.heap.size, 0, none⟩) l.length l.length) l := by
  refine ⟨⟨by simp, _, _, rfl, Nat.le_refl _, hl, fun _ => ⟨w.heap.size, 0, rfl, by simp, fun j u hu => ?_⟩⟩, hs⟩
  rw [World.cell?_alloc_new]
  simpa using hu

def sx : ByteArray := ⟨#[120]⟩
def sa : ByteArray := ⟨#[97]⟩
def sb : ByteArray := ⟨#[98]⟩
theorem xa : ¬ sx = sa := by decide
theorem xb : ¬ sx = sb := by decide
theorem ab : ¬ sa = sb := by decide
theorem ax : ¬ sa = sx := by decide
theorem bx : ¬ sb = sx := by decide
theorem ba : ¬ sb = sa := by decide
theorem differs_plain : diffOf [sx, sa, sb] [sa, sb, sx] = [⟨0, 0, [sx], []⟩, ⟨3, 2, [], [sx]⟩] := by
  simp [diffOf, stayAt, stayL, lcs, place, hunksOf, gap, part, xa, xb, ab, ax, bx, ba]
theorem differs_err : listsErr [[sx, sa, sb], [sa, sb, sx]] = 0 := by decide

theorem small_le {s : ByteArray} {l : List ByteArray} (h : s ∈ l) (hl : ∀ s ∈ l, s.size = 1) : s.size ≤ maxLen := by
  rw [hl s h]; unfold maxLen; omega

theorem size_alloc (w : World) (o : Obj) : (w.alloc o).heap.size = w.heap.size + 1 := by simp
theorem lit_x (w : World) : Strs (w.alloc (.cells #[.string ⟨#[120]⟩] 9)) (.slice (some ⟨w.heap.size, 0, none⟩) 1 1) [sx] :=
  strs_new w [sx] 9 (fun s h => small_le h (by decide)) (by show 1 ≤ maxLen; unfold maxLen; omega)
theorem lit_xab (w : World) : Strs (w.alloc (.cells #[.string ⟨#[120]⟩, .string ⟨#[97]⟩, .string ⟨#[98]⟩] 9)) (.slice (some ⟨w.heap.size, 0, none⟩) 3 3) [sx, sa, sb] :=
  strs_new w [sx, sa, sb] 9 (fun s h => small_le h (by decide)) (by show 3 ≤ maxLen; unfold maxLen; omega)
theorem lit_abx (w : World) : Strs (w.alloc (.cells #[.string ⟨#[97]⟩, .string ⟨#[98]⟩, .string ⟨#[120]⟩] 9)) (.slice (some ⟨w.heap.size, 0, none⟩) 3 3) [sa, sb, sx] :=
  strs_new w [sa, sb, sx] 9 (fun s h => small_le h (by decide)) (by show 3 ≤ maxLen; unfold maxLen; omega)
theorem lit_both (w : World) : Strs ((w.alloc (.cells #[.string ⟨#[120]⟩, .string ⟨#[97]⟩, .string ⟨#[98]⟩] 9)).alloc (.cells #[.string ⟨#[97]⟩, .string ⟨#[98]⟩, .string ⟨#[120]⟩] 9)) (.slice (some ⟨w.heap.size + 1, 0, none⟩) 3 3) [sa, sb, sx] := by
  have := lit_abx (w.alloc (.cells #[.string ⟨#[120]⟩, .string ⟨#[97]⟩, .string ⟨#[98]⟩] 9))
  rwa [size_alloc] at this

/-- the hunks that 'differs' expects, as they are laid -/
theorem lit_hunks (w : World) : Hunks (((w.alloc (.cells #[.string ⟨#[120]⟩] 9)).alloc (.cells #[.string ⟨#[120]⟩] 9)).alloc (.cells #[.int .i64 0, .int .i64 0, .slice (some ⟨w.heap.size, 0, none⟩) 1 1, .slice none 0 0, .int .i64 3, .int .i64 2, .slice none 0 0, .slice (some ⟨w.heap.size + 1, 0, none⟩) 1 1] 46))
    (.slice (some ⟨w.heap.size + 1 + 1, 0, none⟩) 2 2) [⟨0, 0, [sx], []⟩, ⟨3, 2, [], [sx]⟩] := by
  have h1 := ((lit_x w).alloc (.cells #[.string ⟨#[120]⟩] 9)).alloc (.cells #[.int .i64 0, .int .i64 0, .slice (some ⟨w.heap.size, 0, none⟩) 1 1, .slice none 0 0, .int .i64 3, .int .i64 2, .slice none 0 0, .slice (some ⟨w.heap.size + 1, 0, none⟩) 1 1] 46)
  have h2 := (lit_x (w.alloc (.cells #[.string ⟨#[120]⟩] 9))).alloc (.cells #[.int .i64 0, .int .i64 0, .slice (some ⟨w.heap.size, 0, none⟩) 1 1, .slice none 0 0, .int .i64 3, .int .i64 2, .slice none 0 0, .slice (some ⟨w.heap.size + 1, 0, none⟩) 1 1] 46)
  rw [size_alloc] at h2
  have hn : ∀ W : World, Strs W (.slice none 0 0) [] := fun W => ⟨Rd.nil _ _, by simp⟩
  refine ⟨[(.slice (some ⟨w.heap.size, 0, none⟩) 1 1, .slice none 0 0), (.slice none 0 0, .slice (some ⟨w.heap.size + 1, 0, none⟩) 1 1)], rfl, ⟨rfl, _, 2, rfl, Nat.le_refl _, by unfold maxLen; omega, fun _ => ⟨w.heap.size + 1 + 1, 0, rfl, by simp, ?_⟩⟩, ?_, ?_⟩
  · intro j u hu
    have e : w.heap.size + 1 + 1 = ((w.alloc (.cells #[.string ⟨#[120]⟩] 9)).alloc (.cells #[.string ⟨#[120]⟩] 9)).heap.size := by simp
    rw [e, World.cell?_alloc_new]
    simpa [hkCells] using hu
  · intro h hh
    simp at hh
    rcases hh with rfl | rfl <;> exact ⟨⟨by decide, by decide⟩, by decide, by decide⟩
  · intro i h o n e1 e2
    match i, e1, e2 with
    | 0, e1, e2 => simp at e1 e2; obtain ⟨rfl, rfl⟩ := e2; subst e1; exact ⟨h1, hn _⟩
    | 1, e1, e2 => simp at e1 e2; obtain ⟨rfl, rfl⟩ := e2; subst e1; exact ⟨hn _, h2⟩
    | j + 2, e1, _ => simp at e1

set_option maxHeartbeats 1000000 in
theorem differs_any (w : World) : Calls Tryd.prog 9 #[] w fun e w' => e = .returned (.bool true) ∧ Below w.heap.size w w' := by
  go_enter Tryd.func9, Tryd.ntmps9
  go_wp2_with fail
  refine (Diff_good _ _ [sx, sa, sb] [sa, sb, sx] _ ((lit_xab w).alloc _) (lit_both w) differs_err).mono ?_
  rintro e w1 ⟨v, rfl, hh, hb1⟩
  have HH := hide hh
  clear hh
  have hbl : Below w.heap.size w w1 := (below2 w _ _).trans (hb1.mono (by simp; omega))
  clear hb1
  go_wp2_with fail
  have b3 : Below w1.heap.size w1 (((w1.alloc (.cells #[.string ⟨#[120]⟩] 9)).alloc (.cells #[.string ⟨#[120]⟩] 9)).alloc (.cells #[.int .i64 0, .int .i64 0, .slice (some ⟨w1.heap.size, 0, none⟩) 1 1, .slice none 0 0, .int .i64 3, .int .i64 2, .slice none 0 0, .slice (some ⟨w1.heap.size + 1, 0, none⟩) 1 1] 46)) := (below2 _ _ _).alloc (by simp; omega) _
  refine (sameHunks_any _ _ _ _ _ (HH.out.below b3) (lit_hunks w1) (by rw [differs_plain]; decide) true ⟨fun _ => differs_plain, fun _ => rfl⟩).mono ?_
  rintro e w2 ⟨rfl, hb2⟩
  have hz := hbl.size
  have hz3 := b3.size
  have hfin : Below w.heap.size w w2 := (hbl.trans (b3.mono hz)).trans (hb2.mono (by omega))
  clear b3 hb2
  go_wp2_with fail
  go_ret
  exact ⟨rfl, hfin⟩
end Go.Proofs.YtinpgnekjebipaaDoor

/- UrL -/
set_option linter.unusedSimpArgs false
set_option linter.unusedVariables false
namespace Go.Pw
theorem urEnd_len (r : UrRes) : (urEnd r).1.length ≤ 1000 := by
  cases r with
  | bad i => simp [urEnd]
  | order => simp [urEnd]
  | ok u =>
    unfold urEnd
    dsimp only
    split
    · simp
    · rename_i h
      unfold Un.large at h
      simp only [Bool.or_eq_true, decide_eq_true_eq, not_or] at h
      show u.fin.length ≤ 1000
      omega
theorem urRes_len (hd : ByteArray → Option Hd) (s : ByteArray) : (urRes hd s).1.length ≤ 1000 := by
  unfold urRes
  split
  · simp
  · exact urEnd_len _
end Go.Pw
namespace Go.Proofs.YtinpgnekjebipaaDoor
open Go.RowKit Go.Pw
set_option maxHeartbeats 2000000 in
set_option maxRecDepth 100000 in
theorem unifiedReads_any (s : ByteArray) (w : World) (hmax : s.size ≤ maxLen) (hP : PowTab w) (hE : ErrT w) :
    Calls Tryd.prog 4 #[.string s] w fun e w' => e = .returned (.bool true) ∧ Below w.heap.size w w' := by
  have hlen := urRes_len hdS s
  have h1 := parse_any s w hmax hP hE
  have h2 := fun W => readPatch_any s W hmax
  unfold ParsePost at h1 h2
  obtain ⟨⟨hs, k, er⟩, hR⟩ : ∃ r, urRes hdS s = r := ⟨_, rfl⟩
  rw [hR] at h1 hlen
  simp only [hR] at h2
  dsimp only at h1 h2 hlen
  have H1 := hide h1
  have H2 := hide h2
  have hl2 : hs.length ≤ 100000 := by omega
  have hkk : (((k : Int)) == (k : Int)) = true := by simp
  have hee : (er == er) = true := by simp
  clear h1 h2 hR hP hE hlen
  go_enter Tryd.func4, Tryd.ntmps4
  go_wp2_with fail
  refine H1.out.mono ?_
  rintro e w1 ⟨v, rfl, hh1, hb1⟩
  have HH1 := hide hh1
  have HB1 := hide hb1
  clear hh1 hb1 H1
  go_wp2_with fail
  refine (H2.out _).mono ?_
  rintro e w2 ⟨v2, rfl, hh2, hb2⟩
  have HH2 := hide hh2
  have HH3 := hide (HH1.out.below hb2)
  have HB2 := hide (HB1.out.trans (hb2.mono HB1.out.size))
  clear hh2 hb2 H2 HB1 HH1
  go_wp2_with fail
  refine (differs_any _).mono ?_
  rintro e w3 ⟨rfl, hb3⟩
  have HH4 := hide (HH2.out.below hb3)
  have HH5 := hide (HH3.out.below hb3)
  have HB3 := hide (HB2.out.trans (hb3.mono HB2.out.size))
  clear hb3 HH2 HH3 HB2
  go_wp2_with fail
  refine (sameHunks_any v v2 hs hs _ HH5.out HH4.out hl2 true (by simp)).mono ?_
  rintro e w4 ⟨rfl, hb4⟩
  have HB4 := hide (HB3.out.trans (hb4.mono HB3.out.size))
  clear hb4 HH4 HH5 HB3
  go_wp2_with fail
  go_ret
  exact ⟨rfl, HB4.out⟩
end Go.Proofs.YtinpgnekjebipaaDoor
