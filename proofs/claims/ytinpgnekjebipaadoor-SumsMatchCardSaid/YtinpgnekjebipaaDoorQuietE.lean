/- A region that draws its order, all of whose operations but the LAST (number n, which waits for all others) only read or call what only reads and draws: one walk in the order of the text, then the last operation, in the world behind some draws. Plain theory over the kit's 'qOp', 'YieldsIn', beside the text Region. -/
import Derived.Test.YtinpgnekjebipaaDoorRegion
import Derived.Deep.QuietTactic
import Derived.BigQuiet
set_option linter.unusedVariables false
set_option linter.unusedSimpArgs false
namespace Go.Pw
open Go
section
variable {P : Program} {ops : Array Oper} {Q : Exit → Act → World → Prop} {md : Region.Mode} {C : World → Prop} {n : Nat}
/-- whatever order is picked: number n comes last, the others are quiet -/
def LastQ (P : Program) (md : Region.Mode) (ops : Array Oper) (C : World → Prop) (Q : Exit → Act → World → Prop) (n : Nat) : Nat → Array Bool → Act → Prop
  | 0, _, _ => False
  | fuel + 1, listed, a =>
    Region.ready md ops listed ≠ [] ∧
    ∀ i ∈ Region.ready md ops listed,
      (i = n → Region.ready md ops (listed.setIfInBounds n true) = [] ∧ ∀ w, C w → wpOp P ops Q n (fun a' w' => Q .normal a' w') a w) ∧
      (i ≠ n → qOp P ops C i (LastQ P md ops C Q n fuel (listed.setIfInBounds i true)) a)
theorem any_ended {listed : Array Bool} {a : Act} {w : World} (hr : Region.ready md ops listed = []) (h : Q .normal a w) : ∀ fuel, wpAny P md ops Q fuel listed a w
  | 0 => ⟨hr, h⟩
  | _ + 1 => ⟨fun _ => h, by rw [hr]; simp⟩
theorem any_of_lastQ : ∀ (fuel : Nat) (listed : Array Bool) (a : Act) (w : World), C w → LastQ P md ops C Q n fuel listed a → wpAny P md ops Q fuel listed a w
  | 0, _, _, _, _, h => h.elim
  | fuel + 1, listed, a, w, hw, h => by
    refine ⟨fun h0 => absurd h0 h.1, fun i hi => ?_⟩
    obtain ⟨h1, h2⟩ := h.2 i hi
    by_cases e : i = n
    · subst e
      obtain ⟨h3, h4⟩ := h1 rfl
      exact wpOp_mono (fun a' w' h' => any_ended h3 h' fuel) (h4 w hw)
    · exact wpOp_of_qOp hw (fun a' w' hw' h' => any_of_lastQ fuel _ a' w' hw' h') (h2 e)
theorem lastQ_first {i : Nat} {oi : Oper} {v : Value} (hn : waitsAll md ops n = true) (hin : i ≠ n) (hi : ops[i]? = some oi) (hsel : ∀ (j : Nat) (o : Oper) cs b, ops[j]? = some o → o.op ≠ .select cs b) :
    ∀ (fuel : Nat) (listed : Array Bool) (a : Act),
      (∀ j oj, ops[j]? = some oj → j ≠ i → listed.getD j true = false → (∀ e ∈ oj.after, Region.binds md e = true → e.on ≠ i) → oi.apart ops oj = true) →
      i ∈ Region.ready md ops listed → YieldsIn P ops C oi v a →
      LastQ P md ops C Q n fuel (listed.setIfInBounds i true) (a.put oi.dst v) → LastQ P md ops C Q n (fuel + 1) listed a := by
  intro fuel
  induction fuel with
  | zero => intro listed a _ _ _ H; exact H.elim
  | succ fuel ih =>
    intro listed a hfree hr hy H
    refine ⟨fun h => (by rw [h] at hr; cases hr), fun j hj => ?_⟩
    have hjn : j ≠ n := fun e => by subst e; exact hin (waitsAll_spec hn hj hr)
    refine ⟨fun e => absurd e hjn, fun _ => ?_⟩
    by_cases hji : j = i
    · subst hji; exact hy.qOp hi H
    · have h1 := (H.2 j (ready_mono hj hji)).2 hjn
      obtain ⟨hjun, oj, hoj, hall⟩ := mem_ready.1 hj
      have hnot : ∀ e ∈ oj.after, Region.binds md e = true → e.on ≠ i := fun e he hb heq => by
        have h1 := hall e he hb
        have h0 := (mem_ready.1 hr).1
        rw [heq] at h1
        rcases Nat.lt_or_ge i listed.size with h' | h'
        · simp [h'] at h0 h1; rw [h0] at h1; cases h1
        · simp [Array.getElem?_eq_none h'] at h1
      have h2 := qOp_put hoj (hfree j oj hoj hji hjun hnot) (fun cs b => hsel i oi cs b hi) (fun cs b => hsel j oj cs b hoj) hy h1
      have hfree' : ∀ k ok, ops[k]? = some ok → k ≠ i → (listed.setIfInBounds j true).getD k true = false →
          (∀ e ∈ ok.after, Region.binds md e = true → e.on ≠ i) → oi.apart ops ok = true := fun k ok hk hki hun hno => by
        refine hfree k ok hk hki ?_ hno
        by_cases hjk : j = k
        · subst hjk; exact hjun
        · rw [getD_set_ne true hjk] at hun; exact hun
      refine qOp_mono (fun a' h3 => ih (listed.setIfInBounds j true) a' hfree' (ready_mono hr (Ne.symm hji)) h3.1 ?_) h2
      rw [Array.setIfInBounds_comm _ _ hji]
      exact h3.2
theorem lastQ_lex (hs : Region.noSelect ops = true) (hn : waitsAll md ops n = true) : ∀ (l : List Oper) (k : Nat) (listed : Array Bool) (a : Act), (∀ j, l[j]? = ops[k + j]?) → k + l.length = n + 1 → k ≤ n →
    Region.lexFrom md ops l.length k listed = true → wpQuiet P ops C (fun a' => ∀ w, C w → wpOp P ops Q n (fun a'' w'' => Q .normal a'' w'') a' w) (l.take (n - k)) a → LastQ P md ops C Q n l.length listed a
  | [], k, _, _, _, hk, hkn, _, _ => by simp at hk; omega
  | o :: l, k, listed, a, hl, hk, hkn, hB, h => by
    have h0 : ops[k]? = some o := by simpa using (hl 0).symm
    simp only [List.length_cons, Region.lexFrom, Bool.and_eq_true] at hB
    obtain ⟨⟨hr, hf⟩, hB'⟩ := hB
    have hr' : k ∈ Region.ready md ops listed := by simpa using hr
    by_cases e : k = n
    · subst e
      have hl0 : l = [] := by
        cases l with
        | nil => rfl
        | cons x l => simp at hk
      subst hl0
      rw [Nat.sub_self, List.take_zero] at h
      refine ⟨fun h => (by rw [h] at hr'; cases hr'), fun j hj => ?_⟩
      obtain rfl := waitsAll_spec hn hr' hj
      exact ⟨fun _ => ⟨by simpa [Region.lexFrom] using hB', h⟩, fun e => absurd rfl e⟩
    · have hnk : n - k = (n - (k + 1)) + 1 := by omega
      rw [hnk, List.take_succ_cons] at h
      have hst : qOp P ops C k (wpQuiet P ops C (fun a' => ∀ w, C w → wpOp P ops Q n (fun a'' w'' => Q .normal a'' w'') a' w) (l.take (n - (k + 1)))) a := by unfold qOp; simp only [h0]; exact h
      obtain ⟨v, hy, hK⟩ := yieldsIn_of_qOp h0 hst
      exact lastQ_first hn e h0 (Region.noSelect_spec hs) l.length listed a (Region.free_spec h0 hf) hr' hy
        (lastQ_lex hs hn l (k + 1) _ _ (fun j => by have := hl (j + 1); simpa [Nat.add_assoc, Nat.add_comm 1 j] using this) (by simp at hk; omega) (by omega) hB' hK)
theorem walkQ_mono {R R' : Act → Prop} (h : ∀ a, R a → R' a) : ∀ (l : List Oper) (a : Act), wpQuiet P ops C R l a → wpQuiet P ops C R' l a
  | [], a, hh => h a hh
  | o :: l, a, hh => by
    unfold wpQuiet at hh ⊢
    split
    · rename_i hw
      rw [if_pos hw] at hh
      exact Oper.quiet_mono (fun a' h' => walkQ_mono h l a' h') hh
    · rename_i hw
      rw [if_neg hw] at hh
      exact walkQ_mono h l _ hh
/-- one walk in the order of the text, then the last operation -/
theorem wp_region_quiet_last (n : Nat) {id : Nat} {a : Act} {w : World} {l : List Oper} {o : Oper} (hm : P.follows .mixedOrders = true) (hB : Region.lexB .any l.toArray = true) (hn : waitsAll .any l.toArray n = true) (hl : l.length = n + 1) (ho : l[n]? = some o)
    (h : wpQuiet P l.toArray (fun w' => ∃ m, w' = w.drewN m) (fun a' => ∀ w', (∃ m, w' = w.drewN m) → wpList P l.toArray Q [o] a' w') (l.take n) a) : (Code.region id l.toArray true).wp P Q a w := by
  simp only [Region.lexB, Bool.and_eq_true] at hB
  refine wp_region_any hm (any_of_lastQ (C := fun w' => ∃ m, w' = w.drewN m) (n := n) _ _ _ _ ⟨1, rfl⟩ ?_)
  have := lastQ_lex (P := P) (C := fun w' => ∃ m, w' = w.drewN m) (md := .any) (Q := Q) hB.1 hn l 0 (Array.replicate l.toArray.size false) a (by simp) (by omega) (Nat.zero_le _) (by simpa using hB.2) (by
    rw [Nat.sub_zero]
    refine walkQ_mono (fun a' h' w' hw' => ?_) _ _ h
    have h2 := h' w' hw'
    have h0 : l.toArray[n]? = some o := by simpa using ho
    unfold wpOp
    simp only [h0]
    exact h2)
  simpa using this
end
end Go.Pw
