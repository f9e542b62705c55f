/- A region that draws its order, whose last operations (a list N of numbers) store into cells that the region loads: behind them the condition S on the world need not hold. An operation outside N may be taken first if every one of N waits for it; an operation that yields in whatever world may be taken first wherever it stands. Plain theory over the kit's 'wpOp', 'YieldsIf'. -/
import Derived.Test.YtinpgnekjebipaaDoorRegion2
set_option linter.unusedVariables false
set_option linter.unusedSimpArgs false
namespace Go.Pw
open Go
section
variable {P : Program} {ops : Array Oper} {Q : Exit → Act → World → Prop} {md : Region.Mode} {S : World → Prop} {N : List Nat}
def AnyN (P : Program) (md : Region.Mode) (ops : Array Oper) (Q : Exit → Act → World → Prop) (S : World → Prop) (N : List Nat) : Nat → Array Bool → Act → World → Prop
  | 0, listed, a, w => Region.ready md ops listed = [] ∧ Q .normal a w
  | fuel + 1, listed, a, w =>
    (Region.ready md ops listed = [] → Q .normal a w) ∧
    ∀ i ∈ Region.ready md ops listed, wpOp P ops Q i (fun a' w' => (N.contains i = false → S w') ∧ AnyN P md ops Q S N fuel (listed.setIfInBounds i true) a' w') a w
theorem any_of_N : ∀ (fuel : Nat) (listed : Array Bool) (a : Act) (w : World), AnyN P md ops Q S N fuel listed a w → wpAny P md ops Q fuel listed a w
  | 0, _, _, _, h => h
  | fuel + 1, _, _, _, h => ⟨h.1, fun i hi => wpOp_mono (fun a' w' h' => any_of_N fuel _ a' w' h'.2) (h.2 i hi)⟩
/-- T: what the operation needs of the world: it holds behind every operation that may come up beside it -/
theorem N_first {T : World → Prop} {i : Nat} {oi : Oper} {v : Value} (hi : ops[i]? = some oi) (hsel : ∀ (j : Nat) (o : Oper) cs b, ops[j]? = some o → o.op ≠ .select cs b)
    (hQ : ∀ c a w, Q (.panic c) (a.put oi.dst v) w → Q (.panic c) a w) (L0 : Array Bool) (hT : ∀ (listed : Array Bool) (j : Nat) (w : World), (∀ k, listed.getD k true = false → L0.getD k true = false) → j ∈ Region.ready md ops listed → i ∈ Region.ready md ops listed → j ≠ i → (N.contains j = false → S w) → T w ∧ (N.contains i = false → S w)) :
    ∀ (fuel : Nat) (listed : Array Bool) (a : Act) (w : World), (∀ k, listed.getD k true = false → L0.getD k true = false) →
      (∀ j oj, ops[j]? = some oj → j ≠ i → listed.getD j true = false → (∀ e ∈ oj.after, Region.binds md e = true → e.on ≠ i) → oi.apart ops oj = true) →
      i ∈ Region.ready md ops listed → YieldsIf P ops T oi v a → T w → (N.contains i = false → S w) →
      AnyN P md ops Q S N fuel (listed.setIfInBounds i true) (a.put oi.dst v) w → AnyN P md ops Q S N (fuel + 1) listed a w := by
  intro fuel
  induction fuel with
  | zero =>
    intro listed a w _ _ hr hy hTw hS H
    refine ⟨fun h => (by rw [h] at hr; cases hr), fun j hj => ?_⟩
    by_cases hji : j = i
    · subst hji; exact hy.wpOp hi hTw ⟨hS, H⟩
    · have := ready_mono hj hji
      rw [H.1] at this
      cases this
  | succ fuel ih =>
    intro listed a w hl0 hfree hr hy hTw hS H
    refine ⟨fun h => (by rw [h] at hr; cases hr), fun j hj => ?_⟩
    by_cases hji : j = i
    · subst hji; exact hy.wpOp hi hTw ⟨hS, H⟩
    · have h1 := H.2 j (ready_mono hj hji)
      obtain ⟨hjun, oj, hoj, hall⟩ := mem_ready.1 hj
      have hnot : ∀ e ∈ oj.after, Region.binds md e = true → e.on ≠ i := fun e he hb heq => by
        have h1 := hall e he hb
        have h0 := (mem_ready.1 hr).1
        rw [heq] at h1
        rcases Nat.lt_or_ge i listed.size with h' | h'
        · simp [h'] at h0 h1; rw [h0] at h1; cases h1
        · simp [Array.getElem?_eq_none h'] at h1
      have h2 := wpOp_putIf hoj (hfree j oj hoj hji hjun hnot) (fun cs b => hsel i oi cs b hi) (fun cs b => hsel j oj cs b hoj) hQ hy h1
      have hfree' : ∀ k ok, ops[k]? = some ok → k ≠ i → (listed.setIfInBounds j true).getD k true = false →
          (∀ e ∈ ok.after, Region.binds md e = true → e.on ≠ i) → oi.apart ops ok = true := fun k ok hk hki hun hno => by
        refine hfree k ok hk hki ?_ hno
        by_cases hjk : j = k
        · subst hjk; exact hjun
        · rw [getD_set_ne true hjk] at hun; exact hun
      refine wpOp_mono (fun a' w' h3 => ⟨fun hc => h3.2.1 hc, ih (listed.setIfInBounds j true) a' w' (fun k hk => hl0 k (by
        by_cases hjk : j = k
        · subst hjk; exact hjun
        · rw [getD_set_ne true hjk] at hk; exact hk)) hfree' (ready_mono hr (Ne.symm hji)) h3.1 (hT listed j w' hl0 hj hr hji h3.2.1).1 (hT listed j w' hl0 hj hr hji h3.2.1).2 ?_⟩) h2
      · rw [Array.setIfInBounds_comm _ _ hji]
        exact h3.2.2
theorem N_take (i : Nat) {oi : Oper} {v : Value} {fuel : Nat} {listed : Array Bool} {a : Act} {w : World} (hi : ops[i]? = some oi) (hn : (N.all fun n => listed.getD n true || waitsOne md ops n i) = true) (hin : N.contains i = false)
    (hs : Region.noSelect ops = true) (hf : Region.free md ops listed i = true) (hr : (Region.ready md ops listed).contains i = true)
    (hQ : ∀ c a w, Q (.panic c) (a.put oi.dst v) w → Q (.panic c) a w) (hy : YieldsIf P ops S oi v a) (hS : S w)
    (h : AnyN P md ops Q S N fuel (listed.setIfInBounds i true) (a.put oi.dst v) w) : AnyN P md ops Q S N (fuel + 1) listed a w :=
  N_first hi (Region.noSelect_spec hs) hQ listed (fun l2 j w hl hj hi' hji hc => by
    have : N.contains j = false := by
      cases hcj : N.contains j with
      | false => rfl
      | true =>
        have h1 := List.all_eq_true.1 hn j (by simpa using hcj)
        have h0 := hl j (mem_ready.1 hj).1
        rw [h0, Bool.false_or] at h1
        exact absurd (waitsOne_spec h1 hj hi').symm hji
    exact ⟨hc this, fun _ => hc this⟩) fuel listed a w (fun _ h => h) (Region.free_spec hi hf) (by simpa using hr) hy hS (fun _ => hS) h
theorem N_takeW (i : Nat) {oi : Oper} {v : Value} {fuel : Nat} {listed : Array Bool} {a : Act} {w : World} (hi : ops[i]? = some oi) (hin : N.contains i = true)
    (hs : Region.noSelect ops = true) (hf : Region.free md ops listed i = true) (hr : (Region.ready md ops listed).contains i = true)
    (hQ : ∀ c a w, Q (.panic c) (a.put oi.dst v) w → Q (.panic c) a w) (hy : YieldsIf P ops (fun _ => True) oi v a)
    (h : AnyN P md ops Q S N fuel (listed.setIfInBounds i true) (a.put oi.dst v) w) : AnyN P md ops Q S N (fuel + 1) listed a w :=
  N_first (T := fun _ => True) hi (Region.noSelect_spec hs) hQ listed (fun l2 j w _ hj hi' hji hc => ⟨trivial, fun h => by rw [hin] at h; cases h⟩) fuel listed a w (fun _ h => h) (Region.free_spec hi hf) (by simpa using hr) hy trivial (fun h => by rw [hin] at h; cases h) h
/-- only number i may come up -/
theorem N_next (i : Nat) {o : Oper} {fuel : Nat} {listed : Array Bool} {a : Act} {w : World} (ho : ops[i]? = some o) (hr : Region.ready md ops listed = [i])
    (h : ∀ K' : Act → World → Prop, Shut (∀ a w, (N.contains i = false → S w) → ((N.contains i = false → S w) → AnyN P md ops Q S N fuel (listed.setIfInBounds i true) a w) → K' a w) → if Region.wanted o (yielded ops a.tmps) = true then Oper.wp P o a w K' Q else K' (a.put o.dst undef) w) :
    AnyN P md ops Q S N (fuel + 1) listed a w :=
  ⟨(fun h0 => (by rw [hr] at h0; cases h0)), fun j hj => by
    rw [hr] at hj
    obtain rfl : j = i := by simpa using hj
    exact wpOp_step ho (fun K' hK => h K' (fun a w hS hW => hK a w ⟨hS, hW hS⟩))⟩
theorem N_done {listed : Array Bool} {a : Act} {w : World} (hr : Region.ready md ops listed = []) (h : Q .normal a w) : ∀ fuel, AnyN P md ops Q S N fuel listed a w
  | 0 => ⟨hr, h⟩
  | _ + 1 => ⟨fun _ => h, by rw [hr]; simp⟩
theorem wp_region_N {id : Nat} {a : Act} {w : World} (hm : P.follows .mixedOrders = true) (hS : S w.drew)
    (h : S w.drew → AnyN P .any ops Q S N ops.size (Array.replicate ops.size false) a w.drew) : (Code.region id ops true).wp P Q a w :=
  wp_region_any hm (any_of_N _ _ _ _ (h hS))
end
end Go.Pw
