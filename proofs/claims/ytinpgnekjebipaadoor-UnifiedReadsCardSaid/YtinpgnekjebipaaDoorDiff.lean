import Derived.Test.YtinpgnekjebipaaDoorStay
import Derived.Test.YtinpgnekjebipaaDoorHunk
import Derived.Test.YtinpgnekjebipaaDoorRegion
import Derived.Deep.RegionHeld3
import Derived.Deep.AppendLies
import Derived.OneCell
set_option linter.unusedSimpArgs false
set_option linter.unusedVariables false
namespace Go.Proofs.YtinpgnekjebipaaDoor
open Go.RowKit Go.Pw

/-- a part of a list -/
def part (l : List ByteArray) (i j : Nat) : List ByteArray := (l.drop i).take (j - i)
/-- the hunk between two pairs, if there is one -/
def gap (a b : List ByteArray) (f t x y : Nat) : List Hk := if f < x ∨ t < y then [⟨f, t, part a f x, part b t y⟩] else []
def hunksOf (a b : List ByteArray) : Nat → Nat → List (Nat × Nat) → List Hk
  | f, t, [] => gap a b f t a.length b.length
  | f, t, p :: ps => gap a b f t p.1 p.2 ++ hunksOf a b (p.1 + 1) (p.2 + 1) ps

theorem clone_any (v : Value) (l : List ByteArray) (w : World) (h : Strs w v l) (hl : l.length * 16 ≤ 140737488355328) :
    Calls Tryd.prog 57 #[v] w fun e w' => ∃ v', e = .returned v' ∧ Strs w' v' l ∧ (∀ g, v'.ownBlock = some g → w.heap.size ≤ g ∧ g < w'.heap.size) ∧ Below w.heap.size w w' := by
  obtain ⟨⟨_, A, cap, rfl, hcap, hmax, hx⟩, hsz⟩ := h
  cases A with
  | none =>
    have h0 : l = [] := by
      by_cases h0 : 0 < l.length
      · obtain ⟨b, o, e, _⟩ := hx h0
        cases e
      · exact List.eq_nil_of_length_eq_zero (by omega)
    subst h0
    refine (Tryd.slices_Clone_string_nil _ cap w).mono ?_
    rintro e w' ⟨rfl, rfl⟩
    exact ⟨_, rfl, ⟨Rd.nil _ _, by simp⟩, fun g hg => by simp [Value.ownBlock] at hg, Below.refl _ _⟩
  | some ad =>
    by_cases h0 : 0 < l.length
    · obtain ⟨b, o, e, hb, hj⟩ := hx h0
      injection e with e
      subst e
      refine (Tryd.slices_Clone_string b o l.length cap l w (Nat.le_refl _) hl (fun j hj' => hj j _ (by simp [hj']))).mono ?_
      rintro e w' ⟨v', rfl, hown, _, hbl⟩
      rw [List.take_length] at hown
      exact ⟨v', rfl, ⟨.of_own hown, hsz⟩, fun g hg => ⟨own_ge hown g hg, own_lt hown g hg⟩, hbl⟩
    · obtain rfl : l = [] := List.eq_nil_of_length_eq_zero (by omega)
      refine (Tryd.slices_Clone_string_zero ad cap w).mono ?_
      rintro e w' ⟨v', rfl, hown, _, hbl⟩
      exact ⟨v', rfl, ⟨.of_own hown, hsz⟩, fun g hg => ⟨own_ge hown g hg, own_lt hown g hg⟩, hbl⟩

theorem clone_at (v : Value) (l : List ByteArray) (w : World) (h : Strs w v l) (hl : l.length * 16 ≤ 140737488355328) :
    Calls Tryd.prog 57 #[v] w fun e w' => ∃ A n c, e = .returned (.slice A n c) ∧ Strs w' (.slice A n c) l ∧ (∀ g, (Value.slice A n c).ownBlock = some g → w.heap.size ≤ g ∧ g < w'.heap.size) ∧ Below w.heap.size w w' := by
  refine (clone_any v l w h hl).mono ?_
  rintro e w' ⟨v', rfl, hs, hg, hb⟩
  have hs' := hs
  obtain ⟨⟨_, A, cap, rfl, _⟩, _⟩ := hs'
  exact ⟨A, _, cap, rfl, hs, hg, hb⟩

theorem info_hunk : (Tryd.prog.info? 46).map (fun i => (i.zero, i.size, i.bytes)) = some (some (.agg #[.int .i64 0, .int .i64 0, .slice none 0 0, .slice none 0 0]), 4, 64) := by kernel_rfl

/-- what 'diff' keeps in its variables: from block N on: a, b, out, from, to -/
structure DiffEnv (w0 w : World) (N : Nat) (va vb : Value) (f t : Nat) (v : Value) (hs : List Hk) : Prop where
  bl : Below N w0 w
  sz : N + 5 ≤ w.heap.size
  ba : w.heap[N]? = some (.cells #[va] 44 (0, 0))
  bb : w.heap[N + 1]? = some (.cells #[vb] 44 (0, 0))
  bo : w.heap[N + 2]? = some (.cells #[v] 32 (0, 0))
  bf : w.heap[N + 3]? = some (.cells #[.int .i64 (f : Int)] 3 (0, 0))
  bt : w.heap[N + 4]? = some (.cells #[.int .i64 (t : Int)] 3 (0, 0))
  own : HunksOwn w 46 (N + 5) (N + 5) v hs

theorem DiffEnv.below {w0 w w' : World} {N : Nat} {va vb v : Value} {f t : Nat} {hs : List Hk} (h : DiffEnv w0 w N va vb f t v hs) (hb : Below w.heap.size w w') : DiffEnv w0 w' N va vb f t v hs := by
  have hz := h.sz
  exact ⟨h.bl.trans (hb.mono (by omega)), Nat.le_trans h.sz hb.size, (hb.block _ (by omega)).trans h.ba, (hb.block _ (by omega)).trans h.bb, (hb.block _ (by omega)).trans h.bo, (hb.block _ (by omega)).trans h.bf, (hb.block _ (by omega)).trans h.bt, h.own.below hb⟩
theorem DiffEnv.move {w0 w : World} {N : Nat} {va vb v : Value} {f t : Nat} {hs : List Hk} (h : DiffEnv w0 w N va vb f t v hs) (x y : Nat) :
    DiffEnv w0 ((w.setCell ⟨N + 3, 0, none⟩ (.int .i64 ((x : Int) + 1))).setCell ⟨N + 4, 0, none⟩ (.int .i64 ((y : Int) + 1))) N va vb (x + 1) (y + 1) v hs := by
  have k : ∀ i, i ≠ N + 3 → i ≠ N + 4 → ((w.setCell ⟨N + 3, 0, none⟩ (.int .i64 ((x : Int) + 1))).setCell ⟨N + 4, 0, none⟩ (.int .i64 ((y : Int) + 1))).heap[i]? = w.heap[i]? := fun i h1 h2 =>
    (Below.heap_setCell _ _ _ _ h2).trans (Below.heap_setCell _ _ _ _ h1)
  refine ⟨(h.bl.setCell (by simp) _).setCell (by simp) _, by simpa [World.setCell] using h.sz, (k _ (by omega) (by omega)).trans h.ba, (k _ (by omega) (by omega)).trans h.bb, (k _ (by omega) (by omega)).trans h.bo, ?_, ?_, ?_⟩
  · rw [Below.heap_setCell _ _ _ _ (by simp)]
    exact one_setCell h.bf
  · exact one_setCell ((Below.heap_setCell _ _ _ _ (by simp)).trans h.bt)
  · exact (h.own.set_low (by simp) (by simp) _).set_low (by simp) (by simp) _

/-- a hunk more in 'out' -/
theorem DiffEnv.push {w0 w w2 w3 : World} {N : Nat} {va vb v : Value} {f t : Nat} {hs : List Hk} (he : DiffEnv w0 w N va vb f t v hs) (hb : Below w.heap.size w w2) {vs : List (Value × Value)} (hvs : vs.length = hs.length)
    (hrow : w.ownsRow (N + 5) 46 4 v hs.length (hkCells hs vs)) (hok : ∀ h ∈ hs, h.ok) (hel : HunkElems w (N + 5) v hs vs) {h : Hk} (hok1 : h.ok) {o n : Value} (ho : Strs w2 o h.old) (hn : Strs w2 n h.new)
    (lo : ∀ g, o.ownBlock = some g → w.heap.size ≤ g ∧ g < w2.heap.size) (ln : ∀ g, n.ownBlock = some g → w.heap.size ≤ g ∧ g < w2.heap.size) {ob : Obj} {gg cap : Nat}
    (hown3 : w3.ownsRow (N + 5) 46 4 (.slice (some ⟨gg, 0, none⟩) (hs.length + 1) cap) (hs.length + 1) (hkCells hs vs ++ [.int .i64 h.frm, .int .i64 h.to_, o, n])) (hgrow : (w2.alloc ob).grownBy w3 v.ownBlock)
    (hat : v.ownBlock = some gg ∨ gg = w2.heap.size + 1) :
    DiffEnv w0 (w3.setCell ⟨N + 2, 0, none⟩ (.slice (some ⟨gg, 0, none⟩) (hs.length + 1) cap)) N va vb f t (.slice (some ⟨gg, 0, none⟩) (hs.length + 1) cap) (hs ++ [h]) := by
  have hz := he.sz
  have hz2 := hb.size
  have vg := own_ge hrow
  have vl := own_lt hrow
  have ba : Below w2.heap.size w2 (w2.alloc ob) := (Below.refl _ _).alloc (Nat.le_refl _) ob
  have hel2 : HunkElems (w2.alloc ob) (N + 5) v hs vs := by
    intro i h' o' n' e1 e2
    obtain ⟨⟨a1, a2⟩, b1, b2⟩ := hel i h' o' n' e1 e2
    exact ⟨⟨(a1.below hb).below ba, (a2.more hb.size).more ba.size⟩, (b1.below hb).below ba, (b2.more hb.size).more ba.size⟩
  have sit : ∀ x : Value, (∀ g, x.ownBlock = some g → w.heap.size ≤ g ∧ g < w2.heap.size) → Sits (w2.alloc ob) (N + 5) x v := by
    intro x hx g hg
    obtain ⟨h1, h2⟩ := hx g hg
    exact ⟨by omega, by simp; omega, fun e => by have := vl g e; omega⟩
  have hown := HunksOwn.push hok hok1 (ho.below ba) (hn.below ba) (sit o lo) (sit n ln) hvs hel2 hown3 hgrow (hat.elim (fun e => .inl (by rw [e]; rfl)) (fun e => .inr (by rw [e]; simp [Value.ownBlock])))
  have blk : ∀ k, k < N + 5 → w3.heap[k]? = w.heap[k]? := fun k hk =>
    ((hgrow.block k (by simp; omega) (fun e => by have := vg k e.symm; omega)).trans (ba.block k (by omega))).trans (hb.block k (by omega))
  have set : ∀ k, k ≠ N + 2 → k < N + 5 → (w3.setCell ⟨N + 2, 0, none⟩ (.slice (some ⟨gg, 0, none⟩) (hs.length + 1) cap)).heap[k]? = w.heap[k]? := fun k h1 h2 => (Below.heap_setCell _ _ _ _ h1).trans (blk k h2)
  have hsz3 := hgrow.size
  simp at hsz3
  refine ⟨?_, by simp [World.setCell]; omega, (set _ (by omega) (by omega)).trans he.ba, (set _ (by omega) (by omega)).trans he.bb, one_setCell ((blk _ (by omega)).trans he.bo), (set _ (by omega) (by omega)).trans he.bf, (set _ (by omega) (by omega)).trans he.bt, hown.set_low (by simp) (by simp) _⟩
  have b1 : Below N w w3 := ⟨hgrow.os.trans (ba.os.trans hb.os), hgrow.tape.trans (ba.tape.trans hb.tape), hgrow.output.trans (ba.output.trans hb.output), by omega, fun k hk => blk k (by omega)⟩
  exact (he.bl.trans b1).setCell (by simp) _

/-- only out, from, to and the row of out have turned -/
def Only (N : Nat) (v : Value) (w w' : World) : Prop := ∀ k, k < w.heap.size → k ≠ N + 2 → k ≠ N + 3 → k ≠ N + 4 → some k ≠ v.ownBlock → w'.heap[k]? = w.heap[k]?
theorem Only.of_below {N : Nat} {v : Value} {w w' : World} (h : Below w.heap.size w w') : Only N v w w' := fun k hk _ _ _ _ => h.block k hk
theorem Only.push {N : Nat} {v u : Value} {w w2 w3 : World} {ob : Obj} (hb : Below w.heap.size w w2) (hgrow : (w2.alloc ob).grownBy w3 v.ownBlock) : Only N v w (w3.setCell ⟨N + 2, 0, none⟩ u) := fun k hk h2 _ _ hv => by
  have hz := hb.size
  have ba : Below w2.heap.size w2 (w2.alloc ob) := (Below.refl _ _).alloc (Nat.le_refl _) ob
  exact (Below.heap_setCell _ _ _ _ h2).trans (((hgrow.block k (by simp; omega) hv).trans (ba.block k (by omega))).trans (hb.block k hk))
theorem Only.move {N : Nat} {v x y : Value} {w w' : World} (h : Only N v w w') : Only N v w ((w'.setCell ⟨N + 3, 0, none⟩ x).setCell ⟨N + 4, 0, none⟩ y) := fun k hk h2 h3 h4 hv =>
  ((Below.heap_setCell _ _ _ _ h4).trans (Below.heap_setCell _ _ _ _ h3)).trans (h k hk h2 h3 h4 hv)
theorem Only.alloc {N : Nat} {v : Value} {w w' : World} (h : Only N v w w') (hz : w.heap.size ≤ w'.heap.size) (o : Obj) : Only N v w (w'.alloc o) := fun k hk h2 h3 h4 hv =>
  (Below.heap_alloc _ _ _ (by omega)).trans (h k hk h2 h3 h4 hv)
theorem Only.drew {N : Nat} {v : Value} {w w' : World} (h : Only N v w w') : Only N v w w'.drew := h

set_option maxHeartbeats 2000000 in
set_option maxRecDepth 100000 in
theorem add_any (w0 w : World) (va vb v : Value) (a b : List ByteArray) (f t x y : Nat) (hs : List Hk) (ha : Strs w0 va a) (hb : Strs w0 vb b) (hla : a.length ≤ 1000) (hlb : b.length ≤ 1000)
    (hfx : f ≤ x) (hty : t ≤ y) (hx : x ≤ a.length) (hy : y ≤ b.length) (he : DiffEnv w0 w w0.heap.size va vb f t v hs) (hn : hs.length ≤ 2000) :
    Calls Tryd.prog 56 #[.agg #[.int .i64 (x : Int), .int .i64 (y : Int)], .pointer (some ⟨w0.heap.size + 3, 0, none⟩), .pointer (some ⟨w0.heap.size + 4, 0, none⟩), .pointer (some ⟨w0.heap.size + 2, 0, none⟩), .pointer (some ⟨w0.heap.size, 0, none⟩), .pointer (some ⟨w0.heap.size + 1, 0, none⟩)] w
      fun e w' => e = .returned (.tuple #[]) ∧ ∃ v', DiffEnv w0 w' w0.heap.size va vb (x + 1) (y + 1) v' (hs ++ gap a b f t x y) ∧ Only w0.heap.size v w w' := by
  obtain ⟨N, hN⟩ : ∃ N, N = w0.heap.size := ⟨_, rfl⟩
  rw [← hN] at he ⊢
  have HN := hide hN
  clear hN
  have he' := hide he
  obtain ⟨hbl, hsz, hba, hbb, hbo, hbf, hbt, hown⟩ := he
  have he := he'
  clear he'
  have cA := cell_of_one hba
  have cB := cell_of_one hbb
  have cO := cell_of_one hbo
  have cF := cell_of_one hbf
  have cT := cell_of_one hbt
  have zO := free_of_one hbo
  have zF := free_of_one hbf
  have zT := free_of_one hbt
  have HO := hide hown
  clear hown hba hbb hbo hbf hbt
  have l0 : N < w.heap.size := by omega
  have l1 : N + 1 < w.heap.size := by omega
  have l2 : N + 2 < w.heap.size := by omega
  have l3 : N + 3 < w.heap.size := by omega
  have l4 : N + 4 < w.heap.size := by omega
  have hA := ha
  have hB := hb
  obtain ⟨⟨_, A, ca, rfl, hca, hma, _⟩, _⟩ := ha
  obtain ⟨⟨_, B, cb, rfl, hcb, hmb, _⟩, _⟩ := hb
  obtain ⟨vka, rka, ska⟩ := cut_both hA hfx hx
  obtain ⟨vkb, rkb, skb⟩ := cut_both hB hty hy
  have SKA := hide (ska.below (by rw [← HN.out]; exact hbl))
  have SKB := hide (skb.below (by rw [← HN.out]; exact hbl))
  clear ska skb hA hB
  by_cases hg : f < x ∨ t < y
  · obtain ⟨vs, hvs, hrow, hok, hel⟩ := HO.out
    have HVS := hide hvs
    have HOK := hide hok
    have HEL := hide hel
    clear hvs hok hel
    obtain ⟨ip, hip, hpz, hps, hpb⟩ := info_parts info_hunk
    have hor : (decide (f < x) || decide (t < y)) = true := by simpa using hg
    have HG := hide hg
    clear hg
    have hfi : (f : Int) ≤ (x : Int) := by omega
    have hti : (t : Int) ≤ (y : Int) := by omega
    have HVB := hide (fun g hg => (⟨own_ge hrow g hg, own_lt hrow g hg⟩ : N + 5 ≤ g ∧ g < w.heap.size))
    have zO2 : ∀ o, (w.alloc o).frozen? ⟨N + 2, 0, none⟩ = false := fun o => (((Below.refl w.heap.size w).alloc (Nat.le_refl _) o).frozen (p := ⟨N + 2, 0, none⟩) l2).trans zO
    have cOa : ∀ o, (w.alloc o).cell? ⟨N + 2, 0, none⟩ = some v := fun o => (World.cell?_alloc_lt _ _ _ l2).trans cO
    have hfc : f < x ∨ x ≤ f := Nat.lt_or_ge f x
    rcases hfc with hfc | hfc
    all_goals
      go_enter Tryd.func56, Tryd.ntmps56
      go_wp2
      refine wp_region_E (n := 18) (S := fun w' => w'.cell? ⟨N, 0, none⟩ = some (.slice A a.length ca) ∧ w'.cell? ⟨N + 1, 0, none⟩ = some (.slice B b.length cb) ∧ w'.cell? ⟨N + 2, 0, none⟩ = some v ∧ w'.cell? ⟨N + 3, 0, none⟩ = some (.int .i64 (f : Int)) ∧ w'.cell? ⟨N + 4, 0, none⟩ = some (.int .i64 (t : Int)) ∧
          w'.cell? ⟨w.heap.size, 0, none⟩ = some (.int .i64 (x : Int)) ∧ w'.cell? ⟨w.heap.size, 1, none⟩ = some (.int .i64 (y : Int))) (by kernel_rfl) (by go_keep) (fun hHeld => ?_)
      refine E_take 0 (v := ?_) rfl (by kernel_rfl) (by rfl) (by kernel_rfl) (by kernel_rfl) (by kernel_rfl) (fun _ _ _ h => h) (Or.inl ⟨by rfl, ?_⟩) (by assumption) ?_
      rotate_left
      · (intro w hSw; (try dsimp only at hSw); go_simp; try with_reducible rfl)
      try simp only [Act.put, List.setIfInBounds_toArray, List.set_cons_zero, List.set_cons_succ]
      refine E_take 1 (v := ?_) rfl (by kernel_rfl) (by rfl) (by kernel_rfl) (by kernel_rfl) (by kernel_rfl) (fun _ _ _ h => h) (Or.inl ⟨by rfl, ?_⟩) (by assumption) ?_
      rotate_left
      · (intro w hSw; (try dsimp only at hSw); go_simp; try with_reducible rfl)
      try simp only [Act.put, List.setIfInBounds_toArray, List.set_cons_zero, List.set_cons_succ]
      refine E_take 2 (v := ?_) rfl (by kernel_rfl) (by rfl) (by kernel_rfl) (by kernel_rfl) (by kernel_rfl) (fun _ _ _ h => h) (Or.inl ⟨by rfl, ?_⟩) (by assumption) ?_
      rotate_left
      · (intro w hSw; (try dsimp only at hSw); go_simp; try with_reducible rfl)
      try simp only [Act.put, List.setIfInBounds_toArray, List.set_cons_zero, List.set_cons_succ]
      refine E_take 3 (v := ?_) rfl (by kernel_rfl) (by rfl) (by kernel_rfl) (by kernel_rfl) (by kernel_rfl) (fun _ _ _ h => h) (Or.inl ⟨by rfl, ?_⟩) (by assumption) ?_
      rotate_left
      · (intro w hSw; (try dsimp only at hSw); go_simp; try with_reducible rfl)
      try simp only [Act.put, List.setIfInBounds_toArray, List.set_cons_zero, List.set_cons_succ]
      refine E_take 4 (v := ?_) rfl (by kernel_rfl) (by rfl) (by kernel_rfl) (by kernel_rfl) (by kernel_rfl) (fun _ _ _ h => h) (Or.inl ⟨by rfl, ?_⟩) (by assumption) ?_
      rotate_left
      · (intro w hSw; (try dsimp only at hSw); go_simp; try with_reducible rfl)
      try simp only [Act.put, List.setIfInBounds_toArray, List.set_cons_zero, List.set_cons_succ]
      refine E_take 5 (v := ?_) rfl (by kernel_rfl) (by rfl) (by kernel_rfl) (by kernel_rfl) (by kernel_rfl) (fun _ _ _ h => h) (Or.inl ⟨by rfl, ?_⟩) (by assumption) ?_
      rotate_left
      · (intro w hSw; (try dsimp only at hSw); go_simp; try with_reducible rfl)
      try simp only [Act.put, List.setIfInBounds_toArray, List.set_cons_zero, List.set_cons_succ]
      refine E_take 6 (v := ?_) rfl (by kernel_rfl) (by rfl) (by kernel_rfl) (by kernel_rfl) (by kernel_rfl) (fun _ _ _ h => h) (Or.inl ⟨by rfl, ?_⟩) (by assumption) ?_
      rotate_left
      · (intro w hSw; (try dsimp only at hSw); go_simp; try with_reducible rfl)
      try simp only [Act.put, List.setIfInBounds_toArray, List.set_cons_zero, List.set_cons_succ]
      refine E_take 7 (v := ?_) rfl (by kernel_rfl) (by rfl) (by kernel_rfl) (by kernel_rfl) (by kernel_rfl) (fun _ _ _ h => h) (Or.inl ⟨by rfl, ?_⟩) (by assumption) ?_
      rotate_left
      · (intro w hSw; (try dsimp only at hSw); go_simp; try with_reducible rfl)
      try simp only [Act.put, List.setIfInBounds_toArray, List.set_cons_zero, List.set_cons_succ]
      refine E_take 9 (v := ?_) rfl (by kernel_rfl) (by rfl) (by kernel_rfl) (by kernel_rfl) (by kernel_rfl) (fun _ _ _ h => h) (Or.inl ⟨by rfl, ?_⟩) (by assumption) ?_
      rotate_left
      · (intro w hSw; (try dsimp only at hSw); go_simp; try with_reducible rfl)
      try simp only [Act.put, List.setIfInBounds_toArray, List.set_cons_zero, List.set_cons_succ]
      refine E_take 10 (v := ?_) rfl (by kernel_rfl) (by rfl) (by kernel_rfl) (by kernel_rfl) (by kernel_rfl) (fun _ _ _ h => h) (Or.inl ⟨by rfl, ?_⟩) (by assumption) ?_
      rotate_left
      · (intro w hSw; (try dsimp only at hSw); go_simp; try with_reducible rfl)
      try simp only [Act.put, List.setIfInBounds_toArray, List.set_cons_zero, List.set_cons_succ]
      refine E_take 11 (v := ?_) rfl (by kernel_rfl) (by rfl) (by kernel_rfl) (by kernel_rfl) (by kernel_rfl) (fun _ _ _ h => h) (Or.inl ⟨by rfl, ?_⟩) (by assumption) ?_
      rotate_left
      · (intro w hSw; (try dsimp only at hSw); go_simp; try with_reducible rfl)
      try simp only [Act.put, List.setIfInBounds_toArray, List.set_cons_zero, List.set_cons_succ]
      refine E_take 12 (v := ?_) rfl (by kernel_rfl) (by rfl) (by kernel_rfl) (by kernel_rfl) (by kernel_rfl) (fun _ _ _ h => h) (Or.inl ⟨by rfl, ?_⟩) (by assumption) ?_
      rotate_left
      · (intro w hSw; (try dsimp only at hSw); go_simp; try with_reducible rfl)
      try simp only [Act.put, List.setIfInBounds_toArray, List.set_cons_zero, List.set_cons_succ]
      refine E_take 13 (v := ?_) rfl (by kernel_rfl) (by rfl) (by kernel_rfl) (by kernel_rfl) (by kernel_rfl) (fun _ _ _ h => h) (Or.inl ⟨by rfl, ?_⟩) (by assumption) ?_
      rotate_left
      · (intro w hSw; (try dsimp only at hSw); go_simp; try with_reducible rfl)
      try simp only [Act.put, List.setIfInBounds_toArray, List.set_cons_zero, List.set_cons_succ]
      refine E_next 8 rfl (by kernel_rfl) (fun K hK => ?_)
      go_simp
      refine (clone_at vka (part a f x) _ (SKA.out.alloc _).drew (by unfold part; simp; omega)).mono ?_
      rintro e w1 ⟨A1, n1, c1, rfl, hs1, hg1, hb1⟩
      have hz1 : w.heap.size + 1 ≤ w1.heap.size := by have := hb1.size; simpa using this
      have hs1' := hide hs1
      have hg1' := hide hg1
      clear hs1 hg1
      refine hK.out _ _ (fun _ => ?_) (fun hHeld1 => ?_)
      · obtain ⟨q1, q2, q3, q4, q5, q6, q7⟩ := hHeld
        exact ⟨(hb1.cell (by simp <;> omega)).trans q1, (hb1.cell (by simp <;> omega)).trans q2, (hb1.cell (by simp <;> omega)).trans q3, (hb1.cell (by simp <;> omega)).trans q4, (hb1.cell (by simp <;> omega)).trans q5, (hb1.cell (by simp <;> omega)).trans q6, (hb1.cell (by simp <;> omega)).trans q7⟩
      clear hK K hHeld
      try simp only [Act.put, List.setIfInBounds_toArray, List.set_cons_zero, List.set_cons_succ]
      have hHeld2 := hHeld1 (by omega)
      clear hHeld1
      refine E_next 14 rfl (by kernel_rfl) (fun K hK => ?_)
      go_simp
      refine (clone_at vkb (part b t y) _ ((SKB.out.alloc _).drew.below hb1) (by unfold part; simp; omega)).mono ?_
      rintro e w2 ⟨A2, n2, c2, rfl, hs2, hg2, hb2⟩
      have hz2 : w1.heap.size ≤ w2.heap.size := hb2.size
      have hs2' := hide hs2
      have hg2' := hide hg2
      clear hs2 hg2
      refine hK.out _ _ (fun _ => ?_) (fun hHeld1 => ?_)
      · obtain ⟨q1, q2, q3, q4, q5, q6, q7⟩ := hHeld2
        exact ⟨(hb2.cell (by show N < w1.heap.size; omega)).trans q1, (hb2.cell (by show N + 1 < w1.heap.size; omega)).trans q2, (hb2.cell (by show N + 2 < w1.heap.size; omega)).trans q3, (hb2.cell (by show N + 3 < w1.heap.size; omega)).trans q4, (hb2.cell (by show N + 4 < w1.heap.size; omega)).trans q5, (hb2.cell (by show w.heap.size < w1.heap.size; omega)).trans q6, (hb2.cell (by show w.heap.size < w1.heap.size; omega)).trans q7⟩
      clear hK K hHeld2
      try simp only [Act.put, List.setIfInBounds_toArray, List.set_cons_zero, List.set_cons_succ]
      have hHeld := hHeld1 (by omega)
      clear hHeld1
      refine E_take 15 (v := ?_) rfl (by kernel_rfl) (by rfl) (by kernel_rfl) (by kernel_rfl) (by kernel_rfl) (fun _ _ _ h => h) (Or.inl ⟨by rfl, ?_⟩) (by assumption) ?_
      rotate_left
      · (intro w hSw; (try dsimp only at hSw); go_simp; try with_reducible rfl)
      try simp only [Act.put, List.setIfInBounds_toArray, List.set_cons_zero, List.set_cons_succ]
      refine E_next 16 rfl (by kernel_rfl) (fun K hK => ?_)
      go_simp
      refine hK.out _ _ (fun _ => ?_) (fun hHeld1 => ?_)
      · obtain ⟨q1, q2, q3, q4, q5, q6, q7⟩ := hHeld
        exact ⟨(World.cell?_alloc_lt _ _ _ (by show N < w2.heap.size; omega)).trans q1, (World.cell?_alloc_lt _ _ _ (by show N + 1 < w2.heap.size; omega)).trans q2, (World.cell?_alloc_lt _ _ _ (by show N + 2 < w2.heap.size; omega)).trans q3, (World.cell?_alloc_lt _ _ _ (by show N + 3 < w2.heap.size; omega)).trans q4, (World.cell?_alloc_lt _ _ _ (by show N + 4 < w2.heap.size; omega)).trans q5, (World.cell?_alloc_lt _ _ _ (by show w.heap.size < w2.heap.size; omega)).trans q6, (World.cell?_alloc_lt _ _ _ (by show w.heap.size < w2.heap.size; omega)).trans q7⟩
      clear hK K hHeld
      have hHeld := hHeld1 (by omega)
      clear hHeld1
      try simp only [Act.put, List.setIfInBounds_toArray, List.set_cons_zero, List.set_cons_succ]
      refine E_next 17 rfl (by kernel_rfl) (fun K hK => ?_)
      refine step_append_lies _ (by rfl) _ _ _ (by rfl) (N + 5) 46 ip _ 4 64 Tryd.underlying32 hip hpz hps hpb rfl (by omega) v hs.length (hkCells hs vs) (by rfl) ((own_below (own_below ((hrow.alloc _).drew) hb1) hb2).alloc _) ⟨w2.heap.size, 0, none⟩ 1 1 [.int .i64 (f : Int), .int .i64 (t : Int), .slice A1 n1 c1, .slice A2 n2 c2] (by rfl) (by rfl) (four_new _ _ _ _ _ _) (by simp [Value.oneCell']) (by omega) (by unfold maxLen; omega) (by omega) (by simp; omega) (w2.heap.size + 1) (by simp) ?_
      intro gg cap w3 hown3 hgrow hat hlt
      have far : ∀ p : Addr, p.block < w2.heap.size → (p.block < N + 5 ∨ w.heap.size ≤ p.block) → w3.cell? p = (w2.alloc (.cells #[.int .i64 (f : Int), .int .i64 (t : Int), .slice A1 n1 c1, .slice A2 n2 c2] 46)).cell? p := fun p hp hp2 => grown_cell hgrow (by simp; omega) (fun e => by have hvb := HVB.out _ e; omega)
      refine hK.out _ _ (fun _ => ?_) (fun hHeld1 => ?_)
      · obtain ⟨q1, q2, q3, q4, q5, q6, q7⟩ := hHeld
        exact ⟨(far _ (by show N < w2.heap.size; omega) (.inl (by show N < N + 5; omega))).trans q1, (far _ (by show N + 1 < w2.heap.size; omega) (.inl (by show N + 1 < N + 5; omega))).trans q2, (far _ (by show N + 2 < w2.heap.size; omega) (.inl (by show N + 2 < N + 5; omega))).trans q3, (far _ (by show N + 3 < w2.heap.size; omega) (.inl (by show N + 3 < N + 5; omega))).trans q4, (far _ (by show N + 4 < w2.heap.size; omega) (.inl (by show N + 4 < N + 5; omega))).trans q5, (far _ (by show w.heap.size < w2.heap.size; omega) (.inr (Nat.le_refl _))).trans q6, (far _ (by show w.heap.size < w2.heap.size; omega) (.inr (Nat.le_refl _))).trans q7⟩
      clear hK K hHeld
      have hHeld := hHeld1 (by omega)
      clear hHeld1
      try simp only [Act.put, List.setIfInBounds_toArray, List.set_cons_zero, List.set_cons_succ]
      have cO3 := hHeld.2.2.1
      have zO3 : w3.frozen? ⟨N + 2, 0, none⟩ = false := by
        have e1 := grown_frozen (p := ⟨N + 2, 0, none⟩) hgrow (by simp; omega) (fun e => by have hvb := HVB.out _ e; simp at hvb)
        have e2 : (w2.alloc (.cells #[.int .i64 (f : Int), .int .i64 (t : Int), .slice A1 n1 c1, .slice A2 n2 c2] 46)).frozen? ⟨N + 2, 0, none⟩ = false := frozen_alloc (((hb2.frozen (by show N + 2 < w1.heap.size; omega)).trans (hb1.frozen (by simp; omega))).trans (zO2 _))
        exact e1.trans e2
      have FAR := hide far
      clear far
      refine E_next 18 rfl (by kernel_rfl) (fun K hK => ?_)
      go_simp
      refine hK.out _ _ (fun h => absurd rfl h) (fun _ => ?_)
      clear hK K
      refine E_done (by kernel_rfl) ?_ _
      have hb02 : Below w.heap.size w w2 := (((Below.refl _ _).alloc (Nat.le_refl _) _).drew.trans (hb1.mono (by simp))).trans (hb2.mono (by omega))
      have hes := he.out.push hb02 HVS.out hrow HOK.out HEL.out (h := ⟨f, t, part a f x, part b t y⟩) ⟨⟨by show (-9223372036854775808 : Int) ≤ (f : Int); omega, by show (f : Int) ≤ 9223372036854775807; omega⟩, ⟨by show (-9223372036854775808 : Int) ≤ (t : Int); omega, by show (t : Int) ≤ 9223372036854775807; omega⟩⟩ (hs1'.out.below hb2) hs2'.out (fun g hg => ⟨by have := (hg1'.out g hg).1; simp at this; omega, by have := (hg1'.out g hg).2; omega⟩) (fun g hg => ⟨by have := (hg2'.out g hg).1; omega, (hg2'.out g hg).2⟩) hown3 hgrow hat
      have p0 : (w3.setCell ⟨N + 2, 0, none⟩ (.slice (some ⟨gg, 0, none⟩) (hs.length + 1) cap)).cell? ⟨w.heap.size, 0, none⟩ = some (.int .i64 (x : Int)) := (World.cell?_setCell_other _ _ _ _ (by simp <;> omega)).trans hHeld.2.2.2.2.2.1
      have p1 : (w3.setCell ⟨N + 2, 0, none⟩ (.slice (some ⟨gg, 0, none⟩) (hs.length + 1) cap)).cell? ⟨w.heap.size, 1, none⟩ = some (.int .i64 (y : Int)) := (World.cell?_setCell_other _ _ _ _ (by simp <;> omega)).trans hHeld.2.2.2.2.2.2
      have hgap : gap a b f t x y = [⟨f, t, part a f x, part b t y⟩] := by unfold gap; rw [if_pos HG.out]
      have HGAP := hide hgap
      clear hgap
      have hon : Only N v w (w3.setCell ⟨N + 2, 0, none⟩ (.slice (some ⟨gg, 0, none⟩) (hs.length + 1) cap)) := Only.push hb02 hgrow
      have HON := hide hon
      clear hon
      generalize (w3.setCell ⟨N + 2, 0, none⟩ (.slice (some ⟨gg, 0, none⟩) (hs.length + 1) cap)) = w4 at *
      have hes' := hide hes
      have cF4 := cell_of_one hes.bf
      have cT4 := cell_of_one hes.bt
      have zF4 := free_of_one hes.bf
      have zT4 := free_of_one hes.bt
      clear hes hb02 hown3 hgrow hat hlt FAR cO3 zO3 hHeld hb1 hb2 hz1 hz2 hrow HVS HOK HEL zO2 cOa rka rkb hip hpz hps hpb
      go_wp2
      go_region
      go_end0
      rw [HGAP.out]
      exact ⟨rfl, _, (hes'.out.move x y).below (Below.refl _ _).drew, HON.out.move.drew⟩
  · have hfx' : decide ((f : Int) < (x : Int)) = false := by simp; omega
    have hty' : decide ((t : Int) < (y : Int)) = false := by simp; omega
    go_enter Tryd.func56, Tryd.ntmps56
    go_wp2
    go_region
    go_end0
    refine ⟨rfl, v, ?_⟩
    have hgap : gap a b f t x y = [] := by unfold gap; rw [if_neg hg]
    rw [hgap, List.append_nil]
    have hz := (he.out.move x y).below (((Below.refl _ _).alloc (Nat.le_refl _) (.cells #[.int .i64 (x : Int), .int .i64 (y : Int)] 92)).drew)
    exact ⟨hz, (((Only.of_below (Below.refl _ _)).move (x := .int .i64 ((x : Int) + 1)) (y := .int .i64 ((y : Int) + 1))).alloc (by simp [World.setCell]) _).drew⟩
end Go.Proofs.YtinpgnekjebipaaDoor
