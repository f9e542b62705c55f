/- append(s[:i], make([]string, k)...) where there is no room: a new own row. -/
import Derived.Test.YtfjbdbdjhkmifaaPtI
set_option linter.unusedVariables false
set_option linter.unusedSimpArgs false
namespace Go.Proofs.Ytfjbdbdjhkmifaa
open Go.RowKit Go.Pw
theorem growZ_run {w : World} {base g i cap k : Nat} {xs : List Value} (h : w.ownsRow base 9 1 (.slice (some ⟨g, 0, none⟩) i cap) i xs) (h0 : 0 < k) (hg : cap < i + k) (hb : i + k ≤ 1000000000) (hbase : base ≤ w.heap.size) :
    ∃ C w', i + k ≤ C ∧ (∀ ty, (Builtin.append_ #[22, 3] ty #[.slice (some ⟨g, 0, none⟩) i cap, .int .i64 (k : Int)]).run Try.prog w = .ok (.slice (some ⟨w.heap.size, 0, none⟩) (i + k) C) w') ∧
      w'.ownsRow base 9 1 (.slice (some ⟨w.heap.size, 0, none⟩) (i + k) C) (i + k) (xs ++ List.replicate k (.string ⟨#[]⟩)) ∧ w.grownBy w' none := by
  obtain ⟨ip, hip, hpz, hps, hpb⟩ := info_parts info_string
  have hl := h.1
  obtain ⟨F, hF, hFt, hic, hcm, hfull⟩ := own_full h
  obtain ⟨_, hcF, _⟩ := own_there hfull
  have hold : (Builtin.firstCells ip.size i (.slice (some ⟨g, 0, none⟩) i cap)).run Try.prog w.drew = .ok xs.toArray w.drew := by
    rw [hps]
    exact run_firstCells_some w.drew 1 i ⟨g, 0, none⟩ i cap xs (by omega) (fun j v hj => by
      rw [Addr.add_lit, Nat.zero_add]
      refine hcF j v ?_
      rw [← hFt, List.getElem?_take] at hj
      split at hj
      · exact hj
      · cases hj)
  have hC := grownCap_ge w (i + k) cap 9
  have hCm := grownCap_le_maxLen w (i + k) cap 9 (by unfold maxLen; omega)
  have hz : ∀ n, Builtin.zeroCells (Value.string ByteArray.empty).cells n = Array.replicate n (Value.string ⟨#[]⟩) := fun n => by
    apply Array.ext'
    apply List.ext_getElem
    · simp [Builtin.zeroCells, Value.cells]
    · intro i h1 h2
      simp [Builtin.zeroCells, Value.cells]
      rw [Nat.mod_one]; rfl
  refine ⟨_, _, hC, fun ty => Lib.run_append_grow_zeros w _ 3 ty 9 ip _ .i64 .i64 Try.underlying22 Try.underlying3 hip hpz (some ⟨g, 0, none⟩) i cap xs hold k h0 (by omega) hg (by omega) (by rw [hpb]; omega) (by rw [hpb]; exact growslice_fits hg (by omega)), ?_, ?_⟩
  all_goals rw [hz, hz]
  · refine ⟨by simp; omega, .inr ⟨w.heap.size, _, _, rfl, hbase, heap_alloc_new _ _, hC, hCm, ?_, ?_⟩⟩
    · simp; omega
    · have e : (xs ++ List.replicate k (Value.string ⟨#[]⟩)).length = (i + k) * 1 := by simp; omega
      rw [Array.toList_append, Array.toList_append, List.take_append_of_le_length (by simp; omega)]
      simp only [Array.toList_replicate]
      rw [List.take_of_length_le (by omega)]
  · have hb := ((Below.refl w.heap.size w).drew).alloc (Nat.le_refl _) (.cells (xs.toArray ++ Array.replicate k (Value.string ⟨#[]⟩) ++ Array.replicate (grownCap w (i + k) cap 9 - (i + k)) (Value.string ⟨#[]⟩)) 9)
    exact ⟨hb.os, hb.tape, hb.output, hb.size, fun j hj _ => hb.block j hj⟩
theorem grown_refl (w : World) (r : Option Nat) : w.grownBy w r := ⟨rfl, rfl, rfl, Nat.le_refl _, fun _ _ _ => rfl⟩
theorem grown_trans {w w1 w2 : World} {r : Option Nat} (h1 : w.grownBy w1 r) (h2 : w1.grownBy w2 r) : w.grownBy w2 r := ⟨h2.os.trans h1.os, h2.tape.trans h1.tape, h2.output.trans h1.output, Nat.le_trans h1.size h2.size, fun k hk hne => (h2.block k (Nat.lt_of_lt_of_le hk h1.size) hne).trans (h1.block k hk hne)⟩
theorem grown_new {w w1 w2 : World} {r : Option Nat} {g : Nat} (h1 : w.grownBy w1 r) (hg : w.heap.size ≤ g) (h2 : w1.grownBy w2 (some g)) : w.grownBy w2 r := ⟨h2.os.trans h1.os, h2.tape.trans h1.tape, h2.output.trans h1.output, Nat.le_trans h1.size h2.size, fun k hk hne => (h2.block k (Nat.lt_of_lt_of_le hk h1.size) (fun e => by injection e with e; omega)).trans (h1.block k hk hne)⟩
/-- the one list behind the other -/
theorem put_eq (F P V D : List Value) (i cap tot : Nat) (hF : F.length = cap) (ht : F.take i = P) (hi : i ≤ cap) (hr : tot = i + V.length + D.length) (hc : tot ≤ cap) : (setAll (setAll F i V) (i + V.length) D).take tot = P ++ (V ++ D) := by
  have hP : P.length = i := by rw [← ht, List.length_take]; omega
  have e1 : setAll F i V = (P ++ V) ++ F.drop (i + V.length) := by rw [setAll_eq _ _ _ (by omega), ht, List.append_assoc]
  have hl : (P ++ V).length = i + V.length := by simp [hP]
  have q1 : ∀ R : List Value, ((P ++ V) ++ R).take (i + V.length) = P ++ V := fun R => by rw [List.take_append_of_le_length (by omega), List.take_of_length_le (by omega)]
  have hl2 : ((P ++ V) ++ D).length = tot := by rw [List.length_append]; omega
  rw [setAll_eq _ _ _ (by rw [setAll_length]; omega), e1, q1, ← List.append_assoc, List.take_append_of_le_length (by omega), List.take_of_length_le (by omega), List.append_assoc]
theorem put_eq' (F P V D : List Value) (i cap tot : Nat) (hF : F.length = cap) (ht : F.take i = P) (hi : i ≤ cap) (hr : tot = i + V.length + D.length) (hc : tot ≤ cap) : (setAll (setAll F (i + V.length) D) i V).take tot = P ++ (V ++ D) := by
  have hP : P.length = i := by rw [← ht, List.length_take]; omega
  have hl1 : (F.take (i + V.length)).length = i + V.length := by rw [List.length_take]; omega
  have e1 : setAll F (i + V.length) D = F.take (i + V.length) ++ (D ++ F.drop (i + V.length + D.length)) := setAll_eq _ _ _ (by omega)
  have q1 : ∀ R : List Value, (F.take (i + V.length) ++ R).take i = F.take i := fun R => by rw [List.take_append_of_le_length (by omega), List.take_take, Nat.min_eq_left (by omega)]
  have q2 : ∀ R : List Value, (F.take (i + V.length) ++ R).drop (i + V.length) = R := fun R => by rw [List.drop_append_of_le_length (by omega), List.drop_of_length_le (Nat.le_of_eq hl1), List.nil_append]
  rw [setAll_eq _ _ i (by rw [setAll_length]; omega), e1, q1, q2, ht]
  have hl2 : (P ++ (V ++ D)).length = tot := by simp; omega
  rw [← List.append_assoc V, ← List.append_assoc, List.take_append_of_le_length (by omega), List.take_of_length_le (by omega)]
/-- the row is moved: what stands ahead of i, the new ones, what stood from j on -/
theorem regrow {w : World} {base g cap : Nat} (l vs : List ByteArray) (i j : Nat) (B : Option Addr) (cb : Nat) (h : w.ownsRow base 9 1 (.slice (some ⟨g, 0, none⟩) l.length cap) l.length (l.map Value.string)) (hv : Strs w (.slice B vs.length cb) vs)
    (hij : i ≤ j) (hj : j ≤ l.length) (hg : cap < i + vs.length + (l.length - j)) (hl : l.length ≤ 100000000) (hm : vs.length ≤ 100000000) (hbase : base ≤ w.heap.size) (hgw : g < w.heap.size) :
    ∃ (C : Nat) (W1 W2 W3 : World), i + vs.length + (l.length - j) ≤ C ∧
      (∀ ty kk, kk = ((vs.length + (l.length - j) : Nat) : Int) → (Builtin.append_ #[22, 3] ty #[.slice (some ⟨g, 0, none⟩) i cap, .int .i64 kk]).run Try.prog w = .ok (.slice (some ⟨w.heap.size, 0, none⟩) (i + vs.length + (l.length - j)) C) W1) ∧
      (∀ ty n1 c1, n1 = vs.length + (l.length - j) → (Builtin.copy_ #[22, 22] ty #[.slice (some ⟨w.heap.size, i, none⟩) n1 c1, .slice B vs.length cb]).run Try.prog W1 = .ok (goInt vs.length) W2) ∧
      (∀ ty n1 c1 c2, n1 = l.length - j → (Builtin.copy_ #[22, 22] ty #[.slice (some ⟨w.heap.size, i + vs.length, none⟩) n1 c1, .slice (some ⟨g, j, none⟩) (l.length - j) c2]).run Try.prog W2.drew = .ok (goInt ((l.length - j : Nat) : Int)) W3) ∧
      W3.ownsRow base 9 1 (.slice (some ⟨w.heap.size, 0, none⟩) (i + vs.length + (l.length - j)) C) (i + vs.length + (l.length - j)) ((l.take i ++ (vs ++ l.drop j)).map Value.string) ∧ w.grownBy W3 none := by
  have hlc : l.length ≤ cap := by
    obtain ⟨_, ⟨e, _⟩ | ⟨_, c, cur, e, _, hh, hn, hmx, _⟩⟩ := h
    · cases e
    · injection e with _ _ e3; subst e3; exact hn
  have hcl : ∀ k v, (l.map Value.string)[k]? = some v → w.cell? ⟨g, k, none⟩ = some v := fun k v hk => by
    have h0 : 0 < l.length := by have := (List.getElem?_eq_some_iff.1 hk).1; simp at this; omega
    obtain ⟨g', cap', e, _, _, _, _, hc, _⟩ := own_cells h h0
    injection e with e1
    injection e1 with e1
    injection e1 with e1
    subst e1
    exact hc k v hk
  have h1 := own_short (n' := i) h (by omega)
  rw [Nat.mul_one, ← List.map_take] at h1
  obtain ⟨C, W1, hC, hap, how, hgr⟩ := growZ_run (k := vs.length + (l.length - j)) h1 (by omega) (by omega) (by omega) hbase
  rw [← Nat.add_assoc] at hC hap how
  obtain ⟨F, hF, hFt, _, hCm, hfull⟩ := own_full how
  have hp1 : F.take i = (l.take i).map Value.string := by
    have := congrArg (List.take i) hFt
    rw [List.take_take, Nat.min_eq_left (by omega)] at this
    rw [this, List.take_append_of_le_length (by rw [List.length_map, List.length_take]; omega), List.take_of_length_le (by rw [List.length_map, List.length_take]; omega)]
  have hv1 : Strs W1 (.slice B vs.length cb) vs := hv.grown hgr (fun _ _ e => by cases e)
  have c2 := fun ty n1 c1 (hn1 : n1 = vs.length + (l.length - j)) => copyS_run (w := W1) hfull ty i n1 c1 B cb vs hv1 (by omega) (by omega)
  obtain ⟨W2, hW2⟩ : ∃ W2, W2 = W1.setCells w.heap.size i (vs.map Value.string) := ⟨_, rfl⟩
  rw [← hW2] at c2
  have ho2 : W2.drew.ownsRow base 9 1 (.slice (some ⟨w.heap.size, 0, none⟩) C C) C (setAll F i (vs.map Value.string)) := (c2 0 _ 0 rfl).2.1
  have hg2 : w.grownBy W2 none := grown_new hgr (Nat.le_refl _) (c2 0 _ 0 rfl).2.2
  have hg2' : w.grownBy W2.drew none := ⟨hg2.os, hg2.tape, hg2.output, hg2.size, hg2.block⟩
  have c3 := fun ty n1 c1 cc (hn1 : n1 = l.length - j) => copyO_run (w := W2.drew) ho2 ty (i + vs.length) n1 c1 g j (l.length - j) cc ((l.drop j).map Value.string) (by rw [List.length_map, List.length_drop, hn1]; exact (Nat.min_self _).symm) (by rw [List.length_map, List.length_drop]; omega)
    (fun k v hk => by
      rw [List.map_drop, List.getElem?_drop] at hk
      have := hcl (j + k) v hk
      rw [← this]
      have hb := hg2'.block g hgw (by simp)
      simp [World.cell?, hb]) (fun v hv => by obtain ⟨x, _, rfl⟩ := List.mem_map.1 hv; rfl)
  obtain ⟨W3, hW3⟩ : ∃ W3, W3 = W2.drew.setCells w.heap.size (i + vs.length) ((l.drop j).map Value.string) := ⟨_, rfl⟩
  rw [← hW3] at c3
  simp only [List.length_map, List.length_drop] at c3
  refine ⟨C, W1, W2, W3, hC, fun ty kk hk => by subst hk; exact hap ty, fun ty n1 c1 hn => (c2 ty n1 c1 hn).1, fun ty n1 c1 cc hn => (c3 ty n1 c1 cc hn).1, ?_, grown_new hg2' (Nat.le_refl _) (c3 0 _ 0 0 rfl).2.2⟩
  have := own_short (n' := i + vs.length + (l.length - j)) (c3 0 _ 0 0 rfl).2.1 hC
  have e := put_eq F _ (vs.map Value.string) ((l.drop j).map Value.string) i C (i + vs.length + (l.length - j)) hF hp1 (by omega) (by simp) hC
  rw [List.length_map] at e
  rw [Nat.mul_one, e] at this
  simpa using this
end Go.Proofs.Ytfjbdbdjhkmifaa