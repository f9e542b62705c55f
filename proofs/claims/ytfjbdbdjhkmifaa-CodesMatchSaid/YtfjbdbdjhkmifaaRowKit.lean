/- What came in, opened, with its bulk: slices of strings, of pieces, of hunks. -/
import Derived.Test.YtfjbdbdjhkmifaaRows
import Derived.Test.YtfjbdbdjhkmifaaOpen
import Derived.Test.YtfjbdbdjhkmifaaPiece
import Derived.Deep.Slices
import Derived.JoinedCond
import Derived.ChangeSame
namespace Go.Proofs.Ytfjbdbdjhkmifaa
open Go.ChangeShapes Go.WideShapes Go.ChangeAt Go.RowKit Go.Pw Go.Deep
open Go.ChangeMaps (open_string shut_string)
set_option linter.unusedVariables false

theorem lists_of {α β : Type} {n : Nat} {Q : Nat → α → β → Prop} (h : ∀ i, i < n → ∃ a b, Q i a b) : ∃ (xs : List α) (ys : List β), xs.length = n ∧ ys.length = n ∧ ∀ i a b, xs[i]? = some a → ys[i]? = some b → Q i a b := by
  induction n with
  | zero => exact ⟨[], [], rfl, rfl, fun i a b h _ => by simp at h⟩
  | succ n ih =>
    obtain ⟨xs, ys, h1, h2, h3⟩ := ih fun i hi => h i (by omega)
    obtain ⟨a, b, hq⟩ := h n (by omega)
    refine ⟨xs ++ [a], ys ++ [b], by simp [h1], by simp [h2], fun i x y hx hy => ?_⟩
    by_cases hi : i < n
    · rw [List.getElem?_append_left (by omega)] at hx hy
      exact h3 i x y hx hy
    · have hin : i = n := by
        have := (List.getElem?_eq_some_iff.1 hx).1
        simp at this; omega
      subst hin
      rw [List.getElem?_append_right (by omega)] at hx hy
      simp [h1] at hx
      simp [h2] at hy
      subst hx hy
      exact hq
theorem bulk_one {H : Type} (d : DataW H) : 1 ≤ Rows.uptoBulk d := by
  cases d with
  | lit l => cases l <;> simp [Rows.uptoBulk]
  | nil => simp [Rows.uptoBulk]
  | ptr d => simp [Rows.uptoBulk]
  | slice elems spare => simp [Rows.uptoBulk]
  | agg parts => simp [Rows.uptoBulk]
  | iface t d => simp [Rows.uptoBulk]
  | map entries => simp [Rows.uptoBulk]
  | held h => simp [Rows.uptoBulk]
theorem bulk_append {H : Type} (l r : List (DataW H)) : Rows.uptoBulkAll (l ++ r) = Rows.uptoBulkAll l + Rows.uptoBulkAll r := by
  induction l with
  | nil => simp [Rows.uptoBulkAll]
  | cons x l ih => simp only [List.cons_append, Rows.uptoBulkAll, ih]; omega
theorem bulk_strs {H : Type} (l : List ByteArray) : Rows.uptoBulkAll (strs (H := H) l) = linesW l := by
  induction l with
  | nil => rfl
  | cons s l ih =>
    have e : s.data.toList.length = s.size := Array.length_toList
    simp only [strs, List.map_cons, Rows.uptoBulkAll, Rows.uptoBulk, linesW, e] at ih ⊢
    omega
theorem add_form (x : Addr) (h : x.spot = none) (j : Nat) : x.add j = ⟨x.block, x.off + j, none⟩ := by
  obtain ⟨b, o, s⟩ := x
  simp only at h
  subst h
  unfold Addr.add
  split
  · rename_i e; subst e; rfl
  · rfl

set_option maxRecDepth 100000 in
/-- a slice of strings inside what came in -/
theorem strs_trod {H : Type} {enc : TypeId × Value → H} {W : World} {n : Nat} {v : Value} {y : DataW H × List MemPlace} (h : DataW.trod enc Try.prog W 0 (fun _ => true) true n 22 [v] = some y) :
    ∃ l, Strs W v l ∧ linesW l + 1 ≤ Rows.uptoBulk y.1 := by
  rcases open_strings Try.underlying22 Try.underlying9 (by kernel_rfl) h with ⟨hcs, hy⟩ | ⟨x, l, c, ss, hcs, _, hl, hm, hz, hy, hcell, hws⟩
  · simp at hcs
    subst hcs hy
    exact ⟨[], ⟨Rd.nil _ _, by simp⟩, by simp [linesW, Rows.uptoBulk]⟩
  · simp at hcs
    subst hcs hy
    have hlen : ss.length = c := by simpa using hz
    have hl2 : (ss.take l).length = l := by simp; omega
    refine ⟨ss.take l, ⟨⟨by simp, some x, c, by rw [hl2], by rw [hl2]; exact hl, hm, fun hn => ?_⟩, fun s hs => hws s (List.mem_of_mem_take hs)⟩, ?_⟩
    · rw [hl2] at hn
      have h0 := hcell 0 (by omega)
      have h00 : x.add 0 = x := by simp [Addr.add]
      rw [h00] at h0
      have hsp := spot_none h0
      refine ⟨x.block, x.off, by obtain ⟨_, _, s⟩ := x; simp only at hsp; subst hsp; rfl, World.block_lt_of_cell? W x h0, fun j u hu => ?_⟩
      rw [List.getElem?_map, Option.map_eq_some_iff] at hu
      obtain ⟨s, hs, rfl⟩ := hu
      rw [List.getElem?_take] at hs
      split at hs
      · have hj : j < ss.length := (List.getElem?_eq_some_iff.1 hs).1
        have := hcell j hj
        rw [show ss.getD j ByteArray.empty = s by simp [hs], add_form x hsp] at this
        exact this
      · cases hs
    · simp only [Rows.uptoBulk]
      rw [bulk_strs]
      omega

theorem pcCells_inv : ∀ (ps : List Pc) (vs : List PcV) (j : Nat) (u : Value), vs.length = ps.length → (pcCells ps vs)[j]? = some u → ∃ (i r : Nat) (p : Pc) (v : PcV), ps[i]? = some p ∧ vs[i]? = some v ∧ j = 5 * i + r ∧ [Value.bool p.conf, v.lines, v.base, v.a, v.b][r]? = some u
  | [], [], j, u, _, h => by simp [pcCells] at h
  | [], v :: vs, _, _, e, _ => by simp at e
  | h :: hs, [], _, _, e, _ => by simp at e
  | p :: ps, v :: vs, j, u, e, h => by
    by_cases hj : j < 5
    · refine ⟨0, j, p, v, rfl, rfl, by omega, ?_⟩
      have : pcCells (p :: ps) (v :: vs) = [Value.bool p.conf, v.lines, v.base, v.a, v.b] ++ pcCells ps vs := rfl
      rw [this, List.getElem?_append_left (by simpa using hj)] at h
      exact h
    · have : pcCells (p :: ps) (v :: vs) = [Value.bool p.conf, v.lines, v.base, v.a, v.b] ++ pcCells ps vs := rfl
      rw [this, List.getElem?_append_right (by simp; omega)] at h
      obtain ⟨i, r, q, w, h1, h2, h3, h4⟩ := pcCells_inv ps vs _ u (by simpa using e) h
      simp at h3
      exact ⟨i + 1, r, q, w, by simpa using h1, by simpa using h2, by omega, h4⟩
theorem pcsW_snoc (ps : List Pc) (p : Pc) : pcsW (ps ++ [p]) = pcsW ps + pcW p := by
  induction ps with
  | nil => simp [pcsW]
  | cons q ps ih => simp only [List.cons_append, pcsW, ih]; omega
theorem pcsW_bulk {H : Type} {D : Nat → DataW H} : ∀ (n : Nat) (ps : List Pc), ps.length = n → (∀ i p, ps[i]? = some p → pcW p ≤ Rows.uptoBulk (D i)) → pcsW ps ≤ Rows.uptoBulkAll ((List.range n).map D)
  | 0, ps, h, _ => by
    have : ps = [] := List.eq_nil_of_length_eq_zero h
    subst this; simp [pcsW]
  | n + 1, ps, h, hb => by
    obtain ⟨qs, q, rfl⟩ : ∃ qs q, ps = qs ++ [q] := ⟨ps.dropLast, ps.getLast (by intro e; subst e; simp at h), (List.dropLast_concat_getLast _).symm⟩
    simp at h
    rw [List.range_succ, List.map_append, bulk_append, pcsW_snoc]
    have h1 := pcsW_bulk (D := D) n qs h fun i p hp => hb i p (by rw [List.getElem?_append_left (by have := (List.getElem?_eq_some_iff.1 hp).1; omega)]; exact hp)
    have h2 := hb n q (by rw [List.getElem?_append_right (by omega)]; simp [h])
    simp only [List.map_cons, List.map_nil, Rows.uptoBulkAll]
    omega

set_option maxRecDepth 100000 in
theorem piece_at {H : Type} {enc : TypeId × Value → H} {W : World} {n : Nat} {cs : List Value} {y : DataW H × List MemPlace} (h : DataW.trod enc Try.prog W 0 (fun _ => true) true n 73 cs = some y) :
    ∃ (p : Pc) (v : PcV), cs = [.bool p.conf, v.lines, v.base, v.a, v.b] ∧ PcRd W p v ∧ pcW p ≤ Rows.uptoBulk y.1 := by
  obtain ⟨xs, m, _, rfl, hl, hlen, hf⟩ := DataW.trod_struct Try.underlying73 h
  have hC : Try.prog.cellsOf 73 = 5 := by kernel_rfl
  have k1 : Try.prog.cellsOf 4 = 1 := by kernel_rfl
  have k2 : Try.prog.cellsOf 22 = 1 := by kernel_rfl
  rw [hC] at hl
  match cs, hl, xs, hlen with
  | [c0, c1, c2, c3, c4], _, [y0, y1, y2, y3, y4], _ =>
    have q0 : DataW.trod enc Try.prog W 0 (fun _ => true) true m 4 (([c0, c1, c2, c3, c4].drop 0).take (Try.prog.cellsOf 4)) = some y0 := hf 0 _ rfl
    rw [k1] at q0
    have g0 : DataW.trod enc Try.prog W 0 (fun _ => true) true m 4 [c0] = some y0 := q0
    have q1 : DataW.trod enc Try.prog W 0 (fun _ => true) true m 22 (([c0, c1, c2, c3, c4].drop 1).take (Try.prog.cellsOf 22)) = some y1 := hf 1 _ rfl
    rw [k2] at q1
    have g1 : DataW.trod enc Try.prog W 0 (fun _ => true) true m 22 [c1] = some y1 := q1
    have q2 : DataW.trod enc Try.prog W 0 (fun _ => true) true m 22 (([c0, c1, c2, c3, c4].drop 2).take (Try.prog.cellsOf 22)) = some y2 := hf 2 _ rfl
    rw [k2] at q2
    have g2 : DataW.trod enc Try.prog W 0 (fun _ => true) true m 22 [c2] = some y2 := q2
    have q3 : DataW.trod enc Try.prog W 0 (fun _ => true) true m 22 (([c0, c1, c2, c3, c4].drop 3).take (Try.prog.cellsOf 22)) = some y3 := hf 3 _ rfl
    rw [k2] at q3
    have g3 : DataW.trod enc Try.prog W 0 (fun _ => true) true m 22 [c3] = some y3 := q3
    have q4 : DataW.trod enc Try.prog W 0 (fun _ => true) true m 22 (([c0, c1, c2, c3, c4].drop 4).take (Try.prog.cellsOf 22)) = some y4 := hf 4 _ rfl
    rw [k2] at q4
    have g4 : DataW.trod enc Try.prog W 0 (fun _ => true) true m 22 [c4] = some y4 := q4
    obtain ⟨b, e0, ey0⟩ := DataW.trod_bool Try.underlying4 g0
    simp only [List.cons.injEq, and_true] at e0
    subst e0
    obtain ⟨l1, s1, b1⟩ := strs_trod g1
    obtain ⟨l2, s2, b2⟩ := strs_trod g2
    obtain ⟨l3, s3, b3⟩ := strs_trod g3
    obtain ⟨l4, s4, b4⟩ := strs_trod g4
    refine ⟨⟨b, l1, l2, l3, l4⟩, ⟨c1, c2, c3, c4⟩, rfl, ⟨s1, s2, s3, s4⟩, ?_⟩
    simp only [List.map_cons, List.map_nil, Rows.uptoBulk, Rows.uptoBulkAll, pcW]
    omega
set_option maxRecDepth 100000 in
theorem pieces_in {H : Type} {enc : TypeId × Value → H} {W : World} {base : Nat} {v : Value} {d : DataW H} {p : List MemPlace} (hv : Value.okWide Try.prog W .any base 23 v)
    (h : DataW.Trod enc Try.prog W 0 (fun _ => true) true 23 v d p) : ∃ ps, Pieces W v ps ∧ pcsW ps ≤ Rows.uptoBulk d := by
  obtain ⟨a0, len0, cap0, rfl⟩ := okWide_slice Try.underlying23 hv
  obtain ⟨fuel, hf⟩ := h
  have hC : Try.prog.cellsOf 73 = 5 := by kernel_rfl
  rcases open_slice Try.underlying23 hf with ⟨hcs, hx⟩ | ⟨x, l, c, m, n, D, Pl, hcs, _, hl, hm, hmm, hx, hel⟩
  · simp [Value.cells] at hcs
    obtain ⟨rfl, rfl, rfl⟩ := hcs
    exact ⟨[], ⟨[], rfl, Rd.nil _ _, fun i p u h => by simp at h⟩, by simp [pcsW]⟩
  · simp [Value.cells] at hcs
    obtain ⟨rfl, rfl, rfl⟩ := hcs
    have hmc : m = cap0 := by simpa using hmm
    simp only [Prod.mk.injEq] at hx
    obtain ⟨rfl, _⟩ := hx
    rw [hC] at hel
    have key : ∀ i, i < len0 → ∃ (p : Pc) (u : PcV), (∀ r y, [Value.bool p.conf, u.lines, u.base, u.a, u.b][r]? = some y → W.cell? ((x.add (i * 5)).add r) = some y) ∧ PcRd W p u ∧ pcW p ≤ Rows.uptoBulk (D i) := by
      intro i hi
      obtain ⟨cs', hc, ht⟩ := hel i (by omega)
      obtain ⟨_, hcl, hat⟩ := World.cells?_some hc
      obtain ⟨p, u, rfl, hr, hb⟩ := piece_at ht
      refine ⟨p, u, fun r y hy => ?_, hr, hb⟩
      rw [hat r (by have := (List.getElem?_eq_some_iff.1 hy).1; simpa using this)]
      exact hy
    obtain ⟨ps, vs, e1, e2, hq⟩ := lists_of key
    refine ⟨ps, ⟨vs, by omega, ⟨pcCells_length _ _ (by omega), some x, cap0, by rw [e1], by omega, hm, fun hn => ?_⟩, fun i p u hp hu => (hq i p u hp hu).2.1⟩, ?_⟩
    · have h0 := (hq 0 ps[0] (vs[0]'(by omega)) (List.getElem?_eq_getElem (by omega)) (List.getElem?_eq_getElem (by omega))).1 0 _ rfl
      have h00 : (x.add (0 * 5)).add 0 = x := by simp [Addr.add]
      rw [h00] at h0
      have hsp := spot_none h0
      refine ⟨x.block, x.off, by obtain ⟨_, _, s⟩ := x; simp only at hsp; subst hsp; rfl, World.block_lt_of_cell? W x h0, fun j u hu => ?_⟩
      obtain ⟨i, r, p, w', hp, hw, rfl, hr⟩ := pcCells_inv ps vs j u (by omega) hu
      have := (hq i p w' hp hw).1 r u hr
      rw [add_form x hsp, add_form _ rfl] at this
      simp only at this
      rw [show x.off + (5 * i + r) = x.off + i * 5 + r by omega]
      exact this
    · have := pcsW_bulk (D := D) len0 ps e1 fun i p hp => (hq i p (vs[i]'(by have := (List.getElem?_eq_some_iff.1 hp).1; omega)) hp (List.getElem?_eq_getElem _)).2.2
      simp only [Rows.uptoBulk]
      omega
end Go.Proofs.Ytfjbdbdjhkmifaa
