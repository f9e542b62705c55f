/- What came in, opened, with how long it can be: slices of strings, of hunks. -/
import Derived.Test.YtfjbdbdjhkmifaaRowKit
import Derived.SizedLaws
namespace Go.Proofs.Ytfjbdbdjhkmifaa
open Go.ChangeShapes Go.WideShapes Go.ChangeAt Go.RowKit Go.Pw Go.Deep
open Go.ChangeMaps (open_string shut_string)
set_option linter.unusedVariables false

/-- how long a slice's reading is -/
def LenOf {H : Type} (d : DataW H) (n : Nat) : Prop := n = 0 ∨ ∃ es sp, d = .slice es sp ∧ n = es.length
theorem len_sized {H : Type} {ts : List TypeId} {ds : List (DataW H)} {j : Nat} {t e : TypeId} {d : DataW H} {n b : Nat} (h : LenOf d n) (hsz : (DataW.weightsEach Try.prog ts ds).all (· ≤ reachBytes) = true) (ht : ts[j]? = some t) (hd : ds[j]? = some d) (hu : Try.prog.underlying t = some (.slice e)) (hb : Try.prog.bytesOf e = b) :
    n * b ≤ 140737488355328 := by
  rcases h with rfl | ⟨es, sp, rfl, rfl⟩
  · simp
  · have h1 := sized_slice hsz ht hd hu
    have h2 := reachBytes_lt
    rw [hb] at h1
    have h3 : es.length * b ≤ (es.length + sp.length) * b := Nat.mul_le_mul_right _ (by omega)
    have h4 : reachBytes < 140737488355328 := by
      have e2 : (2 : Nat) ^ 47 = 140737488355328 := by decide
      omega
    omega

set_option maxRecDepth 100000 in
theorem strs_len {H : Type} {enc : TypeId × Value → H} {W : World} {base : Nat} {v : Value} {d : DataW H} {p : List MemPlace} (hv : Value.okWide Try.prog W .any base 22 v)
    (h : DataW.Trod enc Try.prog W 0 (fun _ => true) true 22 v d p) : ∃ l, Strs W v l ∧ LenOf d l.length := by
  obtain ⟨l, hl⟩ := strs_in hv h
  obtain ⟨a0, len0, cap0, rfl⟩ := okWide_slice Try.underlying22 hv
  refine ⟨l, hl, ?_⟩
  have hn := (hl : Strs W _ l)
  obtain ⟨⟨_, A', cap', ev, _, _, _⟩, _⟩ := hn
  injection ev with _ ev2 _
  obtain ⟨fuel, hf⟩ := h
  rcases open_strings Try.underlying22 Try.underlying9 (by kernel_rfl) hf with ⟨hcs, _⟩ | ⟨x, n, c, ss, hcs, _, hle, hm, hz, hy, _, _⟩
  · simp [Value.cells] at hcs
    obtain ⟨_, h2, _⟩ := hcs
    left; omega
  · simp [Value.cells] at hcs
    obtain ⟨_, h2, h3⟩ := hcs
    have hlen : ss.length = c := by simpa using hz
    simp only [Prod.mk.injEq] at hy
    right
    refine ⟨_, _, hy.1, ?_⟩
    simp [strs]
    omega

theorem hkCells_inv : ∀ (ps : List Hk) (vs : List (Value × Value)) (j : Nat) (u : Value), vs.length = ps.length → (hkCells ps vs)[j]? = some u → ∃ (i r : Nat) (p : Hk) (v : Value × Value), ps[i]? = some p ∧ vs[i]? = some v ∧ j = 4 * i + r ∧ [Value.int .i64 p.frm, .int .i64 p.to_, v.1, v.2][r]? = some u
  | [], [], j, u, _, h => by simp [hkCells] at h
  | [], v :: vs, _, _, e, _ => by simp at e
  | h :: hs, [], _, _, e, _ => by simp at e
  | p :: ps, v :: vs, j, u, e, h => by
    have hc : hkCells (p :: ps) (v :: vs) = [Value.int .i64 p.frm, .int .i64 p.to_, v.1, v.2] ++ hkCells ps vs := rfl
    by_cases hj : j < 4
    · refine ⟨0, j, p, v, rfl, rfl, by omega, ?_⟩
      rw [hc, List.getElem?_append_left (by simpa using hj)] at h
      exact h
    · rw [hc, List.getElem?_append_right (by simp; omega)] at h
      obtain ⟨i, r, q, w, h1, h2, h3, h4⟩ := hkCells_inv ps vs _ u (by simpa using e) h
      simp at h3
      exact ⟨i + 1, r, q, w, by simpa using h1, by simpa using h2, by omega, h4⟩

theorem int_trod {H : Type} {enc : TypeId × Value → H} {W : World} {n : Nat} {v : Value} {y : DataW H × List MemPlace} (h : DataW.trod enc Try.prog W 0 (fun _ => true) true n 3 [v] = some y) :
    ∃ x : Int, v = .int .i64 x ∧ -9223372036854775808 ≤ x ∧ x ≤ 9223372036854775807 := by
  obtain ⟨x, e, _, hw⟩ := DataW.trod_int Try.underlying3 h
  simp only [List.cons.injEq, and_true] at e
  simp [Lit.wf, IntKind.min, IntKind.max, IntKind.signed, IntKind.bits] at hw
  exact ⟨x, e, by omega, by omega⟩
set_option maxRecDepth 100000 in
theorem hunk_at {H : Type} {enc : TypeId × Value → H} {W : World} {n : Nat} {cs : List Value} {y : DataW H × List MemPlace} (h : DataW.trod enc Try.prog W 0 (fun _ => true) true n 43 cs = some y) :
    ∃ (p : Hk) (v : Value × Value), cs = [.int .i64 p.frm, .int .i64 p.to_, v.1, v.2] ∧ p.ok ∧ Strs W v.1 p.old ∧ Strs W v.2 p.new := by
  obtain ⟨xs, m, _, rfl, hl, hlen, hf⟩ := DataW.trod_struct Try.underlying43 h
  have hC : Try.prog.cellsOf 43 = 4 := by kernel_rfl
  have k1 : Try.prog.cellsOf 3 = 1 := by kernel_rfl
  have k2 : Try.prog.cellsOf 22 = 1 := by kernel_rfl
  rw [hC] at hl
  match cs, hl, xs, hlen with
  | [c0, c1, c2, c3], _, [y0, y1, y2, y3], _ =>
    have q0 : DataW.trod enc Try.prog W 0 (fun _ => true) true m 3 (([c0, c1, c2, c3].drop 0).take (Try.prog.cellsOf 3)) = some y0 := hf 0 _ rfl
    rw [k1] at q0
    have g0 : DataW.trod enc Try.prog W 0 (fun _ => true) true m 3 [c0] = some y0 := q0
    have q1 : DataW.trod enc Try.prog W 0 (fun _ => true) true m 3 (([c0, c1, c2, c3].drop 1).take (Try.prog.cellsOf 3)) = some y1 := hf 1 _ rfl
    rw [k1] at q1
    have g1 : DataW.trod enc Try.prog W 0 (fun _ => true) true m 3 [c1] = some y1 := q1
    have q2 : DataW.trod enc Try.prog W 0 (fun _ => true) true m 22 (([c0, c1, c2, c3].drop 2).take (Try.prog.cellsOf 22)) = some y2 := hf 2 _ rfl
    rw [k2] at q2
    have g2 : DataW.trod enc Try.prog W 0 (fun _ => true) true m 22 [c2] = some y2 := q2
    have q3 : DataW.trod enc Try.prog W 0 (fun _ => true) true m 22 (([c0, c1, c2, c3].drop 3).take (Try.prog.cellsOf 22)) = some y3 := hf 3 _ rfl
    rw [k2] at q3
    have g3 : DataW.trod enc Try.prog W 0 (fun _ => true) true m 22 [c3] = some y3 := q3
    obtain ⟨x0, e0, f0, w0⟩ := int_trod g0
    obtain ⟨x1, e1, f1, w1⟩ := int_trod g1
    subst e0 e1
    obtain ⟨l2, s2, b2⟩ := strs_trod g2
    obtain ⟨l3, s3, b3⟩ := strs_trod g3
    exact ⟨⟨x0, x1, l2, l3⟩, (c2, c3), rfl, ⟨⟨f0, w0⟩, f1, w1⟩, s2, s3⟩
set_option maxRecDepth 100000 in
theorem hunks_len {H : Type} {enc : TypeId × Value → H} {W : World} {base : Nat} {v : Value} {d : DataW H} {p : List MemPlace} (hv : Value.okWide Try.prog W .any base 33 v)
    (h : DataW.Trod enc Try.prog W 0 (fun _ => true) true 33 v d p) : ∃ ps, Hunks W v ps ∧ LenOf d ps.length := by
  obtain ⟨a0, len0, cap0, rfl⟩ := okWide_slice Try.underlying33 hv
  obtain ⟨fuel, hf⟩ := h
  have hC : Try.prog.cellsOf 43 = 4 := by kernel_rfl
  rcases open_slice Try.underlying33 hf with ⟨hcs, hx⟩ | ⟨x, l, c, m, n, D, Pl, hcs, _, hl, hm, hmm, hx, hel⟩
  · simp [Value.cells] at hcs
    obtain ⟨rfl, rfl, rfl⟩ := hcs
    exact ⟨[], ⟨[], rfl, Rd.nil _ _, by simp, fun i p o n h => by simp at h⟩, .inl rfl⟩
  · simp [Value.cells] at hcs
    obtain ⟨rfl, rfl, rfl⟩ := hcs
    have hmc : m = cap0 := by simpa using hmm
    simp only [Prod.mk.injEq] at hx
    obtain ⟨rfl, _⟩ := hx
    rw [hC] at hel
    have key : ∀ i, i < len0 → ∃ (p : Hk) (u : Value × Value), (∀ r y, [Value.int .i64 p.frm, .int .i64 p.to_, u.1, u.2][r]? = some y → W.cell? ((x.add (i * 4)).add r) = some y) ∧ p.ok ∧ Strs W u.1 p.old ∧ Strs W u.2 p.new := by
      intro i hi
      obtain ⟨cs', hc, ht⟩ := hel i (by omega)
      obtain ⟨_, hcl, hat⟩ := World.cells?_some hc
      obtain ⟨p, u, rfl, hr, hb⟩ := hunk_at ht
      refine ⟨p, u, fun r y hy => ?_, hr, hb⟩
      rw [hat r (by have := (List.getElem?_eq_some_iff.1 hy).1; simpa using this)]
      exact hy
    obtain ⟨ps, vs, e1, e2, hq⟩ := lists_of key
    have vget : ∀ i (h : i < len0), vs[i]? = some (vs[i]'(by omega)) := fun i h => List.getElem?_eq_getElem _
    refine ⟨ps, ⟨vs, by omega, ⟨hkCells_length _ _ (by omega), some x, cap0, by rw [e1], by omega, hm, fun hn => ?_⟩, fun p hp => ?_, fun i p o n hp hu => ⟨(hq i p (o, n) hp hu).2.2.1, (hq i p (o, n) hp hu).2.2.2⟩⟩, .inr ⟨_, _, rfl, by simp [e1]⟩⟩
    · have h0 := (hq 0 ps[0] (vs[0]'(by omega)) (List.getElem?_eq_getElem (by omega)) (List.getElem?_eq_getElem (by omega))).1 0 _ rfl
      have h00 : (x.add (0 * 4)).add 0 = x := by simp [Addr.add]
      rw [h00] at h0
      have hsp := spot_none h0
      refine ⟨x.block, x.off, by obtain ⟨_, _, s⟩ := x; simp only at hsp; subst hsp; rfl, World.block_lt_of_cell? W x h0, fun j u hu => ?_⟩
      obtain ⟨i, r, p, w', hp, hw, rfl, hr⟩ := hkCells_inv ps vs j u (by omega) hu
      have := (hq i p w' hp hw).1 r u hr
      rw [add_form x hsp, add_form _ rfl] at this
      simp only at this
      rw [show x.off + (4 * i + r) = x.off + i * 4 + r by omega]
      exact this
    · obtain ⟨i, hi, rfl⟩ := List.getElem_of_mem hp
      exact (hq i _ _ (List.getElem?_eq_getElem hi) (vget i (by omega))).2.1
end Go.Proofs.Ytfjbdbdjhkmifaa
