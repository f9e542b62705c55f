/- What came in, opened: what is cut out of lines. -/
import Derived.Test.YtkikbejpgfhfoaaGreatDoorOpenT
import Derived.Test.YtkikbejpgfhfoaaGreatDoorCutW
namespace Go.Proofs.YtkikbejpgfhfoaaGreatDoor
open Go.ChangeShapes Go.WideShapes Go.ChangeAt Go.RowKit Go.Pw Go.Deep
open Go.ChangeMaps (open_string shut_string)
set_option linter.unusedVariables false
theorem rngCells_inv : ∀ (l : List (Int × Int)) (j : Nat) (u : Value), (rngCells l)[j]? = some u → ∃ (i r : Nat) (k : Int × Int), l[i]? = some k ∧ j = 2 * i + r ∧ [Value.int .i64 k.1, Value.int .i64 k.2][r]? = some u
  | [], j, u, h => by simp [rngCells] at h
  | k :: l, 0, u, h => ⟨0, 0, k, rfl, by omega, by rw [rngCells] at h; exact h⟩
  | k :: l, 1, u, h => ⟨0, 1, k, rfl, by omega, by rw [rngCells] at h; exact h⟩
  | k :: l, j + 2, u, h => by
    rw [rngCells] at h
    obtain ⟨i, r, q, h1, h2, h3⟩ := rngCells_inv l j u (by simpa using h)
    exact ⟨i + 1, r, q, by simpa using h1, by omega, h3⟩
set_option maxRecDepth 100000 in
theorem pair_at {H : Type} {enc : TypeId × Value → H} {W : World} {n : Nat} {cs : List Value} {y : DataW H × List MemPlace} (h : DataW.trod enc Tryz.prog W 0 (fun _ => true) true n 69 cs = some y) :
    ∃ k : Int × Int, cs = [.int .i64 k.1, .int .i64 k.2] := by
  obtain ⟨xs, m, _, rfl, hl, hlen, hf⟩ := DataW.trod_array Tryz.underlying69 h
  have hC : Tryz.prog.cellsOf 69 = 2 := by kernel_rfl
  have k1 : Tryz.prog.cellsOf 3 = 1 := by kernel_rfl
  rw [hC] at hl
  match cs, hl, xs, hlen with
  | [c0, c1], _, [y0, y1], _ =>
    have hi : ∀ (j : Nat) (c : Value) (z : DataW H × List MemPlace), ([c0, c1].drop (j * 1)).take 1 = [c] → DataW.trod enc Tryz.prog W 0 (fun _ => true) true m 3 (([c0, c1].drop (j * Tryz.prog.cellsOf 3)).take (Tryz.prog.cellsOf 3)) = some z → ∃ x : Int, c = .int .i64 x := fun j c z e h => by
      rw [k1, e] at h; exact int_of h
    obtain ⟨x0, rfl⟩ := hi 0 c0 y0 rfl (hf 0 (by decide))
    obtain ⟨x1, rfl⟩ := hi 1 c1 y1 rfl (hf 1 (by decide))
    exact ⟨⟨x0, x1⟩, rfl⟩
set_option maxRecDepth 100000 in
theorem ranges_of {H : Type} {enc : TypeId × Value → H} {W : World} {fuel : Nat} {v : Value} {y : DataW H × List MemPlace} (hf : DataW.trod enc Tryz.prog W 0 (fun _ => true) true fuel 41 [v] = some y) :
    ∃ rs, RngIn W v rs := by
  have hC : Tryz.prog.cellsOf 69 = 2 := by kernel_rfl
  rcases open_slice Tryz.underlying41 hf with ⟨hcs, hx⟩ | ⟨x, l, c, m, n, D, Pl, hcs, _, hl, hm, hmm, hx, hel⟩
  · simp at hcs
    subst hcs
    exact ⟨[], Rd.nil _ _⟩
  · simp at hcs
    subst hcs
    have hmc : m = c := by simpa using hmm
    rw [hC] at hel
    have key : ∀ i, i < l → ∃ (k : Int × Int), (∀ r y, [Value.int .i64 k.1, Value.int .i64 k.2][r]? = some y → W.cell? ((x.add (i * 2)).add r) = some y) := by
      intro i hi
      obtain ⟨cs', hc, ht⟩ := hel i (by omega)
      obtain ⟨_, hcl, hat⟩ := World.cells?_some hc
      obtain ⟨k, rfl⟩ := pair_at ht
      refine ⟨k, fun r y hy => ?_⟩
      rw [hat r (by have := (List.getElem?_eq_some_iff.1 hy).1; simpa using this)]
      exact hy
    obtain ⟨ks, e1, hq⟩ := list_of key
    refine ⟨ks, rngCells_len _, some x, c, by rw [e1], by omega, hm, fun hn => ?_⟩
    have h0 := hq 0 ks[0] (List.getElem?_eq_getElem (by omega)) 0 _ rfl
    have h00 : (x.add (0 * 2)).add 0 = x := by simp [Addr.add]
    rw [h00] at h0
    have hsp := spot_none h0
    refine ⟨x.block, x.off, by obtain ⟨_, _, s⟩ := x; simp only at hsp; subst hsp; rfl, World.block_lt_of_cell? W x h0, fun j u hu => ?_⟩
    obtain ⟨i, r, k, hp, rfl, hr⟩ := rngCells_inv ks j u hu
    have := hq i k hp r u hr
    rw [addr_add x hsp, addr_add _ rfl] at this
    simp only at this
    rw [show x.off + (2 * i + r) = x.off + i * 2 + r by omega]
    exact this
set_option maxRecDepth 100000 in
/-- what is cut out of lines, that came in -/
theorem cut_in {H : Type} {enc : TypeId × Value → H} {W : World} {base : Nat} {v : Value} {d : DataW H} {p : List MemPlace} (hv : Value.okWide Tryz.prog W .any base 43 v)
    (h : DataW.Trod enc Tryz.prog W 0 (fun _ => true) true 43 v d p) : ∃ (o : Ct) (kv : Value), v = ctV o kv ∧ RngIn W kv o.ranges ∧ o.betw.size ≤ maxLen := by
  obtain ⟨cs, rfl, hsz⟩ := okWide_struct Tryz.underlying43 hv
  have hC : Tryz.prog.cellsOf 43 = 6 := by kernel_rfl
  have k0 : Tryz.prog.cellsOf 9 = 1 := by kernel_rfl
  have k1 : Tryz.prog.cellsOf 41 = 1 := by kernel_rfl
  have k2 : Tryz.prog.cellsOf 4 = 1 := by kernel_rfl
  obtain ⟨l⟩ := cs
  match l, hsz.trans hC with
  | [c0, c1, c2, c3, c4, c5], _ =>
    obtain ⟨fuel, hf⟩ := h
    obtain ⟨xs, m, _, hx, _, hlen, hg⟩ := DataW.trod_struct Tryz.underlying43 hf
    match xs, hlen with
    | [y0, y1, y2, y3, y4, y5], _ =>
      have hb : ∀ (j : Nat) (c : Value) (z : DataW H × List MemPlace), ([c0, c1, c2, c3, c4, c5].drop j).take 1 = [c] → DataW.trod enc Tryz.prog W 0 (fun _ => true) true m 4 (([c0, c1, c2, c3, c4, c5].drop j).take (Tryz.prog.cellsOf 4)) = some z → ∃ x : Bool, c = .bool x := fun j c z e h => by
        rw [k2, e] at h; exact bool_of h
      obtain ⟨x0, rfl⟩ := hb 0 c0 y0 rfl (hg 0 _ rfl)
      obtain ⟨x2, rfl⟩ := hb 2 c2 y2 rfl (hg 2 _ rfl)
      obtain ⟨x4, rfl⟩ := hb 4 c4 y4 rfl (hg 4 _ rfl)
      have q1 : DataW.trod enc Tryz.prog W 0 (fun _ => true) true m 41 (([.bool x0, c1, .bool x2, c3, .bool x4, c5].drop 1).take (Tryz.prog.cellsOf 41)) = some y1 := hg 1 _ rfl
      rw [k1] at q1
      obtain ⟨rs, hrs⟩ := ranges_of (v := c1) q1
      have q3 : DataW.trod enc Tryz.prog W 0 (fun _ => true) true m 9 (([.bool x0, c1, .bool x2, c3, .bool x4, c5].drop 3).take (Tryz.prog.cellsOf 9)) = some y3 := hg 3 _ rfl
      rw [k0] at q3
      obtain ⟨s3, rfl, _⟩ := string_of (v := c3) q3
      have q5 : DataW.trod enc Tryz.prog W 0 (fun _ => true) true m 9 (([.bool x0, c1, .bool x2, .string s3, .bool x4, c5].drop 5).take (Tryz.prog.cellsOf 9)) = some y5 := hg 5 _ rfl
      rw [k0] at q5
      obtain ⟨s5, rfl, h5⟩ := string_of (v := c5) q5
      exact ⟨⟨x0, rs, x2, s3, x4, s5⟩, c1, rfl, hrs, h5⟩
end Go.Proofs.YtkikbejpgfhfoaaGreatDoor
