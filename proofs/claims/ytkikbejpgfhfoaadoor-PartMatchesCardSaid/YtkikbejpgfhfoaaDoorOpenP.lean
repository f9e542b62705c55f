/- What came in, opened: which part of a text. -/
import Derived.Test.YtkikbejpgfhfoaaDoorOpenT
namespace Go.Proofs.YtkikbejpgfhfoaaDoor
open Go.ChangeShapes Go.WideShapes Go.ChangeAt Go.RowKit Go.Pw Go.Deep
open Go.ChangeMaps (open_string shut_string)
set_option linter.unusedVariables false
set_option maxRecDepth 100000 in
theorem part_in {H : Type} {enc : TypeId × Value → H} {W : World} {base : Nat} {v : Value} {d : DataW H} {p : List MemPlace} (hv : Value.okWide Tryd.prog W .any base 71 v)
    (h : DataW.Trod enc Tryd.prog W 0 (fun _ => true) true 71 v d p) : ∃ (k : Int) (b : Bool) (n : Int), v = .agg #[.int .i64 k, .bool b, .int .i64 n] := by
  obtain ⟨cs, rfl, hsz⟩ := okWide_struct Tryd.underlying71 hv
  have hC : Tryd.prog.cellsOf 71 = 3 := by kernel_rfl
  have k0 : Tryd.prog.cellsOf 3 = 1 := by kernel_rfl
  have k1 : Tryd.prog.cellsOf 4 = 1 := by kernel_rfl
  obtain ⟨l⟩ := cs
  match l, hsz.trans hC with
  | [c0, c1, c2], _ =>
    obtain ⟨fuel, hf⟩ := h
    obtain ⟨xs, m, _, hx, _, hlen, hg⟩ := DataW.trod_struct Tryd.underlying71 hf
    match xs, hlen with
    | [y0, y1, y2], _ =>
      have q0 : DataW.trod enc Tryd.prog W 0 (fun _ => true) true m 3 (([c0, c1, c2].drop 0).take (Tryd.prog.cellsOf 3)) = some y0 := hg 0 _ rfl
      rw [k0] at q0
      obtain ⟨x0, rfl⟩ := int_of (v := c0) q0
      have q1 : DataW.trod enc Tryd.prog W 0 (fun _ => true) true m 4 (([.int .i64 x0, c1, c2].drop 1).take (Tryd.prog.cellsOf 4)) = some y1 := hg 1 _ rfl
      rw [k1] at q1
      obtain ⟨x1, rfl⟩ := bool_of (v := c1) q1
      have q2 : DataW.trod enc Tryd.prog W 0 (fun _ => true) true m 3 (([.int .i64 x0, .bool x1, c2].drop 2).take (Tryd.prog.cellsOf 3)) = some y2 := hg 2 _ rfl
      rw [k0] at q2
      obtain ⟨x2, rfl⟩ := int_of (v := c2) q2
      exact ⟨x0, x1, x2, rfl⟩
end Go.Proofs.YtkikbejpgfhfoaaDoor
