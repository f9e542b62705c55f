/- What came in, opened: what is told of groups of lines, and of numbers of lines. -/
import Derived.Test.YtbelbgfigmbobaaGreatDoorOpenT
namespace Go.Proofs.YtbelbgfigmbobaaGreatDoor
open Go.ChangeShapes Go.WideShapes Go.ChangeAt Go.RowKit Go.Pw Go.Deep
open Go.ChangeMaps (open_string shut_string)
set_option linter.unusedVariables false
set_option maxRecDepth 100000 in
theorem uniq_in {H : Type} {enc : TypeId × Value → H} {W : World} {base : Nat} {v : Value} {d : DataW H} {p : List MemPlace} (hv : Value.okWide Tryz.prog W .any base 23 v)
    (h : DataW.Trod enc Tryz.prog W 0 (fun _ => true) true 23 v d p) : ∃ (x0 : Int) (x1 : Int) (x2 : Int) (x3 : Bool) (x4 : Bool) (x5 : Bool) (x6 : Bool), v = .agg #[.int .i64 x0, .int .i64 x1, .int .i64 x2, .bool x3, .bool x4, .bool x5, .bool x6] := by
  obtain ⟨cs, rfl, hsz⟩ := okWide_struct Tryz.underlying23 hv
  have hC : Tryz.prog.cellsOf 23 = 7 := by kernel_rfl
  have ki : Tryz.prog.cellsOf 3 = 1 := by kernel_rfl
  have kb : Tryz.prog.cellsOf 4 = 1 := by kernel_rfl
  obtain ⟨l⟩ := cs
  match l, hsz.trans hC with
  | [c0, c1, c2, c3, c4, c5, c6], _ =>
    obtain ⟨fuel, hf⟩ := h
    obtain ⟨xs, m, _, hx, _, hlen, hg⟩ := DataW.trod_struct Tryz.underlying23 hf
    match xs, hlen with
    | [y0, y1, y2, y3, y4, y5, y6], _ =>
      have q0 : DataW.trod enc Tryz.prog W 0 (fun _ => true) true m 3 (([c0, c1, c2, c3, c4, c5, c6].drop 0).take (Tryz.prog.cellsOf 3)) = some y0 := hg 0 _ rfl
      rw [ki] at q0
      obtain ⟨x0, rfl⟩ := int_of (v := c0) q0
      have q1 : DataW.trod enc Tryz.prog W 0 (fun _ => true) true m 3 (([.int .i64 x0, c1, c2, c3, c4, c5, c6].drop 1).take (Tryz.prog.cellsOf 3)) = some y1 := hg 1 _ rfl
      rw [ki] at q1
      obtain ⟨x1, rfl⟩ := int_of (v := c1) q1
      have q2 : DataW.trod enc Tryz.prog W 0 (fun _ => true) true m 3 (([.int .i64 x0, .int .i64 x1, c2, c3, c4, c5, c6].drop 2).take (Tryz.prog.cellsOf 3)) = some y2 := hg 2 _ rfl
      rw [ki] at q2
      obtain ⟨x2, rfl⟩ := int_of (v := c2) q2
      have q3 : DataW.trod enc Tryz.prog W 0 (fun _ => true) true m 4 (([.int .i64 x0, .int .i64 x1, .int .i64 x2, c3, c4, c5, c6].drop 3).take (Tryz.prog.cellsOf 4)) = some y3 := hg 3 _ rfl
      rw [kb] at q3
      obtain ⟨x3, rfl⟩ := bool_of (v := c3) q3
      have q4 : DataW.trod enc Tryz.prog W 0 (fun _ => true) true m 4 (([.int .i64 x0, .int .i64 x1, .int .i64 x2, .bool x3, c4, c5, c6].drop 4).take (Tryz.prog.cellsOf 4)) = some y4 := hg 4 _ rfl
      rw [kb] at q4
      obtain ⟨x4, rfl⟩ := bool_of (v := c4) q4
      have q5 : DataW.trod enc Tryz.prog W 0 (fun _ => true) true m 4 (([.int .i64 x0, .int .i64 x1, .int .i64 x2, .bool x3, .bool x4, c5, c6].drop 5).take (Tryz.prog.cellsOf 4)) = some y5 := hg 5 _ rfl
      rw [kb] at q5
      obtain ⟨x5, rfl⟩ := bool_of (v := c5) q5
      have q6 : DataW.trod enc Tryz.prog W 0 (fun _ => true) true m 4 (([.int .i64 x0, .int .i64 x1, .int .i64 x2, .bool x3, .bool x4, .bool x5, c6].drop 6).take (Tryz.prog.cellsOf 4)) = some y6 := hg 6 _ rfl
      rw [kb] at q6
      obtain ⟨x6, rfl⟩ := bool_of (v := c6) q6
      exact ⟨x0, x1, x2, x3, x4, x5, x6, rfl⟩
set_option maxRecDepth 100000 in
theorem number_in {H : Type} {enc : TypeId × Value → H} {W : World} {base : Nat} {v : Value} {d : DataW H} {p : List MemPlace} (hv : Value.okWide Tryz.prog W .any base 64 v)
    (h : DataW.Trod enc Tryz.prog W 0 (fun _ => true) true 64 v d p) : ∃ (x0 : Int) (x1 : Int) (x2 : Int) (x3 : Bool) (x4 : Bool) (x5 : ByteArray), v = .agg #[.int .i64 x0, .int .i64 x1, .int .i64 x2, .bool x3, .bool x4, .string x5] ∧ x5.size ≤ maxLen := by
  obtain ⟨cs, rfl, hsz⟩ := okWide_struct Tryz.underlying64 hv
  have hC : Tryz.prog.cellsOf 64 = 6 := by kernel_rfl
  have ki : Tryz.prog.cellsOf 3 = 1 := by kernel_rfl
  have kb : Tryz.prog.cellsOf 4 = 1 := by kernel_rfl
  have ks : Tryz.prog.cellsOf 9 = 1 := by kernel_rfl
  obtain ⟨l⟩ := cs
  match l, hsz.trans hC with
  | [c0, c1, c2, c3, c4, c5], _ =>
    obtain ⟨fuel, hf⟩ := h
    obtain ⟨xs, m, _, hx, _, hlen, hg⟩ := DataW.trod_struct Tryz.underlying64 hf
    match xs, hlen with
    | [y0, y1, y2, y3, y4, y5], _ =>
      have q0 : DataW.trod enc Tryz.prog W 0 (fun _ => true) true m 3 (([c0, c1, c2, c3, c4, c5].drop 0).take (Tryz.prog.cellsOf 3)) = some y0 := hg 0 _ rfl
      rw [ki] at q0
      obtain ⟨x0, rfl⟩ := int_of (v := c0) q0
      have q1 : DataW.trod enc Tryz.prog W 0 (fun _ => true) true m 3 (([.int .i64 x0, c1, c2, c3, c4, c5].drop 1).take (Tryz.prog.cellsOf 3)) = some y1 := hg 1 _ rfl
      rw [ki] at q1
      obtain ⟨x1, rfl⟩ := int_of (v := c1) q1
      have q2 : DataW.trod enc Tryz.prog W 0 (fun _ => true) true m 3 (([.int .i64 x0, .int .i64 x1, c2, c3, c4, c5].drop 2).take (Tryz.prog.cellsOf 3)) = some y2 := hg 2 _ rfl
      rw [ki] at q2
      obtain ⟨x2, rfl⟩ := int_of (v := c2) q2
      have q3 : DataW.trod enc Tryz.prog W 0 (fun _ => true) true m 4 (([.int .i64 x0, .int .i64 x1, .int .i64 x2, c3, c4, c5].drop 3).take (Tryz.prog.cellsOf 4)) = some y3 := hg 3 _ rfl
      rw [kb] at q3
      obtain ⟨x3, rfl⟩ := bool_of (v := c3) q3
      have q4 : DataW.trod enc Tryz.prog W 0 (fun _ => true) true m 4 (([.int .i64 x0, .int .i64 x1, .int .i64 x2, .bool x3, c4, c5].drop 4).take (Tryz.prog.cellsOf 4)) = some y4 := hg 4 _ rfl
      rw [kb] at q4
      obtain ⟨x4, rfl⟩ := bool_of (v := c4) q4
      have q5 : DataW.trod enc Tryz.prog W 0 (fun _ => true) true m 9 (([.int .i64 x0, .int .i64 x1, .int .i64 x2, .bool x3, .bool x4, c5].drop 5).take (Tryz.prog.cellsOf 9)) = some y5 := hg 5 _ rfl
      rw [ks] at q5
      obtain ⟨x5, rfl, s5⟩ := string_of (v := c5) q5
      exact ⟨x0, x1, x2, x3, x4, x5, rfl, s5⟩
end Go.Proofs.YtbelbgfigmbobaaGreatDoor
