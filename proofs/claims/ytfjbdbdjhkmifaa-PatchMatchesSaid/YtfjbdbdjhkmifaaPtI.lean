/- An own row, written over: its full length, copy and clear. -/
import Derived.Test.YtfjbdbdjhkmifaaPtO
import Derived.Test.YtfjbdbdjhkmifaaAppend
import Derived.Lib.AppendZerosOnto
import Derived.Lib.SliceRun
import Derived.Shelf.Spec.SlicesInsert
set_option linter.unusedVariables false
set_option linter.unusedSimpArgs false
namespace Go.Proofs.Ytfjbdbdjhkmifaa
open Go.RowKit Go.Pw
/-- an own row, with all that its block holds -/
theorem own_full {w : World} {base e n cap g : Nat} {xs : List Value} (h : w.ownsRow base e 1 (.slice (some ⟨g, 0, none⟩) n cap) n xs) : ∃ F : List Value, F.length = cap ∧ F.take n = xs ∧ n ≤ cap ∧ cap ≤ maxLen ∧ w.ownsRow base e 1 (.slice (some ⟨g, 0, none⟩) cap cap) cap F := by
  obtain ⟨hl, h0 | ⟨g', c', cur, hv, hg, hh, hc, hm, hs, ht⟩⟩ := h
  · obtain ⟨h0, _⟩ := h0; cases h0
  · injection hv with e1 e2 e3
    injection e1 with e1
    injection e1 with e1
    subst e1 e3
    refine ⟨cur.toList, by simpa using hs, by simpa using ht, hc, hm, by simpa using hs, .inr ⟨g, cap, cur, rfl, hg, hh, Nat.le_refl _, hm, hs, ?_⟩⟩
    rw [List.take_of_length_le (by simp [hs])]
theorem grown_setCells (w : World) (g o : Nat) (vs : List Value) : w.grownBy (w.setCells g o vs) (some g) := by
  have hz : (w.setCells g o vs).heap.size = w.heap.size := by
    have : ∀ (vs : List Value) (o : Nat) (w : World), (w.setCells g o vs).heap.size = w.heap.size := by
      intro vs
      induction vs with
      | nil => intro o w; rfl
      | cons v r ih => intro o w; rw [World.setCells, ih]; simp [World.setCell]
    exact this vs o w
  have hb : Below 0 w (w.setCells g o vs) := by
    have : ∀ (vs : List Value) (o : Nat) (w : World), Below 0 w (w.setCells g o vs) := by
      intro vs
      induction vs with
      | nil => intro o w; exact Below.refl _ _
      | cons v r ih => intro o w; exact ((Below.refl 0 w).setCell (p := ⟨g, o, none⟩) (Nat.zero_le _) v).trans (ih _ _)
    exact this vs o w
  exact ⟨hb.os, hb.tape, hb.output, by omega, fun k hk hne => World.heap_setCells_other w g o vs hk (fun e => hne (by rw [e]))⟩
theorem own_there {w : World} {base e cap g : Nat} {F : List Value} (h : w.ownsRow base e 1 (.slice (some ⟨g, 0, none⟩) cap cap) cap F) : (∀ j, j < cap → (w.cell? ⟨g, j, none⟩).isSome = true) ∧ (∀ j u, F[j]? = some u → w.cell? ⟨g, j, none⟩ = some u) ∧ ∀ j, w.frozen? ⟨g, j, none⟩ = false := by
  have hl := h.1
  obtain ⟨_, h0 | ⟨g', c', cur, hv, hg, hh, hc, hm, hs, ht⟩⟩ := h
  · obtain ⟨h0, _⟩ := h0; cases h0
  · injection hv with e1 e2 e3
    injection e1 with e1
    injection e1 with e1
    subst e1 e3
    have hc : ∀ j u, F[j]? = some u → w.cell? ⟨g, j, none⟩ = some u := fun j u hu => by
      simp only [World.cell?, hh]
      rw [← ht, List.getElem?_take] at hu
      split at hu
      · simpa using hu
      · cases hu
    exact ⟨fun j hj => by rw [hc j F[j] (List.getElem?_eq_getElem (by omega))]; rfl, hc, fun j => by simp [World.frozen?, hh]⟩
theorem size_string : (Try.prog.info? 9).map (·.size) = some 1 := by kernel_rfl
/-- copy into an own row -/
theorem copyO_run {w : World} {base cap g : Nat} {F : List Value} (h : w.ownsRow base 9 1 (.slice (some ⟨g, 0, none⟩) cap cap) cap F) (ty : TypeId) (o dLen dCap sb so sLen sCap : Nat) (cs : List Value) (hn : cs.length = Nat.min sLen dLen) (ho : o + cs.length ≤ cap)
    (hsrc : ∀ j v, cs[j]? = some v → w.cell? ⟨sb, so + j, none⟩ = some v) (h1 : ∀ v ∈ cs, v.oneCell' = true) :
    (Builtin.copy_ #[22, 22] ty #[.slice (some ⟨g, o, none⟩) dLen dCap, .slice (some ⟨sb, so, none⟩) sLen sCap]).run Try.prog w = .ok (goInt cs.length) (w.setCells g o cs) ∧
      (w.setCells g o cs).ownsRow base 9 1 (.slice (some ⟨g, 0, none⟩) cap cap) cap (setAll F o cs) ∧ w.grownBy (w.setCells g o cs) (some g) := by
  obtain ⟨h1', h2, h3⟩ := own_there h
  exact ⟨run_copy_cells w _ _ ty 9 g o dLen dCap ⟨sb, so, none⟩ sLen sCap cs Try.underlying22 size_string hn (fun j v hj => by rw [Addr.add_lit]; exact hsrc j v hj) (fun j hj => h1' _ (by omega)) (fun j hj => h3 _) h1,
    (own_setCells cs F o w h).1, grown_setCells w g o cs⟩
/-- copy from nil: nothing -/
theorem copyNil_run (w : World) (ty : TypeId) (a : Addr) (dLen dCap sCap : Nat) :
    (Builtin.copy_ #[22, 22] ty #[.slice (some a) dLen dCap, .slice none 0 sCap]).run Try.prog w = .ok (goInt 0) w := by
  have := Try.underlying22
  simp [Builtin.copy_, run_underlying this, Go.sizeOf, goInt, Builtin.lenOf, Builtin.firstCells, storeCells, Result.andThen, go_sem]
set_option maxRecDepth 100000 in
/-- copy of strings, from wherever, into an own row -/
theorem copyS_run {w : World} {base cap g : Nat} {F : List Value} (h : w.ownsRow base 9 1 (.slice (some ⟨g, 0, none⟩) cap cap) cap F) (ty : TypeId) (o dLen dCap : Nat) (A : Option Addr) (c : Nat) (vs : List ByteArray) (hv : Strs w (.slice A vs.length c) vs) (hn : vs.length ≤ dLen) (ho : o + vs.length ≤ cap) :
    (Builtin.copy_ #[22, 22] ty #[.slice (some ⟨g, o, none⟩) dLen dCap, .slice A vs.length c]).run Try.prog w = .ok (goInt vs.length) (w.setCells g o (vs.map Value.string)) ∧
      (w.setCells g o (vs.map Value.string)).ownsRow base 9 1 (.slice (some ⟨g, 0, none⟩) cap cap) cap (setAll F o (vs.map Value.string)) ∧ w.grownBy (w.setCells g o (vs.map Value.string)) (some g) := by
  obtain ⟨h1', h2, h3⟩ := own_there h
  obtain ⟨⟨_, A', c', e, _, _, hx⟩, _⟩ := hv
  injection e with e1 _ e3
  subst e1 e3
  refine ⟨?_, (own_setCells _ F o w h).1, grown_setCells w g o _⟩
  cases A with
  | none =>
    have h0 : vs = [] := by
      by_cases h0 : 0 < vs.length
      · obtain ⟨b, o, e, _⟩ := hx h0
        cases e
      · exact List.eq_nil_of_length_eq_zero (by omega)
    subst h0
    exact copyNil_run w ty _ dLen dCap c
  | some ad =>
    have hs : ∀ j v, (vs.map Value.string)[j]? = some v → w.cell? (ad.add j) = some v := fun j v hj => by
      have h0 : 0 < vs.length := by have := (List.getElem?_eq_some_iff.1 hj).1; simp at this; omega
      obtain ⟨b, o', e, hb, hj'⟩ := hx h0
      injection e with e
      subst e
      rw [Addr.add_lit]
      exact hj' j v hj
    have := run_copy_cells w _ 22 ty 9 g o dLen dCap ad vs.length c (vs.map Value.string) Try.underlying22 size_string (by rw [List.length_map]; exact (Nat.min_eq_left hn).symm) hs (fun j hj => h1' _ (by rw [List.length_map] at hj; omega)) (fun j hj => h3 _) (fun v hv => by obtain ⟨x, _, rfl⟩ := List.mem_map.1 hv; rfl)
    rwa [List.length_map] at this
/-- clear of a part of an own row -/
theorem clearO_run {w : World} {base cap g : Nat} {F : List Value} (h : w.ownsRow base 9 1 (.slice (some ⟨g, 0, none⟩) cap cap) cap F) (ty : TypeId) (o n c : Nat) (hn : 0 < n) (ho : o + n ≤ cap) :
    (Builtin.clear_ #[22] ty #[.slice (some ⟨g, o, none⟩) n c]).run Try.prog w = .ok (.tuple #[]) (w.setCells g o (List.replicate n (.string ⟨#[]⟩))) ∧
      (w.setCells g o (List.replicate n (.string ⟨#[]⟩))).ownsRow base 9 1 (.slice (some ⟨g, 0, none⟩) cap cap) cap (setAll F o (List.replicate n (.string ⟨#[]⟩))) ∧ w.grownBy (w.setCells g o (List.replicate n (.string ⟨#[]⟩))) (some g) := by
  obtain ⟨h1, h2, h3⟩ := own_there h
  exact ⟨Lib.run_clear_slice w 22 9 ty (.string ⟨#[]⟩) Try.underlying22 Try.zeroValue9 rfl rfl g o n c hn (fun j hj => h1 _ (by omega)) (fun j hj => h3 _),
    (own_setCells _ F o w h).1, grown_setCells w g o _⟩
end Go.Proofs.Ytfjbdbdjhkmifaa
