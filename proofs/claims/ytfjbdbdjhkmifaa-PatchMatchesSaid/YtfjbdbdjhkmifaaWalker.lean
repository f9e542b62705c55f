import Derived.Test.YtfjbdbdjhkmifaaLists
import Derived.Test.YtfjbdbdjhkmifaaHunk
import Derived.Test.YtfjbdbdjhkmifaaDiffC
import Derived.Test.YtfjbdbdjhkmifaaBuilder
import Derived.Deep.QuietTactic
import Derived.BigQuiet
set_option linter.unusedSimpArgs false
set_option linter.unusedVariables false
namespace Go.Proofs.Ytfjbdbdjhkmifaa
open Go.RowKit Go.Pw

/-- what the checks of hunks keep: the end of the last one, and how much longer the list has become -/
structure WS where
  fin : Int
  del : Int
def WS.next (s : WS) (h : Hk) : WS := ⟨h.frm + h.old.length, s.del + ((h.new.length : Int) - (h.old.length : Int))⟩
/-- what can be seen of a hunk alone, and its order -/
def formErr (h : Hk) (fin : Int) : Int :=
  if listsErr [h.old, h.new] ≠ 0 then listsErr [h.old, h.new] else if h.old.length + h.new.length = 0 then 23 else if h.frm < fin then 9 else 0

/-- the walker of hunks in memory -/
def WalkAt (w : World) (wb : Nat) (f t : Int) (vo vn : Value) (any : Bool) (d : Int) : Prop :=
  w.heap[wb]? = some (.cells #[.int .i64 f, .int .i64 t, vo, vn, .bool any, .int .i64 d] 125 (0, 0))
theorem WalkAt.lt {w : World} {wb : Nat} {f t d : Int} {vo vn : Value} {any : Bool} (h : WalkAt w wb f t vo vn any d) : wb < w.heap.size := by
  rcases Nat.lt_or_ge wb w.heap.size with h' | h'
  · exact h'
  · simp [WalkAt, Array.getElem?_eq_none h'] at h
theorem WalkAt.below {w w' : World} {wb : Nat} {f t d : Int} {vo vn : Value} {any : Bool} (h : WalkAt w wb f t vo vn any d) (hb : Below w.heap.size w w') : WalkAt w' wb f t vo vn any d := (hb.block wb h.lt).trans h

/-- what the walker's last hunk says of the end -/
def EndIs (fin f : Int) (n : Nat) (any : Bool) : Prop := if any then fin = f + n ∧ 0 ≤ f else fin = 0

set_option maxHeartbeats 2000000 in
set_option maxRecDepth 100000 in
theorem ordered_any (w : World) (wb : Nat) (f t d fin : Int) (A : Option Addr) (n c : Nat) (vn : Value) (any : Bool) (x y : Int) (vo' vn' : Value) (hw : WalkAt w wb f t (.slice A n c) vn any d) (he : EndIs fin f n any)
    (hf : f ≤ 9223372036854775807) (hn : n ≤ 9223372036854775807) (hx : inI64 x) :
    Calls Try.prog 86 #[.pointer (some ⟨wb, 0, none⟩), .agg #[.int .i64 x, .int .i64 y, vo', vn']] w fun e w' => e = .returned (.bool (decide (fin ≤ x))) ∧ Below w.heap.size w w' := by
  have hlt := hw.lt
  have c0 : w.cell? ⟨wb, 0, none⟩ = some (.int .i64 f) := by rw [Lib.cell_of_heap hw]; rfl
  have c2 : w.cell? ⟨wb, 2, none⟩ = some (.slice A n c) := by rw [Lib.cell_of_heap hw]; rfl
  have c4 : w.cell? ⟨wb, 4, none⟩ = some (.bool any) := by rw [Lib.cell_of_heap hw]; rfl
  obtain ⟨hx1, hx2⟩ := hx
  have HE := hide he
  clear he hw
  have hbb : Below w.heap.size w (w.alloc (.cells #[.int .i64 x, .int .i64 y, vo', vn'] 43)) := (Below.refl _ _).alloc (Nat.le_refl _) _
  by_cases h0 : x < 0
  · have hr : decide (fin ≤ x) = false := by
      have := HE.out
      unfold EndIs at this
      cases any <;> simp at this ⊢ <;> omega
    have HR := hide hr
    clear hr
    go_enter Try.func86, Try.ntmps86
    go_wp2_with fail
    go_ret
    exact ⟨by rw [HR.out]; rfl, hbb⟩
  · have h0' : decide (x < 0) = false := by simpa using h0
    cases any
    · have hr : decide (fin ≤ x) = true := by
        have := HE.out
        simp [EndIs] at this ⊢; omega
      have HR := hide hr
      clear hr
      go_enter Try.func86, Try.ntmps86
      go_wp2_with fail
      go_quiet (fail)
      go_wp2_with fail
      go_ret
      exact ⟨by rw [HR.out]; rfl, below_drewN hbb _⟩
    · obtain ⟨e1, e2⟩ : fin = f + n ∧ 0 ≤ f := by have := HE.out; simpa [EndIs] using this
      by_cases h1 : f ≤ x
      · have h1' : decide (f ≤ x) = true := by simpa using h1
        have hsub : IntKind.i64.wrap (x - f) = x - f := IntWalk.i64_in _ (by omega)
        by_cases h2 : (n : Int) ≤ x - f
        · have h2' : decide ((n : Int) ≤ x - f) = true := by simpa using h2
          have HR := hide (show decide (fin ≤ x) = true by simp; omega)
          clear e1
          go_enter Try.func86, Try.ntmps86
          go_wp2_with fail
          go_quiet (fail)
          go_wp2_with fail
          go_ret
          exact ⟨by rw [HR.out]; rfl, below_drewN hbb _⟩
        · have h2' : decide ((n : Int) ≤ x - f) = false := by simpa using h2
          have HR := hide (show decide (fin ≤ x) = false by simp; omega)
          clear e1
          go_enter Try.func86, Try.ntmps86
          go_wp2_with fail
          go_quiet (fail)
          go_wp2_with fail
          go_ret
          exact ⟨by rw [HR.out]; rfl, below_drewN hbb _⟩
      · have h1' : decide (f ≤ x) = false := by simpa using h1
        have HR := hide (show decide (fin ≤ x) = false by simp; omega)
        clear e1
        go_enter Try.func86, Try.ntmps86
        go_wp2_with fail
        go_quiet (fail)
        go_wp2_with fail
        go_ret
        exact ⟨by rw [HR.out]; rfl, below_drewN hbb _⟩
end Go.Proofs.Ytfjbdbdjhkmifaa
