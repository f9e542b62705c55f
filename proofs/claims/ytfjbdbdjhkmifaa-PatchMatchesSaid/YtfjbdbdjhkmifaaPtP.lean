/- Plain: hunks are put where they fit. -/
import Derived.Test.YtfjbdbdjhkmifaaDmF
import Derived.Test.YtfjbdbdjhkmifaaHunkErr
set_option linter.unusedVariables false
set_option linter.unusedSimpArgs false
namespace Go.Pw
/-- lines lie at a place of a list -/
def Fits (l o : List ByteArray) (k : Nat) : Prop := k + o.length ≤ l.length ∧ (l.drop k).take o.length = o
instance (l o : List ByteArray) (k : Nat) : Decidable (Fits l o k) := by unfold Fits; infer_instance
def far (line : Int) (k : Nat) : Int := max ((k : Int) - line) (line - (k : Int))
/-- the best of the places from lo to hi: the nearest, of two the one further behind -/
def Near (l o : List ByteArray) (line : Int) (lo hi : Nat) : Option Nat → Prop
  | none => ∀ k, lo ≤ k → k < hi → ¬ Fits l o k
  | some b => lo ≤ b ∧ b < hi ∧ Fits l o b ∧ ∀ k, lo ≤ k → k < hi → Fits l o k → far line b < far line k ∨ far line b = far line k ∧ k ≤ b
section
variable {l o : List ByteArray} {line : Int} {lo hi : Nat}
theorem near_unique {p q : Option Nat} (hp : Near l o line lo hi p) (hq : Near l o line lo hi q) : p = q := by
  cases p with
  | none => cases q with
    | none => rfl
    | some b => exact absurd hq.2.2.1 (hp b hq.1 hq.2.1)
  | some a => cases q with
    | none => exact absurd hp.2.2.1 (hq a hp.1 hp.2.1)
    | some b =>
      have h1 := hp.2.2.2 b hq.1 hq.2.1 hq.2.2.1
      have h2 := hq.2.2.2 a hp.1 hp.2.1 hp.2.2.1
      congr 1; omega
/-- is a place as good as the best one so far -/
def Closer (line : Int) (k : Nat) : Option Nat → Prop
  | none => True
  | some b => far line k ≤ far line b
instance (line : Int) (k : Nat) (p : Option Nat) : Decidable (Closer line k p) := by cases p <;> unfold Closer <;> infer_instance
theorem near_none (h : hi ≤ lo) : Near l o line lo hi none := fun k h1 h2 => by omega
theorem near_take {p : Option Nat} (hp : Near l o line lo hi p) (hlo : lo ≤ hi) (hc : Closer line hi p) (hf : Fits l o hi) : Near l o line lo (hi + 1) (some hi) := by
  refine ⟨hlo, by omega, hf, fun k h1 h2 h3 => ?_⟩
  by_cases e : k = hi
  · subst e; exact .inr ⟨rfl, Nat.le_refl _⟩
  · have hk : k < hi := by omega
    cases p with
    | none => exact absurd h3 (hp k h1 hk)
    | some b =>
      have h4 := hp.2.2.2 k h1 hk h3
      have hc' : far line hi ≤ far line b := hc
      rcases h4 with h4 | h4
      · exact .inl (by omega)
      · by_cases e2 : far line hi = far line k
        · exact .inr ⟨e2, by omega⟩
        · exact .inl (by omega)
theorem near_keep {p : Option Nat} (hp : Near l o line lo hi p) (h : ¬ (Closer line hi p ∧ Fits l o hi)) : Near l o line lo (hi + 1) p := by
  cases p with
  | none =>
    intro k h1 h2 h3
    by_cases e : k = hi
    · subst e; exact h ⟨trivial, h3⟩
    · exact hp k h1 (by omega) h3
  | some b =>
    refine ⟨hp.1, by have := hp.2.1; omega, hp.2.2.1, fun k h1 h2 h3 => ?_⟩
    by_cases e : k = hi
    · subst e
      left
      by_cases hc : far line k ≤ far line b
      · exact absurd ⟨hc, h3⟩ h
      · omega
    · exact hp.2.2.2 k h1 (by omega) h3
theorem near_more {p : Option Nat} {hi' : Nat} (hp : Near l o line lo hi p) (h : l.length < hi + o.length) (hh : hi ≤ hi') : Near l o line lo hi' p := by
  cases p with
  | none =>
    intro k h1 h2 h3
    by_cases e : k < hi
    · exact hp k h1 e h3
    · have := h3.1; omega
  | some b =>
    refine ⟨hp.1, by have := hp.2.1; omega, hp.2.2.1, fun k h1 h2 h3 => ?_⟩
    by_cases e : k < hi
    · exact hp.2.2.2 k h1 e h3
    · have := h3.1; omega
end
/-- the best place -/
def plcTo (l o : List ByteArray) (line : Int) (lo : Nat) : Nat → Option Nat
  | 0 => none
  | n + 1 => if Closer line (lo + n) (plcTo l o line lo n) ∧ Fits l o (lo + n) then some (lo + n) else plcTo l o line lo n
theorem plcTo_near (l o : List ByteArray) (line : Int) (lo : Nat) : ∀ n, Near l o line lo (lo + n) (plcTo l o line lo n)
  | 0 => near_none (by omega)
  | n + 1 => by
    rw [plcTo, ← Nat.add_assoc]
    split
    · rename_i h; exact near_take (plcTo_near l o line lo n) (by omega) h.1 h.2
    · rename_i h; exact near_keep (plcTo_near l o line lo n) h
def plc (l o : List ByteArray) (line : Int) (lo : Nat) : Option Nat := plcTo l o line lo (l.length + 1)
theorem plc_of {l o : List ByteArray} {line : Int} {lo hi : Nat} {p : Option Nat} (h : Near l o line lo hi p) (hh : l.length < hi + o.length) : plc l o line lo = p := by
  have h1 : Near l o line lo (max hi (lo + (l.length + 1))) p := near_more h hh (by omega)
  have h2 : Near l o line lo (max hi (lo + (l.length + 1))) (plc l o line lo) := near_more (plcTo_near l o line lo _) (by omega) (by omega)
  exact near_unique h2 h1
theorem plc_near {l o : List ByteArray} {line : Int} {lo : Nat} {b : Nat} (h : plc l o line lo = some b) : lo ≤ b ∧ Fits l o b := by
  have := plcTo_near l o line lo (l.length + 1)
  rw [show plcTo l o line lo (l.length + 1) = some b from h] at this
  exact ⟨this.1, this.2.2.1⟩

/-- what a patcher keeps -/
structure Pt where
  lst : List ByteArray
  del : Int
  off : Int
  fin : Nat
/-- a hunk with a fuzz: how many lines are left away at its two ends -/
def fzH (h : Hk) (f : Nat) : Nat := min (pre h.old h.new) f
def fzF (h : Hk) (f : Nat) : Nat := min (pre (h.old.drop (pre h.old h.new)).reverse (h.new.drop (pre h.old h.new)).reverse) f
def fzO (h : Hk) (f : Nat) : List ByteArray := (h.old.drop (fzH h f)).take (h.old.length - fzF h f - fzH h f)
def fzN (h : Hk) (f : Nat) : List ByteArray := (h.new.drop (fzH h f)).take (h.new.length - fzF h f - fzH h f)
def due (h : Hk) (f : Nat) (s : Pt) : Int := h.frm + fzH h f + s.del
def putAt (h : Hk) (f : Nat) (s : Pt) (k : Nat) : Pt := ⟨s.lst.take k ++ (fzN h f ++ s.lst.drop (k + (fzO h f).length)), s.del + ((fzN h f).length - (fzO h f).length : Int), k - due h f s, k + (fzN h f).length⟩
def putP (h : Hk) (f : Nat) (s : Pt) : Option Nat := plc s.lst (fzO h f) (due h f s + s.off) s.fin
/-- a place as data -/
structure Pl where
  hunk : Nat
  line : Int
  off : Int
  fuzz : Int
  done : Bool
/-- one hunk, with the fuzz f and more -/
def tryP (h : Hk) (i : Nat) (s : Pt) : Nat → Nat → Pt × Pl
  | _, 0 => (s, ⟨i, 0, 0, 0, false⟩)
  | f, n + 1 => match putP h f s with
    | some k => (putAt h f s k, ⟨i, k, k - due h f s, f, true⟩)
    | none => tryP h i s (f + 1) n
def patchP (fuzz : Nat) : List Hk → Nat → Pt → Pt × List Pl
  | [], _, s => (s, [])
  | h :: hs, i, s => ((patchP fuzz hs (i + 1) (tryP h i s 0 (fuzz + 1)).1).1, (tryP h i s 0 (fuzz + 1)).2 :: (patchP fuzz hs (i + 1) (tryP h i s 0 (fuzz + 1)).1).2)
end Go.Pw
