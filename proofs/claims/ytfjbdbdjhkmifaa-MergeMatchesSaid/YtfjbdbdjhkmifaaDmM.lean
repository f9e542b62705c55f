/- delta.Merge. -/
import Derived.Test.YtfjbdbdjhkmifaaDmX
import Derived.Test.YtfjbdbdjhkmifaaDmT
import Derived.Test.YtfjbdbdjhkmifaaDiffMatches
set_option linter.unusedVariables false
set_option linter.unusedSimpArgs false
namespace Go.Proofs.Ytfjbdbdjhkmifaa
open Go.RowKit Go.Pw
theorem strsL_three (w : World) (va vb vc : Value) (a b c : List ByteArray) (t : TypeId) (ha : Strs w va a) (hb : Strs w vb b) (hc : Strs w vc c) :
    StrsL (w.alloc (.cells #[va, vb, vc] t)) (.slice (some ⟨w.heap.size, 0, none⟩) 3 3) [a, b, c] := by
  refine ⟨[va, vb, vc], rfl, ⟨rfl, _, 3, rfl, Nat.le_refl _, by unfold maxLen; omega, fun _ => ⟨w.heap.size, 0, rfl, by simp, ?_⟩⟩, ?_⟩
  · intro j u hu
    match j, hu with
    | 0, hu => simp at hu; subst hu; simp [World.cell?_alloc_new]
    | 1, hu => simp at hu; subst hu; simp [World.cell?_alloc_new]
    | 2, hu => simp at hu; subst hu; simp [World.cell?_alloc_new]
    | j + 3, hu => simp at hu
  · intro i u l hu hl
    match i, hu, hl with
    | 0, hu, hl => simp at hu hl; subst hu hl; exact ha.alloc _
    | 1, hu, hl => simp at hu hl; subst hu hl; exact hb.alloc _
    | 2, hu, hl => simp at hu hl; subst hu hl; exact hc.alloc _
    | j + 3, hu, _ => simp at hu
/-- what a region adds, its sure lines ahead of it too -/
def stepRg (base : List ByteArray) (x y : List Hk) (r : Rg) (at_ : Nat) (ps : List Pc) : List Pc := addRg base x y r (sureP ps (part base at_ r.1))
theorem mergeRun_cons (base : List ByteArray) (x y : List Hk) (r : Rg) (rs : List Rg) (at_ : Nat) (ps : List Pc) : mergeRun base x y (r :: rs) at_ ps = mergeRun base x y rs r.2 (stepRg base x y r at_ ps) := rfl
/-- the pieces of a merge -/
def mergeOf (base a b : List ByteArray) (rs : List Rg) : List Pc := mergeRun base (diffOf base a) (diffOf base b) rs 0 []
theorem two_boxed {wr wq : World} {a b : Value} {T : TypeId} (h : wr.alloc (.cells #[a, b] T) = wq) : Below wr.heap.size wr wq ∧ wq.heap.size = wr.heap.size + 1 ∧ wq.cell? ⟨wr.heap.size, 0, none⟩ = some a ∧ wq.cell? ⟨wr.heap.size, 1, none⟩ = some b ∧ wq.heap[wr.heap.size]? = some (.cells #[a, b] T (0, 0)) := by
  subst h
  exact ⟨(Below.refl _ _).alloc (Nat.le_refl _) _, by simp, by simp [World.cell?_alloc_new], by simp [World.cell?_alloc_new], heap_alloc_new _ _⟩
theorem sideOf_diff_len {base a : List ByteArray} {r : Rg} (hb : base.length ≤ 1000) (ha : a.length ≤ 1000) : (sideOf base r (diffOf base a)).length ≤ 2004000 := by
  have h1 := sideOf_len (a := base) (r := r) (hs := diffOf base a) (M := 1000) (fun h hh => by
    have := hunksOf_new (a := base) (b := a) h hh
    omega)
  have h2 := diffOf_le base a
  have h3 : ((diffOf base a).length + 1) * (base.length + 1000) ≤ 1002 * 2000 := Nat.mul_le_mul (by omega) (by omega)
  omega
theorem addRg_lines {base : List ByteArray} {x y : List Hk} {r : Rg} {ps : List Pc} {n c : Nat} (h : LinesLe ps n) (h1 : (sideOf base r x).length ≤ c) (h2 : (sideOf base r y).length ≤ c) : LinesLe (addRg base x y r ps) (n + c) := by
  unfold addRg
  split
  · exact (h.sure).mono (by omega)
  · split
    · exact (h.sure).mono (by omega)
    · exact (h.mono (by omega)).push (by show ([] : List ByteArray).length ≤ _; simp)

set_option maxHeartbeats 1000000 in
theorem Merge_bad (v0 va vb : Value) (base a b : List ByteArray) (w : World) (h0 : Strs w v0 base) (ha : Strs w va a) (hb : Strs w vb b) (he : ¬ listsErr [base, a, b] = 0) :
    Calls Try.prog 6 #[v0, va, vb] w fun e w' => e = .returned (.tuple #[.slice none 0 0, .int .i64 (listsErr [base, a, b])]) ∧ Below w.heap.size w w' := by
  have H0 := hide h0
  have HA := hide ha
  have HB := hide hb
  obtain ⟨⟨_, A0, c0, rfl, _⟩, _⟩ := h0
  obtain ⟨⟨_, A, ca, rfl, _⟩, _⟩ := ha
  obtain ⟨⟨_, B, cb, rfl, _⟩, _⟩ := hb
  have he' : (listsErr [base, a, b] != 0) = true := by simpa using he
  go_enter Try.func6, Try.ntmps6
  go_wp2_with fail
  refine (listed_any _ [base, a, b] _ (strsL_three w _ _ _ base a b _ H0.out HA.out HB.out)).mono ?_
  rintro e w1 ⟨rfl, rfl⟩
  go_wp2_with fail
  go_ret2
  exact ⟨rfl, (Below.refl _ _).alloc (Nat.le_refl _) _⟩
/-- what the loop keeps -/
structure MgAt (w3 w5 wr : World) (M N : Nat) (base : List ByteArray) (x y : List Hk) (rs : List Rg) (k at_ : Nat) (v : Value) (ps : List Pc) : Prop where
  env : MgEnv wr M N v ps
  but : But N M w5 wr
  run : mergeRun base x y rs 0 [] = mergeRun base x y (rs.drop k) at_ ps
  next : ∀ r, rs[k]? = some r → at_ ≤ r.1
  le : at_ ≤ base.length
  lines : LinesLe ps (k * 3000000)
  len : ps.length ≤ 2 * k
theorem MgAt.step {w3 w5 wr w' : World} {M N : Nat} {base : List ByteArray} {x y : List Hk} {rs : List Rg} {k at_ : Nat} {v v' : Value} {ps : List Pc} {r : Rg} (h : MgAt w3 w5 wr M N base x y rs k at_ v ps) (hr : rs[k]? = some r) (hs : Sep rs) (hrb : r.2 ≤ base.length)
    (hb : base.length ≤ 1000) (hx : (sideOf base r x).length ≤ 2004000) (hy : (sideOf base r y).length ≤ 2004000) (hE : MgEnv w' M N v' (stepRg base x y r at_ ps)) (hB : But N M wr w') : MgAt w3 w5 w' M N base x y rs (k + 1) r.2 v' (stepRg base x y r at_ ps) := by
  obtain ⟨hk, he⟩ := List.getElem?_eq_some_iff.1 hr
  refine ⟨hE, h.but.trans hB, ?_, fun q hq => ?_, hrb, ?_, ?_⟩
  · rw [h.run, List.drop_eq_getElem_cons hk, he, mergeRun_cons]
  · obtain ⟨hk2, he2⟩ := List.getElem?_eq_some_iff.1 hq
    have := (List.pairwise_iff_getElem.1 hs.1) k (k + 1) hk hk2 (by omega)
    rw [he, he2] at this
    omega
  · have h1 : LinesLe (sureP ps (part base at_ r.1)) (k * 3000000 + 1000) := h.lines.sure.mono (by
      have : (part base at_ r.1).length ≤ base.length := by unfold part; rw [List.length_take, List.length_drop]; omega
      omega)
    exact (addRg_lines h1 hx hy).mono (by omega)
  · have h1 := sureP_len ps (part base at_ r.1)
    have h2 := addRg_len base x y r (sureP ps (part base at_ r.1))
    have := h.len
    unfold stepRg
    omega
end Go.Proofs.Ytfjbdbdjhkmifaa
