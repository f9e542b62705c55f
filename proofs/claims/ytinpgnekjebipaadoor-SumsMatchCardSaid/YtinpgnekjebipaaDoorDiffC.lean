import Derived.Test.YtinpgnekjebipaaDoorDiffB
import Derived.Test.YtinpgnekjebipaaDoorSame
set_option linter.unusedSimpArgs false
set_option linter.unusedVariables false
namespace Go.Proofs.YtinpgnekjebipaaDoor
open Go.RowKit Go.Pw

/-- what Diff returns as hunks -/
def diffOf (a b : List ByteArray) : List Hk := hunksOf a b 0 0 (stayAt a b 0 0)

theorem strsL_two (w : World) (va vb : Value) (a b : List ByteArray) (t : TypeId) (ha : Strs w va a) (hb : Strs w vb b) :
    StrsL (w.alloc (.cells #[va, vb] t)) (.slice (some ⟨w.heap.size, 0, none⟩) 2 2) [a, b] := by
  refine ⟨[va, vb], rfl, ⟨rfl, _, 2, rfl, Nat.le_refl _, by unfold maxLen; omega, fun _ => ⟨w.heap.size, 0, rfl, by simp, ?_⟩⟩, ?_⟩
  · intro j u hu
    match j, hu with
    | 0, hu => simp at hu; subst hu; simp [World.cell?_alloc_new]
    | 1, hu => simp at hu; subst hu; simp [World.cell?_alloc_new]
    | j + 2, hu => simp at hu
  · intro i u l hu hl
    match i, hu, hl with
    | 0, hu, hl => simp at hu hl; subst hu hl; exact ha.alloc _
    | 1, hu, hl => simp at hu hl; subst hu hl; exact hb.alloc _
    | j + 2, hu, _ => simp at hu

theorem fnz_zero {l : List Int} (h : firstNZ l = 0) : ∀ x ∈ l, x = 0 := by
  induction l with
  | nil => simp
  | cons x l ih =>
    rw [firstNZ] at h
    split at h
    · rename_i hx
      intro y hy
      rcases List.mem_cons.1 hy with rfl | hy
      · exact hx
      · exact ih h y hy
    · exact absurd h (by assumption)
theorem listErr_len {l : List ByteArray} (h : listErr l = 0) : l.length ≤ 1000 := by
  unfold listErr at h
  split at h
  · omega
  · omega
theorem lists_len {ls : List (List ByteArray)} (h : listsErr ls = 0) {l : List ByteArray} (hl : l ∈ ls) : l.length ≤ 1000 :=
  listErr_len (fnz_zero h _ (List.mem_map_of_mem hl))

set_option maxHeartbeats 1000000 in
theorem Diff_bad (va vb : Value) (a b : List ByteArray) (w : World) (ha : Strs w va a) (hb : Strs w vb b) (he : ¬ listsErr [a, b] = 0) :
    Calls Tryd.prog 21 #[va, vb] w fun e w' => e = .returned (.tuple #[.slice none 0 0, .int .i64 (listsErr [a, b])]) ∧ Below w.heap.size w w' := by
  have HA := hide ha
  have HB := hide hb
  obtain ⟨⟨_, A, ca, rfl, _⟩, _⟩ := ha
  obtain ⟨⟨_, B, cb, rfl, _⟩, _⟩ := hb
  have he' : (listsErr [a, b] != 0) = true := by simpa using he
  go_enter Tryd.func21, Tryd.ntmps21
  go_wp2_with fail
  refine (listed_any _ [a, b] _ (strsL_two w _ _ a b _ HA.out HB.out)).mono ?_
  rintro e w1 ⟨rfl, rfl⟩
  go_wp2_with fail
  go_ret2
  exact ⟨rfl, (Below.refl _ _).alloc (Nat.le_refl _) _⟩
set_option maxHeartbeats 1000000 in
theorem Diff_good (va vb : Value) (a b : List ByteArray) (w : World) (ha : Strs w va a) (hb : Strs w vb b) (he : listsErr [a, b] = 0) :
    Calls Tryd.prog 21 #[va, vb] w fun e w' => ∃ v, e = .returned (.tuple #[v, .int .i64 0]) ∧ Hunks w' v (diffOf a b) ∧ Below w.heap.size w w' := by
  have HA := hide ha
  have HB := hide hb
  obtain ⟨⟨_, A, ca, rfl, _⟩, _⟩ := ha
  obtain ⟨⟨_, B, cb, rfl, _⟩, _⟩ := hb
  have la := lists_len he (l := a) (by simp)
  have lb := lists_len he (l := b) (by simp)
  have HE := hide he
  clear he
  have bb := (Below.refl w.heap.size w).alloc (Nat.le_refl _) (.cells #[.slice A a.length ca, .slice B b.length cb] 44)
  go_enter Tryd.func21, Tryd.ntmps21
  go_wp2_with fail
  refine (listed_any _ [a, b] _ (strsL_two w _ _ a b _ HA.out HB.out)).mono ?_
  rintro e w1 ⟨rfl, rfl⟩
  rw [HE.out]
  go_wp2_with fail
  refine (diff_any _ _ a b _ (HA.out.below bb) (HB.out.below bb) la lb).mono ?_
  rintro e w1 ⟨v, rfl, hh, hb1⟩
  go_wp2_with fail
  go_ret2
  exact ⟨v, rfl, hh, bb.trans (hb1.mono (by simp))⟩
end Go.Proofs.YtinpgnekjebipaaDoor
