/- Plain: bounds of the division into runs. -/
import Derived.Test.YtkikbejpgfhfoaaDoorRunsP
set_option linter.unusedVariables false
set_option linter.unusedSimpArgs false
namespace Go.Pw
variable {α : Type}
theorem dvd_ne (size : α → Nat) (memory : Int) : ∀ l : List α, ∀ r ∈ (dvd size memory l).1, r ≠ [] := by
  refine snoc_ind (fun r hr => by simp [dvd] at hr) fun l x ih => ?_
  intro r hr
  rw [dvd_snoc, dvd1] at hr
  split at hr
  · rcases List.mem_append.1 hr with hr | hr
    · exact ih r hr
    · simp at hr; subst hr; simp
  · rcases List.mem_or_eq_of_mem_set hr with hr | rfl
    · exact ih r hr
    · simp
theorem flat_len_ge : ∀ (rs : List (List α)), (∀ r ∈ rs, r ≠ []) → rs.length ≤ rs.flatten.length
  | [], _ => Nat.le_refl _
  | r :: rs, h => by
    have h1 := flat_len_ge rs fun q hq => h q (by simp [hq])
    have h2 : 0 < r.length := List.length_pos_iff.2 (h r (by simp))
    simp only [List.length_cons, List.flatten_cons, List.length_append]
    omega
theorem dvd_len (size : α → Nat) (memory : Int) (l : List α) : (dvd size memory l).1.length ≤ l.length := by
  have := flat_len_ge _ (dvd_ne size memory l)
  rwa [dvd_flat] at this
theorem flat_run_le : ∀ {rs : List (List α)} {r : List α}, r ∈ rs → r.length ≤ rs.flatten.length
  | q :: rs, r, h => by
    rcases List.mem_cons.1 h with rfl | h
    · simp
    · have := flat_run_le h
      simp only [List.flatten_cons, List.length_append]; omega
theorem dvd_run_le (size : α → Nat) (memory : Int) (l : List α) {r : List α} (h : r ∈ (dvd size memory l).1) : r.length ≤ l.length := by
  have := flat_run_le h
  rwa [dvd_flat] at this
theorem dvd_mem (size : α → Nat) (memory : Int) (l : List α) {r : List α} (h : r ∈ (dvd size memory l).1) {z : α} (hz : z ∈ r) : z ∈ l := by
  rw [← dvd_flat size memory l]
  exact List.mem_flatten.2 ⟨r, h, hz⟩
theorem dvd_room (size : α → Nat) (memory : Int) (h0 : 0 ≤ memory) (h1 : memory ≤ 1000000) : ∀ l : List α, (∀ s ∈ l, size s ≤ 1000000) → -1000001 ≤ (dvd size memory l).2 ∧ (dvd size memory l).2 ≤ 1000000 := by
  refine snoc_ind (fun _ => by simp [dvd]) fun l x ih => ?_
  intro hs
  have i1 := ih fun s hs' => hs s (by simp [hs'])
  have i2 := hs x (by simp)
  rw [dvd_snoc, dvd1]
  split
  · simp only []; omega
  · rename_i h
    rw [not_or] at h
    simp only []; omega
/-- the step, from the list's side -/
theorem dvd_take (size : α → Nat) (memory : Int) (l : List α) (k : Nat) (h : k < l.length) : dvd size memory (l.take (k + 1)) = dvd1 size memory (dvd size memory (l.take k)) l[k] := by
  rw [List.take_succ_eq_append_getElem h, dvd_snoc]
end Go.Pw
