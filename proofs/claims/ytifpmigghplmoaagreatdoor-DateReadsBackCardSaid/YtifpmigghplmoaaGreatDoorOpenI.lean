/- What came in, opened: a slice of integers with its bulk. -/
import Derived.Test.YtifpmigghplmoaaGreatDoorOpen
set_option linter.unusedVariables false
namespace Go.Proofs.YtifpmigghplmoaaGreatDoor
open Go.ChangeShapes Go.WideShapes Go.ChangeAt Go.RowKit Go.Pw
open Go.ChangeMaps (open_string shut_string)
def LenI {H : Type} (d : DataW H) (n : Nat) : Prop := n = 0 ∨ ∃ es sp, d = .slice es sp ∧ n = es.length
theorem lenI_sized {H : Type} {ts : List TypeId} {ds : List (DataW H)} {j : Nat} {t e : TypeId} {d : DataW H} {n b : Nat} (h : LenI d n) (hsz : (DataW.weightsEach Tryz.prog ts ds).all (· ≤ reachBytes) = true) (ht : ts[j]? = some t) (hd : ds[j]? = some d) (hu : Tryz.prog.underlying t = some (.slice e)) (hb : Tryz.prog.bytesOf e = b) :
    n * b ≤ 140737488355328 := by
  rcases h with rfl | ⟨es, sp, rfl, rfl⟩
  · simp
  · have h1 := sized_slice hsz ht hd hu
    have h2 := reachBytes_lt
    rw [hb] at h1
    have h3 : es.length * b ≤ (es.length + sp.length) * b := Nat.mul_le_mul_right _ (by omega)
    have h4 : reachBytes < 140737488355328 := by
      have e2 : (2 : Nat) ^ 47 = 140737488355328 := by decide
      omega
    omega
set_option maxRecDepth 100000 in
theorem ints_len {H : Type} {enc : TypeId × Value → H} {W : World} {base : Nat} {v : Value} {d : DataW H} {p : List MemPlace} (hv : Value.okWide Tryz.prog W .any base 27 v)
    (h : DataW.Trod enc Tryz.prog W 0 (fun _ => true) true 27 v d p) : ∃ l, Ints W v l ∧ LenI d l.length := by
  obtain ⟨l, hl⟩ := ints_in hv h
  obtain ⟨a0, len0, cap0, rfl⟩ := okWide_slice Tryz.underlying27 hv
  refine ⟨l, hl, ?_⟩
  have hn := (hl : Ints W _ l)
  obtain ⟨⟨_, A', cap', ev, _, _, _⟩, _⟩ := hn
  injection ev with _ ev2 _
  obtain ⟨fuel, hf⟩ := h
  rcases open_ints Tryz.underlying27 Tryz.underlying3 (by kernel_rfl) hf with ⟨hcs, _⟩ | ⟨x, n, c, ss, hcs, _, hle, hm, hz, hy, _, _⟩
  · simp [Value.cells] at hcs
    obtain ⟨_, h2, _⟩ := hcs
    left; omega
  · simp [Value.cells] at hcs
    obtain ⟨_, h2, h3⟩ := hcs
    have hlen : ss.length = c := by simpa using hz
    simp only [Prod.mk.injEq] at hy
    right
    refine ⟨_, _, hy.1, ?_⟩
    simp [lits]
    omega
end Go.Proofs.YtifpmigghplmoaaGreatDoor
