/- What came in, opened: a text, a slice of strings, a slice of integers. -/
import Derived.Test.YtfjbdbdjhkmifaaMem
import Derived.Test.YtfjbdbdjhkmifaaProg
import Derived.Test.YtfjbdbdjhkmifaaChecked
import Derived.WalkKit
import Derived.ProofKit
import Derived.OpenShut
import Derived.ShutString
import Derived.ChangeOld
import Derived.Below
import Derived.SliceStrings
import Derived.SizedLaws
namespace Go.Proofs.Ytfjbdbdjhkmifaa
open Go.ChangeShapes Go.WideShapes Go.ChangeAt Go.RowKit Go.Pw
open Go.ChangeMaps (open_string shut_string)
set_option linter.unusedVariables false

theorem own : ownKnob Try.prog.godebug = none := by kernel_rfl
theorem laidOut : laidOutB Try.prog = true := by kernel_rfl
/-- a slice of integers that reads as the list l -/
def Ints (w : World) (v : Value) (l : List Int) : Prop := Rd w 1 v l.length (l.map (Value.int .i64)) ∧ ∀ n ∈ l, -9223372036854775808 ≤ n ∧ n ≤ 9223372036854775807
theorem size_reach {s : ByteArray} (h : s.data.toList.length ≤ reachBytes) : s.size ≤ 140737488355328 := by
  have h1 := reachBytes_lt
  have h2 : s.data.toList.length = s.size := Array.length_toList
  omega
theorem spot_none {W : World} {x : Addr} {v : Value} (h : W.cell? x = some v) : x.spot = none := by
  unfold World.cell? at h
  split at h
  · split at h
    · cases h
    · rename_i hs; simpa using hs
  · cases h

set_option maxRecDepth 100000 in
/-- a slice of strings that came in reads as a list -/
theorem strs_in {H : Type} {enc : TypeId × Value → H} {W : World} {base : Nat} {v : Value} {d : DataW H} {p : List MemPlace} (hv : Value.okWide Try.prog W .any base 22 v)
    (h : DataW.Trod enc Try.prog W 0 (fun _ => true) true 22 v d p) : ∃ l, Strs W v l := by
  obtain ⟨a0, len0, cap0, rfl⟩ := okWide_slice Try.underlying22 hv
  obtain ⟨fuel, hf⟩ := h
  rcases open_strings Try.underlying22 Try.underlying9 (by kernel_rfl) hf with ⟨hcs, _⟩ | ⟨x, l, c, ss, hcs, _, hl, hm, hz, _, hcell, hws⟩
  · simp [Value.cells] at hcs
    obtain ⟨rfl, rfl, rfl⟩ := hcs
    exact ⟨[], Rd.nil _ _, by simp⟩
  · simp [Value.cells] at hcs
    obtain ⟨rfl, rfl, rfl⟩ := hcs
    have hlen : ss.length = cap0 := by simpa using hz
    have hl2 : (ss.take len0).length = len0 := by simp; omega
    refine ⟨ss.take len0, ⟨by simp, some x, cap0, by rw [hl2], by rw [hl2]; exact hl, hm, fun hn => ?_⟩, fun s hs => hws s (List.mem_of_mem_take hs)⟩
    rw [hl2] at hn
    have h0 := hcell 0 (by omega)
    have hsp : x.spot = none := by
      have : x.add 0 = x := by simp [Addr.add]
      rw [this] at h0
      unfold World.cell? at h0
      split at h0
      · split at h0
        · cases h0
        · rename_i hs; simpa using hs
      · cases h0
    obtain ⟨xb, xo, xs⟩ := x
    simp only at hsp
    subst hsp
    refine ⟨xb, xo, rfl, World.block_lt_of_cell? W ⟨xb, xo, none⟩ (by simpa [Addr.add] using h0), fun j u hu => ?_⟩
    rw [List.getElem?_map, Option.map_eq_some_iff] at hu
    obtain ⟨s, hs, rfl⟩ := hu
    rw [List.getElem?_take] at hs
    split at hs
    · have hj : j < ss.length := (List.getElem?_eq_some_iff.1 hs).1
      have := hcell j hj
      rw [show ss.getD j ByteArray.empty = s by simp [hs]] at this
      rw [← this]
      unfold Addr.add
      split
      · rename_i e; subst e; rfl
      · rfl
    · cases hs

set_option maxRecDepth 100000 in
/-- a slice of integers that came in reads as a list -/
theorem ints_in {H : Type} {enc : TypeId × Value → H} {W : World} {base : Nat} {v : Value} {d : DataW H} {p : List MemPlace} (hv : Value.okWide Try.prog W .any base 52 v)
    (h : DataW.Trod enc Try.prog W 0 (fun _ => true) true 52 v d p) : ∃ l, Ints W v l := by
  obtain ⟨a0, len0, cap0, rfl⟩ := okWide_slice Try.underlying52 hv
  obtain ⟨fuel, hf⟩ := h
  rcases open_ints Try.underlying52 Try.underlying3 (by kernel_rfl) hf with ⟨hcs, _⟩ | ⟨x, l, c, ss, hcs, _, hl, hm, hz, _, hcell, hwf⟩
  · simp [Value.cells] at hcs
    obtain ⟨rfl, rfl, rfl⟩ := hcs
    exact ⟨[], Rd.nil _ _, by simp⟩
  · simp [Value.cells] at hcs
    obtain ⟨rfl, rfl, rfl⟩ := hcs
    have hlen : ss.length = cap0 := by simpa using hz
    have hl2 : (ss.take len0).length = len0 := by simp; omega
    refine ⟨ss.take len0, ⟨by simp, some x, cap0, by rw [hl2], by rw [hl2]; exact hl, hm, fun hn => ?_⟩, fun s hs => by
      have := hwf s (List.mem_of_mem_take hs)
      simp [Lit.wf, IntKind.min, IntKind.max, IntKind.signed, IntKind.bits] at this
      omega⟩
    rw [hl2] at hn
    have h0 := hcell 0 (by omega)
    have hsp : x.spot = none := by
      have : x.add 0 = x := by simp [Addr.add]
      rw [this] at h0
      unfold World.cell? at h0
      split at h0
      · split at h0
        · cases h0
        · rename_i hs; simpa using hs
      · cases h0
    obtain ⟨xb, xo, xs⟩ := x
    simp only at hsp
    subst hsp
    refine ⟨xb, xo, rfl, World.block_lt_of_cell? W ⟨xb, xo, none⟩ (by simpa [Addr.add] using h0), fun j u hu => ?_⟩
    rw [List.getElem?_map, Option.map_eq_some_iff] at hu
    obtain ⟨s, hs, rfl⟩ := hu
    rw [List.getElem?_take] at hs
    split at hs
    · have hj : j < ss.length := (List.getElem?_eq_some_iff.1 hs).1
      have := hcell j hj
      rw [show ss.getD j 0 = s by simp [hs]] at this
      rw [← this]
      unfold Addr.add
      split
      · rename_i e; subst e; rfl
      · rfl
    · cases hs

end Go.Proofs.Ytfjbdbdjhkmifaa
