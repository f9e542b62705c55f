/- Numbers in a row: plain. -/
import Derived.Test.YtoieicdnehnacaaGreatDoorSeqL
set_option linter.unusedVariables false
namespace Go.Pw
open Go.RowKit
/-- the text of a number with so many digits behind the full stop, some of them shown -/
def XT (v : Int) (pl sh : Nat) (t : ByteArray) : Prop := ∃ b d, ExI v b d ∧ t = exTx b d.data.toList pl sh
theorem exI_inj {v : Int} {b b' : Bool} {d d' : ByteArray} (h : ExI v b d) (h' : ExI v b' d') : b = b' ∧ d.data.toList = d'.data.toList :=
  ⟨h.neg.trans h'.neg.symm, canon_inj h.canon h'.canon (h.val.trans h'.val.symm)⟩
theorem XT.inj {v : Int} {pl sh : Nat} {t t' : ByteArray} (h : XT v pl sh t) (h' : XT v pl sh t') : t = t' := by
  obtain ⟨b, d, h1, rfl⟩ := h
  obtain ⟨b', d', h2, rfl⟩ := h'
  obtain ⟨e1, e2⟩ := exI_inj h1 h2
  rw [e1, e2]
theorem padL_zeros (n k : Nat) (l : List UInt8) : padL (n + k + 1) (l ++ List.replicate k 48) = padL (n + 1) l ++ List.replicate k 48 := by
  unfold padL
  rw [List.length_append, List.length_replicate, show n + k + 1 - (l.length + k) = n + 1 - l.length by omega, List.append_assoc]
theorem padL_nil (n k : Nat) : padL (n + k + 1) [] = padL (n + 1) [] ++ List.replicate k 48 := by
  unfold padL
  simp only [List.length_nil, Nat.sub_zero, List.append_nil]
  rw [List.replicate_append_replicate]
  congr 1
  omega
theorem exTx_pad {b : Bool} {D l : List UInt8} {sc k : Nat} (h : padL (sc + k + 1) D = padL (sc + 1) l ++ List.replicate k 48) : exTx b D (sc + k) sc = exTx b l sc sc := by
  have hQ : sc + 1 ≤ (padL (sc + 1) l).length := by unfold padL; rw [List.length_append, List.length_replicate]; omega
  unfold exTx
  rw [h]
  obtain ⟨Q, hq⟩ : ∃ Q, padL (sc + 1) l = Q := ⟨_, rfl⟩
  rw [hq] at hQ ⊢
  rw [List.length_append, List.length_replicate, show Q.length + k - (sc + k) = Q.length - sc by omega]
  rw [List.take_append_of_le_length (by omega), List.drop_append_of_le_length (by omega)]
  rw [List.take_append_of_le_length (by rw [List.length_drop]; omega)]
/-- more digits behind the full stop: the text is the same -/
theorem XT.scale {v : Int} {sc k : Nat} {t t' : ByteArray} (h : XT (v * (10 : Int) ^ k) (sc + k) sc t) (h' : XT v sc sc t') : t = t' := by
  obtain ⟨b, d, h1, rfl⟩ := h
  obtain ⟨b', d', h2, rfl⟩ := h'
  by_cases h0 : 0 < d'.size
  · obtain ⟨e1, e2⟩ := exI_inj h1 (Go.Proofs.YtoieicdnehnacaaGreatDoor.zeros_val k h2 h0)
    have e : (d' ++ mkB (List.replicate k 48)).data.toList = d'.data.toList ++ List.replicate k 48 := by simp [mkB]
    rw [e1, e2, e]
    exact exTx_pad (padL_zeros sc k _)
  · have hz : v = 0 := h2.zero.1 (by omega)
    subst hz
    rw [Int.zero_mul] at h1
    obtain ⟨e1, e2⟩ := exI_inj h1 h2
    have hd : d'.data.toList = [] := canon_zero h2.canon (by rw [h2.val]; rfl)
    rw [e1, e2, hd]
    exact exTx_pad (padL_nil sc k)
/-- what is told so far -/
def OutIs (G : Nat → ByteArray → Prop) (out : List ByteArray) : Prop := ∀ (i : Nat) (h : i < out.length), G i out[i]
theorem OutIs.nil (G : Nat → ByteArray → Prop) : OutIs G [] := fun i h => by simp at h
theorem OutIs.push {G : Nat → ByteArray → Prop} {o : List ByteArray} {t : ByteArray} (h : OutIs G o) (ht : G o.length t) : OutIs G (o ++ [t]) := fun i hi => by
  rcases Nat.lt_or_ge i o.length with h1 | h1
  · rw [List.getElem_append_left h1]; exact h i h1
  · have : i = o.length := by rw [List.length_append] at hi; simp at hi; omega
    subst this
    rw [List.getElem_append_right (Nat.le_refl _)]
    simpa using ht
theorem OutIs.eq {G G' : Nat → ByteArray → Prop} {o o' : List ByteArray} (h : OutIs G o) (h' : OutIs G' o') (hl : o.length = o'.length) (hG : ∀ i t t', G i t → G' i t' → t = t') : o = o' :=
  List.ext_getElem hl fun i h1 h2 => hG i _ _ (h i h1) (h' i h2)
/-- the first place that is beyond the end -/
structure StopAt (bey : Nat → Bool) (k : Nat) : Prop where
  at_ : bey k = true
  lo : ∀ i, i < k → bey i = false
theorem StopAt.uniq {bey : Nat → Bool} {k k' : Nat} (h : StopAt bey k) (h' : StopAt bey k') : k = k' := by
  rcases Nat.lt_trichotomy k k' with h1 | h1 | h1
  · have := h'.lo k h1; rw [h.at_] at this; cases this
  · exact h1
  · have := h.lo k' h1; rw [h'.at_] at this; cases this
/-- the steps: from F by B, compared with the end T -/
def seqBey (F B T : Int) (m : Nat) (i : Nat) : Bool := beyB (decide (B < 0)) (Lib.compareInt ((F + (i : Int) * B) * (10 : Int) ^ m) T)
theorem seq_step (F B : Int) (i m : Nat) : (F + (i : Int) * B) * (10 : Int) ^ m + B * (10 : Int) ^ m = (F + ((i + 1 : Nat) : Int) * B) * (10 : Int) ^ m := by
  rw [← Int.add_mul]
  congr 1
  have : ((i + 1 : Nat) : Int) * B = (i : Int) * B + B := by
    rw [show ((i + 1 : Nat) : Int) = (i : Int) + 1 by omega, Int.add_mul, Int.one_mul]
  omega
end Go.Pw
