/- Plain: bounds of what a patcher keeps. -/
import Derived.Test.YtfjbdbdjhkmifaaPtP
import Derived.Test.YtfjbdbdjhkmifaaDiffC
set_option linter.unusedVariables false
set_option linter.unusedSimpArgs false
namespace Go.Pw
theorem fz_sum (h : Hk) (f : Nat) : fzH h f + fzF h f ≤ h.old.length ∧ fzH h f + fzF h f ≤ h.new.length := by
  have h1 := pre_le h.old h.new
  have h2 := pre_le (h.old.drop (pre h.old h.new)).reverse (h.new.drop (pre h.old h.new)).reverse
  simp only [List.length_reverse, List.length_drop] at h2
  unfold fzH fzF
  omega
theorem fzO_length (h : Hk) (f : Nat) : (fzO h f).length = h.old.length - fzF h f - fzH h f := by
  have := fz_sum h f
  unfold fzO
  rw [List.length_take, List.length_drop]; omega
theorem fzN_length (h : Hk) (f : Nat) : (fzN h f).length = h.new.length - fzF h f - fzH h f := by
  have := fz_sum h f
  unfold fzN
  rw [List.length_take, List.length_drop]; omega
/-- a hunk of which the list of hunks is in order -/
def HkOk (h : Hk) : Prop := h.old.length ≤ 1000 ∧ h.new.length ≤ 1000 ∧ 0 ≤ h.frm ∧ h.frm ≤ 1000000 ∧ ∀ x ∈ h.new, x.size ≤ Go.maxLen
/-- the bounds of a patcher's numbers, n hunks put -/
def PtOk (s : Pt) (n : Nat) : Prop := s.lst.length ≤ 1000 * (n + 1) ∧ s.fin ≤ s.lst.length ∧ -(1000 * (n : Int)) ≤ s.del ∧ s.del ≤ 1000 * (n : Int) ∧ -10000000 ≤ s.off ∧ s.off ≤ 10000000 ∧ ∀ x ∈ s.lst, x.size ≤ Go.maxLen
theorem PtOk.more {s : Pt} {n : Nat} (h : PtOk s n) : PtOk s (n + 1) := by
  obtain ⟨h1, h2, h3, h4, h5, h6, h7⟩ := h
  exact ⟨by omega, h2, by omega, by omega, h5, h6, h7⟩
theorem PtOk.put {s : Pt} {n : Nat} {h : Hk} {f k : Nat} (hs : PtOk s n) (hh : HkOk h) (hn : n ≤ 1000) (hp : putP h f s = some k) : PtOk (putAt h f s k) (n + 1) := by
  obtain ⟨h1, h2, h3, h4, h5, h6, h7⟩ := hs
  obtain ⟨g1, g2, g3, g4, g5⟩ := hh
  obtain ⟨hk, hf⟩ := plc_near hp
  have hf1 := hf.1
  have l1 := fzO_length h f
  have l2 := fzN_length h f
  have l3 := fz_sum h f
  have hd : due h f s = h.frm + fzH h f + s.del := rfl
  refine ⟨?_, ?_, ?_, ?_, ?_, ?_, ?_⟩
  · show (s.lst.take k ++ (fzN h f ++ s.lst.drop (k + (fzO h f).length))).length ≤ _
    simp only [List.length_append, List.length_take, List.length_drop]; omega
  · show k + (fzN h f).length ≤ (s.lst.take k ++ (fzN h f ++ s.lst.drop (k + (fzO h f).length))).length
    simp only [List.length_append, List.length_take, List.length_drop]; omega
  · show _ ≤ s.del + ((fzN h f).length - (fzO h f).length : Int); omega
  · show s.del + ((fzN h f).length - (fzO h f).length : Int) ≤ _; omega
  · show _ ≤ (k : Int) - due h f s; omega
  · show (k : Int) - due h f s ≤ _; omega
  · intro x hx
    rcases List.mem_append.1 hx with hx | hx
    · exact h7 x (List.mem_of_mem_take hx)
    · rcases List.mem_append.1 hx with hx | hx
      · exact g5 x (List.mem_of_mem_drop (List.mem_of_mem_take hx))
      · exact h7 x (List.mem_of_mem_drop hx)
theorem PtOk.start {l : List ByteArray} (h : l.length ≤ 1000) (hz : ∀ x ∈ l, x.size ≤ Go.maxLen) : PtOk ⟨l, 0, 0, 0⟩ 0 := ⟨by simpa using h, Nat.zero_le _, by simp, by simp, by simp, by simp, hz⟩
theorem PtOk.try {h : Hk} (hh : HkOk h) {i : Nat} {s : Pt} {n : Nat} (hs : PtOk s n) (hn : n ≤ 1000) : ∀ (m f : Nat), PtOk (tryP h i s f m).1 (n + 1)
  | 0, f => hs.more
  | m + 1, f => by
    rw [tryP]
    split
    · rename_i k hk; exact hs.put hh hn hk
    · exact PtOk.try hh hs hn m (f + 1)
theorem PtOk.patch (fz : Nat) : ∀ (hs : List Hk) (i : Nat) (s : Pt) (n : Nat), (∀ h ∈ hs, HkOk h) → PtOk s n → n + hs.length ≤ 1000 → PtOk (patchP fz hs i s).1 (n + hs.length)
  | [], _, s, n, _, h, _ => h
  | h :: hs, i, s, n, hh, hs', hn => by
    simp only [List.length_cons] at hn ⊢
    rw [patchP]
    have := PtOk.patch fz hs (i + 1) (tryP h i s 0 (fz + 1)).1 (n + 1) (fun g hg => hh g (List.mem_cons_of_mem _ hg)) (PtOk.try (hh h List.mem_cons_self) hs' (by omega) _ _) (by omega)
    rw [show n + (hs.length + 1) = n + 1 + hs.length by omega]
    exact this
end Go.Pw
namespace Go.Proofs.Ytfjbdbdjhkmifaa
open Go.RowKit Go.Pw
/-- the hunks that turnable takes -/
theorem hrun_ok : ∀ (hs : List Hk) (s : WS), 0 ≤ s.fin → hOut none (hRun none false hs s) = 0 → ∀ h ∈ hs, h.old.length ≤ 1000 ∧ h.new.length ≤ 1000 ∧ 0 ≤ h.frm ∧ h.frm ≤ 1000000
  | [], _, _, _, h, hh => by cases hh
  | g :: hs, s, hf, h0, h, hh => by
    rw [hRun] at h0
    split at h0
    · rename_i hst
      have hst' := hst
      unfold hStep at hst
      split at hst
      · rename_i h1; exact absurd hst h1
      · rename_i h1
        have h1' : formErr g s.fin = 0 := by omega
        obtain ⟨e1, e2⟩ := form_zero h1'
        have l1 := lists_len e1 (l := g.old) (by simp)
        have l2 := lists_len e1 (l := g.new) (by simp)
        have h3 : g.frm ≤ 1000000 := by
          unfold restErr at hst
          dsimp only at hst
          split at hst
          · cases hst
          · omega
        rcases List.mem_cons.1 hh with rfl | hh
        · exact ⟨l1, l2, by omega, h3⟩
        · exact hrun_ok hs (s.next g) (by show (0 : Int) ≤ g.frm + g.old.length; omega) h0 h hh
    · rename_i h1; exact absurd h0 h1
theorem hunks_ok {hs : List Hk} (h : hunkErr none false hs = 0) : hs.length ≤ 1000 ∧ ∀ h ∈ hs, h.old.length ≤ 1000 ∧ h.new.length ≤ 1000 ∧ 0 ≤ h.frm ∧ h.frm ≤ 1000000 := by
  unfold hunkErr at h
  split at h
  · cases h
  · rename_i h1
    exact ⟨Nat.le_of_not_lt fun h2 => h1 ⟨rfl, h2⟩, hrun_ok hs ⟨0, 0⟩ (by simp) h⟩
end Go.Proofs.Ytfjbdbdjhkmifaa
