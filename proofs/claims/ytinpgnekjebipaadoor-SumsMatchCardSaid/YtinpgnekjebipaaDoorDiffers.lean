import Derived.Test.YtinpgnekjebipaaDoorDiffC
set_option linter.unusedSimpArgs false
set_option linter.unusedVariables false
namespace Go.Proofs.YtinpgnekjebipaaDoor
open Go.RowKit Go.Pw

theorem strs_new (w : World) (l : List ByteArray) (t : TypeId) (hs : ∀ s ∈ l, s.size ≤ maxLen) (hl : l.length ≤ maxLen) :
    Strs (w.alloc (.cells (l.map Value.string).toArray t)) (.slice (some ⟨w.heap.size, 0, none⟩) l.length l.length) l := by
  refine ⟨⟨by simp, _, _, rfl, Nat.le_refl _, hl, fun _ => ⟨w.heap.size, 0, rfl, by simp, fun j u hu => ?_⟩⟩, hs⟩
  rw [World.cell?_alloc_new]
  simpa using hu

def sx : ByteArray := ⟨#[120]⟩
def sa : ByteArray := ⟨#[97]⟩
def sb : ByteArray := ⟨#[98]⟩
theorem xa : ¬ sx = sa := by decide
theorem xb : ¬ sx = sb := by decide
theorem ab : ¬ sa = sb := by decide
theorem ax : ¬ sa = sx := by decide
theorem bx : ¬ sb = sx := by decide
theorem ba : ¬ sb = sa := by decide
theorem differs_plain : diffOf [sx, sa, sb] [sa, sb, sx] = [⟨0, 0, [sx], []⟩, ⟨3, 2, [], [sx]⟩] := by
  simp [diffOf, stayAt, stayL, lcs, place, hunksOf, gap, part, xa, xb, ab, ax, bx, ba]
theorem differs_err : listsErr [[sx, sa, sb], [sa, sb, sx]] = 0 := by decide

theorem small_le {s : ByteArray} {l : List ByteArray} (h : s ∈ l) (hl : ∀ s ∈ l, s.size = 1) : s.size ≤ maxLen := by
  rw [hl s h]; unfold maxLen; omega

theorem size_alloc (w : World) (o : Obj) : (w.alloc o).heap.size = w.heap.size + 1 := by simp
theorem lit_x (w : World) : Strs (w.alloc (.cells #[.string ⟨#[120]⟩] 9)) (.slice (some ⟨w.heap.size, 0, none⟩) 1 1) [sx] :=
  strs_new w [sx] 9 (fun s h => small_le h (by decide)) (by show 1 ≤ maxLen; unfold maxLen; omega)
theorem lit_xab (w : World) : Strs (w.alloc (.cells #[.string ⟨#[120]⟩, .string ⟨#[97]⟩, .string ⟨#[98]⟩] 9)) (.slice (some ⟨w.heap.size, 0, none⟩) 3 3) [sx, sa, sb] :=
  strs_new w [sx, sa, sb] 9 (fun s h => small_le h (by decide)) (by show 3 ≤ maxLen; unfold maxLen; omega)
theorem lit_abx (w : World) : Strs (w.alloc (.cells #[.string ⟨#[97]⟩, .string ⟨#[98]⟩, .string ⟨#[120]⟩] 9)) (.slice (some ⟨w.heap.size, 0, none⟩) 3 3) [sa, sb, sx] :=
  strs_new w [sa, sb, sx] 9 (fun s h => small_le h (by decide)) (by show 3 ≤ maxLen; unfold maxLen; omega)
theorem lit_both (w : World) : Strs ((w.alloc (.cells #[.string ⟨#[120]⟩, .string ⟨#[97]⟩, .string ⟨#[98]⟩] 9)).alloc (.cells #[.string ⟨#[97]⟩, .string ⟨#[98]⟩, .string ⟨#[120]⟩] 9)) (.slice (some ⟨w.heap.size + 1, 0, none⟩) 3 3) [sa, sb, sx] := by
  have := lit_abx (w.alloc (.cells #[.string ⟨#[120]⟩, .string ⟨#[97]⟩, .string ⟨#[98]⟩] 9))
  rwa [size_alloc] at this

/-- the hunks that 'differs' expects, as they are laid -/
theorem lit_hunks (w : World) : Hunks (((w.alloc (.cells #[.string ⟨#[120]⟩] 9)).alloc (.cells #[.string ⟨#[120]⟩] 9)).alloc (.cells #[.int .i64 0, .int .i64 0, .slice (some ⟨w.heap.size, 0, none⟩) 1 1, .slice none 0 0, .int .i64 3, .int .i64 2, .slice none 0 0, .slice (some ⟨w.heap.size + 1, 0, none⟩) 1 1] 46))
    (.slice (some ⟨w.heap.size + 1 + 1, 0, none⟩) 2 2) [⟨0, 0, [sx], []⟩, ⟨3, 2, [], [sx]⟩] := by
  have h1 := ((lit_x w).alloc (.cells #[.string ⟨#[120]⟩] 9)).alloc (.cells #[.int .i64 0, .int .i64 0, .slice (some ⟨w.heap.size, 0, none⟩) 1 1, .slice none 0 0, .int .i64 3, .int .i64 2, .slice none 0 0, .slice (some ⟨w.heap.size + 1, 0, none⟩) 1 1] 46)
  have h2 := (lit_x (w.alloc (.cells #[.string ⟨#[120]⟩] 9))).alloc (.cells #[.int .i64 0, .int .i64 0, .slice (some ⟨w.heap.size, 0, none⟩) 1 1, .slice none 0 0, .int .i64 3, .int .i64 2, .slice none 0 0, .slice (some ⟨w.heap.size + 1, 0, none⟩) 1 1] 46)
  rw [size_alloc] at h2
  have hn : ∀ W : World, Strs W (.slice none 0 0) [] := fun W => ⟨Rd.nil _ _, by simp⟩
  refine ⟨[(.slice (some ⟨w.heap.size, 0, none⟩) 1 1, .slice none 0 0), (.slice none 0 0, .slice (some ⟨w.heap.size + 1, 0, none⟩) 1 1)], rfl, ⟨rfl, _, 2, rfl, Nat.le_refl _, by unfold maxLen; omega, fun _ => ⟨w.heap.size + 1 + 1, 0, rfl, by simp, ?_⟩⟩, ?_, ?_⟩
  · intro j u hu
    have e : w.heap.size + 1 + 1 = ((w.alloc (.cells #[.string ⟨#[120]⟩] 9)).alloc (.cells #[.string ⟨#[120]⟩] 9)).heap.size := by simp
    rw [e, World.cell?_alloc_new]
    simpa [hkCells] using hu
  · intro h hh
    simp at hh
    rcases hh with rfl | rfl <;> exact ⟨⟨by decide, by decide⟩, by decide, by decide⟩
  · intro i h o n e1 e2
    match i, e1, e2 with
    | 0, e1, e2 => simp at e1 e2; obtain ⟨rfl, rfl⟩ := e2; subst e1; exact ⟨h1, hn _⟩
    | 1, e1, e2 => simp at e1 e2; obtain ⟨rfl, rfl⟩ := e2; subst e1; exact ⟨hn _, h2⟩
    | j + 2, e1, _ => simp at e1

set_option maxHeartbeats 1000000 in
theorem differs_any (w : World) : Calls Tryd.prog 9 #[] w fun e w' => e = .returned (.bool true) ∧ Below w.heap.size w w' := by
  go_enter Tryd.func9, Tryd.ntmps9
  go_wp2_with fail
  refine (Diff_good _ _ [sx, sa, sb] [sa, sb, sx] _ ((lit_xab w).alloc _) (lit_both w) differs_err).mono ?_
  rintro e w1 ⟨v, rfl, hh, hb1⟩
  have HH := hide hh
  clear hh
  have hbl : Below w.heap.size w w1 := (below2 w _ _).trans (hb1.mono (by simp; omega))
  clear hb1
  go_wp2_with fail
  have b3 : Below w1.heap.size w1 (((w1.alloc (.cells #[.string ⟨#[120]⟩] 9)).alloc (.cells #[.string ⟨#[120]⟩] 9)).alloc (.cells #[.int .i64 0, .int .i64 0, .slice (some ⟨w1.heap.size, 0, none⟩) 1 1, .slice none 0 0, .int .i64 3, .int .i64 2, .slice none 0 0, .slice (some ⟨w1.heap.size + 1, 0, none⟩) 1 1] 46)) := (below2 _ _ _).alloc (by simp; omega) _
  refine (sameHunks_any _ _ _ _ _ (HH.out.below b3) (lit_hunks w1) (by rw [differs_plain]; decide) true ⟨fun _ => differs_plain, fun _ => rfl⟩).mono ?_
  rintro e w2 ⟨rfl, hb2⟩
  have hz := hbl.size
  have hz3 := b3.size
  have hfin : Below w.heap.size w w2 := (hbl.trans (b3.mono hz)).trans (hb2.mono (by omega))
  clear b3 hb2
  go_wp2_with fail
  go_ret
  exact ⟨rfl, hfin⟩
end Go.Proofs.YtinpgnekjebipaaDoor
