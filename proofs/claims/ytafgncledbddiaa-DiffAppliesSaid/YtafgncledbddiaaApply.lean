import Derived.Test.YtafgncledbddiaaBack
import Derived.Test.YtafgncledbddiaaSigned
import Derived.Test.YtafgncledbddiaaDiffers
set_option linter.unusedSimpArgs false
set_option linter.unusedVariables false
namespace Go.Proofs.Ytafgncledbddiaa
open Go.RowKit Go.Pw

theorem strsL_one (w : World) (va : Value) (a : List ByteArray) (t : TypeId) (ha : Strs w va a) : StrsL (w.alloc (.cells #[va] t)) (.slice (some ⟨w.heap.size, 0, none⟩) 1 1) [a] := by
  refine ⟨[va], rfl, ⟨by simp, _, 1, rfl, Nat.le_refl _, by unfold maxLen; omega, fun _ => ⟨w.heap.size, 0, rfl, by simp, fun j u hu => ?_⟩⟩, ?_⟩
  · rw [World.cell?_alloc_new]
    simpa using hu
  · intro i u l hu hl
    match i, hu, hl with
    | 0, hu, hl => simp at hu hl; subst hu hl; exact ha.alloc _
    | j + 1, hu, _ => simp at hu
theorem lists_one (a : List ByteArray) : listsErr [a] = listErr a := by
  unfold listsErr
  simp only [List.map_cons, List.map_nil, firstNZ]
  split
  · rename_i h; exact h.symm
  · rfl
/-- the error of Apply -/
def applyErr (a : List ByteArray) (hs : List Hk) : Int := firstNZ [listErr a, hunkErr (some a) true hs]
theorem applyErr_eq (a : List ByteArray) (hs : List Hk) : applyErr a hs = if listErr a = 0 then hunkErr (some a) true hs else listErr a := by
  unfold applyErr
  simp only [firstNZ]
  by_cases h : listErr a = 0
  · rw [if_pos h, if_pos h]; split
    · rename_i h2; exact h2.symm
    · rfl
  · rw [if_neg h, if_neg h]

set_option maxHeartbeats 2000000 in
theorem Apply_bad (va v : Value) (a : List ByteArray) (hs : List Hk) (w : World) (ha : Strs w va a) (h : Hunks w v hs) (hlen : hs.length ≤ 4398046511104) (he : ¬ applyErr a hs = 0) :
    Calls Try.prog 28 #[va, v] w fun e w' => e = .returned (.tuple #[.slice none 0 0, .int .i64 (applyErr a hs)]) ∧ Below w.heap.size w w' := by
  have HA := hide ha
  have HH := hide h
  obtain ⟨⟨_, A, ca, rfl, _⟩, _⟩ := ha
  obtain ⟨_, _, ⟨_, B, cb, rfl, _⟩, _⟩ := h
  have bb := (Below.refl w.heap.size w).alloc (Nat.le_refl _) (.cells #[.slice A a.length ca] 22)
  by_cases hl : listErr a = 0
  · have HE : Hid (applyErr a hs = hunkErr (some a) true hs) := by show _ = _; rw [applyErr_eq, if_pos hl]
    have hn : (hunkErr (some a) true hs != 0) = true := by rw [← HE.out]; simpa using he
    have hle := listErr_len hl
    have HL := hide ((lists_one a).trans hl)
    obtain ⟨E, hE⟩ : ∃ E, hunkErr (some a) true hs = E := ⟨_, rfl⟩
    rw [hE] at hn HE
    have HEE := hide hE
    clear hl he hE
    go_enter Try.func28, Try.ntmps28
    go_wp2_with fail
    refine (listed_any _ [a] _ (strsL_one w _ a _ HA.out)).mono ?_
    rintro e w1 ⟨rfl, rfl⟩
    rw [HL.out]
    go_wp2_with fail
    refine (of_any _ _ a hs _ (HA.out.below bb) hle (HH.out.below bb) hlen).mono ?_
    rintro e w2 ⟨rfl, hb2⟩
    rw [HEE.out]
    have hb3 := bb.trans (hb2.mono (by simp))
    go_wp2_with fail
    go_ret2
    exact ⟨by rw [HE.out]; rfl, hb3⟩
  · have HE : Hid (applyErr a hs = listErr a) := by show _ = _; rw [applyErr_eq, if_neg hl]
    have hn : (listErr a != 0) = true := by simpa using hl
    have HL := hide (lists_one a)
    obtain ⟨E, hE⟩ : ∃ E, listErr a = E := ⟨_, rfl⟩
    rw [hE] at hn HE HL
    clear hl he hE
    go_enter Try.func28, Try.ntmps28
    go_wp2_with fail
    refine (listed_any _ [a] _ (strsL_one w _ a _ HA.out)).mono ?_
    rintro e w1 ⟨rfl, rfl⟩
    rw [HL.out]
    go_wp2_with fail
    go_ret2
    exact ⟨by rw [HE.out]; rfl, bb⟩
set_option maxHeartbeats 2000000 in
theorem Apply_good (va v : Value) (a : List ByteArray) (hs : List Hk) (w : World) (ha : Strs w va a) (h : Hunks w v hs) (hlen : hs.length ≤ 4398046511104) (he : applyErr a hs = 0) :
    Calls Try.prog 28 #[va, v] w fun e w' => ∃ A n c, e = .returned (.tuple #[.slice A n c, .int .i64 0]) ∧ Strs w' (.slice A n c) (applied a hs 0) ∧ Below w.heap.size w w' := by
  have HA := hide ha
  have HH := hide h
  obtain ⟨⟨_, A, ca, rfl, _⟩, _⟩ := ha
  obtain ⟨_, _, ⟨_, B, cb, rfl, _⟩, _⟩ := h
  have bb := (Below.refl w.heap.size w).alloc (Nat.le_refl _) (.cells #[.slice A a.length ca] 22)
  have hl : listErr a = 0 := by
    rw [applyErr_eq] at he
    by_cases e : listErr a = 0
    · exact e
    · rw [if_neg e] at he; exact he
  have hE : hunkErr (some a) true hs = 0 := by rw [applyErr_eq, if_pos hl] at he; exact he
  have hle := listErr_len hl
  have HL := hide ((lists_one a).trans hl)
  obtain ⟨hgd, hap⟩ := some_good hE
  have HGD := hide hgd
  have HEE := hide hE
  clear hl he hE hgd
  go_enter Try.func28, Try.ntmps28
  go_wp2_with fail
  refine (listed_any _ [a] _ (strsL_one w _ a _ HA.out)).mono ?_
  rintro e w1 ⟨rfl, rfl⟩
  rw [HL.out]
  go_wp2_with fail
  refine (of_any _ _ a hs _ (HA.out.below bb) hle (HH.out.below bb) hlen).mono ?_
  rintro e w2 ⟨rfl, hb2⟩
  rw [HEE.out]
  have hb3 := bb.trans (hb2.mono (by simp))
  go_wp2_with fail
  refine (replaced_any _ _ a hs _ (HA.out.below hb3) (HH.out.below hb3) HGD.out hap hlen hle).mono ?_
  rintro e w4 ⟨v', rfl, hs4, hb4⟩
  have hb5 := hb3.trans (hb4.mono hb3.size)
  obtain ⟨A', n', c', e4⟩ := strs_form hs4
  subst e4
  have HS4 := hide hs4
  clear hs4
  go_wp2_with fail
  go_ret2
  exact ⟨A', n', c', rfl, HS4.out, hb5⟩
theorem Turn_bad (v : Value) (hs : List Hk) (w : World) (h : Hunks w v hs) (h0 : ¬ hunkErr none true hs = 0) :
    Calls Try.prog 30 #[v] w fun e w' => e = .returned (.tuple #[.slice none 0 0, .int .i64 (hunkErr none true hs)]) ∧ Below w.heap.size w w' := by
  have HH := hide h
  obtain ⟨_, _, ⟨_, B, cb, rfl, _⟩, _⟩ := h
  obtain ⟨E, hE⟩ : ∃ E, hunkErr none true hs = E := ⟨_, rfl⟩
  rw [hE] at h0 ⊢
  have h0' : (E != 0) = true := by simpa using h0
  have HE := hide hE
  clear h0 hE
  go_enter Try.func30, Try.ntmps30
  go_wp2_with fail
  refine (turnable_any _ hs true _ HH.out).mono ?_
  rintro e wt ⟨rfl, hbt⟩
  rw [HE.out]
  go_wp2_with fail
  go_ret2
  exact ⟨rfl, hbt⟩
end Go.Proofs.Ytafgncledbddiaa
