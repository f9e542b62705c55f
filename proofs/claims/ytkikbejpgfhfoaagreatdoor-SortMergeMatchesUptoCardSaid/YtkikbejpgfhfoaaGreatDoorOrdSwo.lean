/- Plain: an order of lines is a total order of classes. -/
import Derived.Test.YtkikbejpgfhfoaaGreatDoorKeys
import Derived.Test.YtkikbejpgfhfoaaGreatDoorStabU
import Derived.Test.YtkikbejpgfhfoaaGreatDoorCommP
set_option linter.unusedVariables false
namespace Go.Pw
/-- a comparison: less, equal or more -/
structure Cmp3 {α : Type} (f : α → α → Int) : Prop where
  flip : ∀ x y, f x y = -f y x
  trans : ∀ x y z, f x y ≤ 0 → f y z ≤ 0 → f x z ≤ 0
section
variable {α β : Type} {f g : α → α → Int}
theorem Cmp3.comap (h : Cmp3 f) (k : β → α) : Cmp3 (fun x y => f (k x) (k y)) := ⟨fun _ _ => h.flip _ _, fun _ _ _ => h.trans _ _ _⟩
theorem Cmp3.neg (h : Cmp3 f) : Cmp3 (fun x y => -f x y) := ⟨fun x y => by have := h.flip x y; show -f x y = - -f y x; omega, fun x y z h1 h2 => by
  have a := h.flip x y
  have b := h.flip y z
  have c := h.flip x z
  have := h.trans z y x (by omega) (by omega)
  show -f x z ≤ 0
  omega⟩
theorem Cmp3.zero : Cmp3 (fun (_ _ : α) => (0 : Int)) := ⟨fun _ _ => rfl, fun _ _ _ _ _ => Int.le_refl _⟩
theorem Cmp3.lex (h : Cmp3 f) (k : Cmp3 g) : Cmp3 (fun x y => if f x y = 0 then g x y else f x y) := by
  refine ⟨fun x y => ?_, fun x y z h1 h2 => ?_⟩
  · have a := h.flip x y
    have b := k.flip x y
    show (if f x y = 0 then g x y else f x y) = -(if f y x = 0 then g y x else f y x)
    split <;> split <;> omega
  · have a := h.flip x y
    have b := h.flip y z
    have c := h.flip x z
    have t1 := h.trans x y z
    have t2 := h.trans z x y
    have t3 := h.trans y z x
    have u1 := k.trans x y z
    show (if f x z = 0 then g x z else f x z) ≤ 0
    split at h1 <;> split at h2 <;> split <;> omega
end
theorem ci_cmp3 : Cmp3 Lib.compareInt := by
  refine ⟨fun x y => ?_, fun x y z h1 h2 => ?_⟩
  · unfold Lib.compareInt; split <;> (try split) <;> (try split) <;> (try split) <;> omega
  · unfold Lib.compareInt at *
    split <;> (try split) <;> (try split at h1) <;> (try split at h1) <;> (try split at h2) <;> (try split at h2) <;> omega
theorem cb_trans : ∀ (a b c : List UInt8), Lib.compareBytes a b ≤ 0 → Lib.compareBytes b c ≤ 0 → Lib.compareBytes a c ≤ 0
  | [], [], [], _, _ => by decide
  | [], _, _ :: _, _, _ => by simp [Lib.compareBytes]
  | [], _ :: _, [], _, h => by simp [Lib.compareBytes] at h
  | _ :: _, [], _, h, _ => by simp [Lib.compareBytes] at h
  | _ :: _, _ :: _, [], _, h => by simp [Lib.compareBytes] at h
  | a :: x, b :: y, c :: z, h1, h2 => by
    rw [Lib.compareBytes] at h1 h2 ⊢
    by_cases ab : a < b
    · by_cases bc : b < c
      · rw [if_pos (UInt8.lt_trans ab bc)]; decide
      · rw [if_neg bc] at h2
        by_cases cb : c < b
        · rw [if_pos cb] at h2; exact absurd h2 (by decide)
        · have e : b = c := UInt8.le_antisymm (by simpa using cb) (by simpa using bc)
          subst e
          rw [if_pos ab]; decide
    · rw [if_neg ab] at h1
      by_cases ba : b < a
      · rw [if_pos ba] at h1; exact absurd h1 (by decide)
      · have e : a = b := UInt8.le_antisymm (by simpa using ba) (by simpa using ab)
        subst e
        rw [if_neg ab] at h1
        by_cases bc : a < c
        · rw [if_pos bc]; decide
        · rw [if_neg bc] at h2 ⊢
          by_cases cb : c < a
          · rw [if_pos cb] at h2; exact absurd h2 (by decide)
          · rw [if_neg cb] at h2 ⊢
            exact cb_trans x y z h1 h2
theorem cb_cmp3 : Cmp3 Lib.compareBytes := ⟨cb_flip, cb_trans⟩
theorem num3_cmp3 : Cmp3 (fun (a b : Nm) => firstNZ [Lib.compareInt a.whole.length b.whole.length, Lib.compareBytes a.whole b.whole, Lib.compareBytes a.part b.part]) := by
  have h := ((ci_cmp3.comap fun (a : Nm) => (a.whole.length : Int)).lex ((cb_cmp3.comap fun (a : Nm) => a.whole).lex ((cb_cmp3.comap fun (a : Nm) => a.part).lex Cmp3.zero)))
  exact h
theorem cmpNum_cmp3 : Cmp3 cmpNum := by
  have h := num3_cmp3
  refine ⟨fun x y => ?_, fun x y z h1 h2 => ?_⟩
  · have a := h.flip x y
    unfold cmpNum
    cases hx : x.neg <;> cases hy : y.neg <;> simp <;> omega
  · have t1 := h.trans x y z
    have t2 := h.neg.trans x y z
    unfold cmpNum at h1 h2 ⊢
    cases hx : x.neg <;> cases hy : y.neg <;> cases hz : z.neg <;> simp [hx, hy, hz] at h1 h2 ⊢ <;> omega
theorem rawCmp_cmp3 (k : Ky) : Cmp3 (rawCmp k) := by
  unfold rawCmp
  cases k.numeric
  · cases k.fold
    · simpa using cb_cmp3.comap fun (x : ByteArray) => x.data.toList
    · simpa using cb_cmp3.comap fun (x : ByteArray) => x.data.toList.map upB
  · simpa using cmpNum_cmp3.comap fun (x : ByteArray) => numOf x.data.toList
theorem keyCmp_cmp3 (sep : ByteArray) (k : Ky) : Cmp3 (fun a b => keyCmp sep a b k) := by
  unfold keyCmp
  cases k.reverse
  · simpa using (rawCmp_cmp3 k).comap fun (a : ByteArray) => keyOf k a sep
  · simpa using ((rawCmp_cmp3 k).comap fun (a : ByteArray) => keyOf k a sep).neg
theorem keysCmp_cmp3 (sep : ByteArray) : ∀ ks : List Ky, Cmp3 (fun a b => firstNZ (ks.map (keyCmp sep a b)))
  | [] => Cmp3.zero
  | k :: ks => (keyCmp_cmp3 sep k).lex (keysCmp_cmp3 sep ks)
theorem wholeCmp_cmp3 (o : Sp) : Cmp3 (wholeCmp o) := by
  unfold wholeCmp
  cases o.reverse
  · simpa using cb_cmp3.comap fun (x : ByteArray) => x.data.toList
  · simpa using (cb_cmp3.comap fun (x : ByteArray) => x.data.toList).neg
theorem ordCmp_cmp3 (o : Sp) : Cmp3 (ordCmp o) := by
  have h1 : Cmp3 (keysCmp o) := keysCmp_cmp3 o.sep o.keys
  by_cases hc : o.keys ≠ [] ∧ (o.stable = true ∨ o.unique = true)
  · have e : ordCmp o = keysCmp o := by
      funext a b
      unfold ordCmp; rw [if_pos (.inr hc)]
    rw [e]; exact h1
  · have e : ordCmp o = fun a b => if keysCmp o a b = 0 then wholeCmp o a b else keysCmp o a b := by
      funext a b
      unfold ordCmp
      by_cases h0 : keysCmp o a b = 0
      · rw [if_neg (by rintro (h | h); exact h h0; exact hc h), if_pos h0]
      · rw [if_pos (.inl h0), if_neg h0]
    rw [e]; exact h1.lex (wholeCmp_cmp3 o)
theorem Cmp3.swo {f : ByteArray → ByteArray → Int} (h : Cmp3 f) : Swo (ltOf f) := by
  unfold ltOf
  refine ⟨fun x y hxy => ?_, fun x y z h1 h2 => ?_⟩
  · have := h.flip x y
    simp at hxy ⊢; omega
  · have a := h.flip x y
    have b := h.flip y z
    have c := h.flip x z
    have t := h.trans x y z
    simp at h1 h2 ⊢; omega
end Go.Pw
