/- Plain: numerals without zeros ahead. -/
import Derived.Test.YtinpgnekjebipaaDoorDecP
set_option linter.unusedVariables false
namespace Go.Pw
open Go.RowKit
theorem dec_ok (u : Nat) : DigL (Lib.decDigits u) ∧ valL (Lib.decDigits u) = u ∧ (0 < u → Canon (Lib.decDigits u)) ∧ Lib.decDigits u ≠ [] := by
  induction u using Nat.strongRecOn with
  | _ u ih =>
    by_cases h : u < 10
    · rw [Lib.decDigits_one h]
      have hv : (UInt8.ofNat (48 + u)).toNat = 48 + u := by simp; omega
      have hd : DigL [UInt8.ofNat (48 + u)] := by
        intro c hc
        obtain rfl := List.mem_singleton.1 hc
        omega
      refine ⟨hd, ?_, fun h0 => ⟨hd, fun _ => ?_⟩, by simp⟩
      · simp [valL]; omega
      · intro e
        have := congrArg UInt8.toNat e
        rw [List.getElem_cons_zero, hv] at this
        simp at this; omega
    · obtain ⟨h1, h2, h3, h4⟩ := ih (u / 10) (by omega)
      rw [Lib.decDigits, dif_neg h]
      have hv : (UInt8.ofNat (48 + u % 10)).toNat = 48 + u % 10 := by simp; omega
      have hd : DigL (Lib.decDigits (u / 10) ++ [UInt8.ofNat (48 + u % 10)]) := by
        intro c hc
        rcases List.mem_append.1 hc with hc | hc
        · exact h1 c hc
        · obtain rfl := List.mem_singleton.1 hc
          omega
      refine ⟨hd, ?_, fun h0 => ⟨hd, fun hl => ?_⟩, by simp⟩
      · rw [valL_append, h2]
        simp [valL]; omega
      · have hc := h3 (by omega)
        have hpos : 0 < (Lib.decDigits (u / 10)).length := List.length_pos_iff.2 h4
        rw [List.getElem_append_left hpos]
        exact hc.2 hpos
/-- leading zeros and blanks are taken away, but one byte stays -/
def stripZ : List UInt8 → List UInt8
  | [] => []
  | [c] => [c]
  | c :: d :: r => if c = 48 ∨ c = 32 then stripZ (d :: r) else c :: d :: r
theorem stripZ_go {c : UInt8} {l : List UInt8} (hl : l ≠ []) (h : c = 48 ∨ c = 32) : stripZ (c :: l) = stripZ l := by
  cases l with
  | nil => exact absurd rfl hl
  | cons d r => rw [stripZ, if_pos h]
theorem stripZ_stop {c : UInt8} {l : List UInt8} (h : ¬ (c = 48 ∨ c = 32)) : stripZ (c :: l) = c :: l := by
  cases l with
  | nil => rfl
  | cons d r => rw [stripZ, if_neg h]
theorem stripZ_dig : ∀ l : List UInt8, DigL l → l ≠ [] → stripZ l = Lib.decDigits (valL l)
  | [], _, h => absurd rfl h
  | [c], hd, _ => by
    have hc := hd c (by simp)
    have e : valL [c] = c.toNat - 48 := by simp [valL]
    rw [e, Lib.decDigits_one (by omega)]
    show [c] = _
    congr 1
    apply UInt8.toNat_inj.1
    simp; omega
  | c :: d :: r, hd, _ => by
    have hd2 : DigL (d :: r) := fun x hx => hd x (List.mem_cons_of_mem _ hx)
    have hc := hd c (by simp)
    by_cases h : c = 48
    · rw [stripZ_go (by simp) (.inl h), stripZ_dig (d :: r) hd2 (by simp)]
      congr 1
      subst h
      have e0 : (48 : UInt8).toNat - 48 = 0 := rfl
      rw [valL.eq_2 48, e0, Nat.zero_mul, Nat.zero_add]
    · have h32 : ¬ c = 32 := fun e => by subst e; simp at hc
      rw [stripZ_stop (by simp [h, h32])]
      have hca : Canon (c :: d :: r) := ⟨hd, fun _ e => h e⟩
      have hge := valL_ge hca (by simp)
      have hp := Nat.one_le_pow ((c :: d :: r).length - 1) 10 (by decide)
      obtain ⟨a1, a2, a3, a4⟩ := dec_ok (valL (c :: d :: r))
      exact canon_inj hca (a3 (by omega)) a2.symm
end Go.Pw
