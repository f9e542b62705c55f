/- The head of a group of hunks: numeral, partOf, headOf. -/
import Derived.Test.YtinpgnekjebipaaDoorUrH
import Derived.Test.YtinpgnekjebipaaDoorSplW
import Derived.Test.YtinpgnekjebipaaDoorItoa
import Derived.Test.YtinpgnekjebipaaDoorShelf2
import Derived.Lib.IfaceEq
import Derived.Lib.SmallJoins
import Derived.Lib.ConvBytes
import Derived.Deep.QuietTactic
import Derived.BigQuiet
import Derived.BigRegion
set_option linter.unusedSimpArgs false
set_option linter.unusedVariables false
namespace Go.Pw
open Go.RowKit
def ErrV (g : Nat) (w : World) : Prop := ∃ ev, w.cell? ⟨g, 0, none⟩ = some ev ∧ (ev = .nilIface ∨ ∃ te pe, ev = .iface te pe)
theorem ErrV.below {g : Nat} {w w' : World} (h : ErrV g w) (hb : Below w.heap.size w w') : ErrV g w' := by
  obtain ⟨ev, h1, h2⟩ := h
  exact ⟨ev, (hb.cell (p := ⟨g, 0, none⟩) (World.block_lt_of_cell? w ⟨g, 0, none⟩ h1)).trans h1, h2⟩
theorem atoi_in {l : List UInt8} {v : Int} (h : Lib.atoiAll l = .ok v) : inI64 v := by
  unfold Lib.atoiAll at h
  split at h
  · cases h
  · simp only at h
    split at h
    · cases h
    · cases h
    · split at h
      · cases h
      · split at h
        · cases h
        · injection h with h
          unfold inI64
          split at h <;> omega
theorem num_iff {l : List UInt8} {v : Int} (h : Lib.atoiAll l = .ok v) : (∃ k : Nat, v = (k : Int) ∧ Num l k) ↔ (l.length ≤ 6 ∧ 0 ≤ v ∧ Lib.itoa v = l) := by
  constructor
  · rintro ⟨k, rfl, hk⟩
    exact ⟨hk.1, by omega, by rw [Lib.itoa_nonneg]; exact hk.2.symm⟩
  · rintro ⟨h1, h2, h3⟩
    exact ⟨v.toNat, by omega, num_of_atoi h h1 h2 h3⟩
end Go.Pw
namespace Go.Proofs.YtinpgnekjebipaaDoor
open Go.RowKit Go.Pw
/-- both of strconv's errors lie in their variables, and the table of powers is as laid -/
def ErrT (w : World) : Prop := ErrV 6 w ∧ ErrV 7 w
theorem ErrT.below {w w' : World} (h : ErrT w) (hb : Below w.heap.size w w') : ErrT w' := ⟨h.1.below hb, h.2.below hb⟩
/-- what a numeral is read as -/
def NumR (s : ByteArray) (n : Int) (ok : Bool) : Prop := inI64 n ∧ ((ok = true ∧ ∃ k : Nat, n = (k : Int) ∧ Num s.data.toList k) ∨ (ok = false ∧ ∀ k, ¬ Num s.data.toList k))
set_option maxHeartbeats 4000000 in
set_option maxRecDepth 100000 in
theorem numeral_any (s : ByteArray) (w : World) (hs : s.size ≤ 100000) (hP : PowTab w) (hE : ErrT w) :
    Calls Tryd.prog 86 #[.string s] w fun e w' => ∃ n ok, e = .returned (.tuple #[.int .i64 n, .bool ok]) ∧ NumR s n ok ∧ Below w.heap.size w w' := by
  have bad : (∀ v, Lib.atoiAll s.data.toList ≠ .ok v) → ∀ k, ¬ Num s.data.toList k := fun h k hk => h _ (atoi_num hk)
  have badc : (∃ n, inI64 n ∧ (∀ k, ¬ Num s.data.toList k) ∧ Calls Tryd.prog 103 #[.string s] w fun e w' => ∃ x y, e = .returned (.tuple #[.int .i64 n, .iface x y]) ∧ Below w.heap.size w w') → Calls Tryd.prog 86 #[.string s] w fun e w' => ∃ n ok, e = .returned (.tuple #[.int .i64 n, .bool ok]) ∧ NumR s n ok ∧ Below w.heap.size w w' := by
    rintro ⟨n, h1, h2, h3⟩
    have H1 := hide h1
    have H2 := hide h2
    have H3 := hide h3
    clear h1 h2 h3 bad
    go_enter Tryd.func86, Tryd.ntmps86
    go_wp2_with fail
    refine H3.out.mono ?_
    rintro e w1 ⟨x, y, rfl, hb⟩
    go_wp2_with fail
    go_ret2
    exact ⟨n, false, rfl, ⟨H1.out, .inr ⟨rfl, H2.out⟩⟩, hb⟩
  rcases h : Lib.atoiAll s.data.toList with v | _ | _
  rotate_left
  · obtain ⟨ev, hv, hev⟩ := hE.1
    refine badc ⟨0, ⟨by omega, by omega⟩, bad (fun v e => by rw [h] at e; cases e), ((Tryd.strconv_Atoi_bad s (by omega) h ev w hv hev).mono fun e w' ⟨N, h1, _, _, h4⟩ => ⟨_, _, h1, h4⟩)⟩
  · obtain ⟨ev, hv, hev⟩ := hE.2
    refine badc ⟨Lib.atoiSat s.data.toList, by unfold inI64 Lib.atoiSat; split <;> omega, bad (fun v e => by rw [h] at e; cases e), ((Tryd.strconv_Atoi_range s (by omega) h ev w hv hev).mono fun e w' ⟨N, h1, _, _, h4⟩ => ⟨_, _, h1, h4⟩)⟩
  · have hin := atoi_in h
    have hiff := num_iff h
    have HA : Hid (Calls Tryd.prog 103 #[.string s] w fun e w' => e = .returned (.tuple #[.int .i64 v, .nilIface]) ∧ Below w.heap.size w w') := hide ((Tryd.strconv_Atoi_ok s (by omega) v h w).mono fun e w' ⟨h1, h2⟩ => ⟨h1, by
      rcases h2 with h2 | ⟨t, h2⟩
      · subst h2; exact Below.refl _ _
      · subst h2; exact ⟨rfl, rfl, rfl, by rw [Lib.bytesWorld_size]; omega, fun k hk => Lib.bytesWorld_at_old _ _ _ k (by omega)⟩⟩)
    have HIN := hide hin
    have only : ∀ k : Nat, Num s.data.toList k → v = (k : Int) := fun k hk => by
      have := atoi_num hk
      rw [h] at this
      injection this
    obtain ⟨hin1, hin2⟩ := hin
    have HIF := hide hiff
    have HON := hide only
    rw [len_size] at hiff
    have hif2 := hide hiff
    clear h bad badc hiff only
    by_cases h6 : s.size ≤ 6
    · have g6 : decide ((s.size : Int) ≤ 6) = true := by simp; omega
      have g6' : (s.size : Int) ≤ 6 := by omega
      by_cases h0 : 0 ≤ v
      · have g0 : decide (0 ≤ v) = true := by simpa using h0
        obtain ⟨t, ht⟩ : ∃ t : ByteArray, (⟨(Lib.itoa v).toArray⟩ : ByteArray) = t := ⟨_, rfl⟩
        have htl : t.data.toList = Lib.itoa v := by rw [← ht]
        have HI : Hid (∀ W, Below w.heap.size w W → Calls Tryd.prog 104 #[.int .i64 v] W fun e w' => e = .returned (.string t) ∧ Below W.heap.size W w') := hide (fun W hb => by
          have := itoa_any v W hin1 hin2 (hP.below hb)
          rw [ht] at this; exact this)
        have HTL := hide htl
        clear ht htl
        by_cases he : t = s
        case' pos => have ge : (t.toList == s.toList) = true := by rw [he]; simp
        case' neg => have ge : (t.toList == s.toList) = false := by
                      cases hq : (t.toList == s.toList)
                      · rfl
                      · exact absurd (bytes_eq hq) he
        all_goals
          have HE2 := hide he
          clear he
          go_enter Tryd.func86, Tryd.ntmps86
          go_wp2_with fail
          refine HA.out.mono ?_
          rintro e w1 ⟨rfl, hb⟩
          have hb' := hide hb
          clear hb
          go_wp2_with fail
          refine (HI.out _ hb'.out).mono ?_
          rintro e w2 ⟨rfl, hb2⟩
          have hb3 := hide (hb'.out.trans (hb2.mono hb'.out.size))
          clear hb2
          go_wp2_with fail
          go_ret2
        · refine ⟨v, false, rfl, ⟨HIN.out, .inr ⟨rfl, fun k hk => ?_⟩⟩, hb3.out⟩
          have := (hif2.out.1 ⟨k, HON.out k hk, hk⟩).2.2
          rw [← HTL.out] at this
          exact HE2.out (by rw [← mkB_list t, this, mkB_list])
        · exact ⟨v, true, rfl, ⟨HIN.out, .inl ⟨rfl, hif2.out.2 ⟨h6, h0, by rw [← HTL.out, HE2.out]⟩⟩⟩, hb3.out⟩
      · have g0 : decide (0 ≤ v) = false := by simpa using h0
        have H0 := hide h0
        go_enter Tryd.func86, Tryd.ntmps86
        go_wp2_with fail
        refine HA.out.mono ?_
        rintro e w1 ⟨rfl, hb⟩
        go_wp2_with fail
        go_ret2
        exact ⟨v, false, rfl, ⟨HIN.out, .inr ⟨rfl, fun k hk => by have h1 := H0.out; have h2 := (hif2.out.1 ⟨k, HON.out k hk, hk⟩).2.1; omega⟩⟩, hb⟩
    · have g6 : decide ((s.size : Int) ≤ 6) = false := by simp; omega
      have g6' : ¬ (s.size : Int) ≤ 6 := by omega
      have H6 := hide h6
      go_enter Tryd.func86, Tryd.ntmps86
      go_wp2_with fail
      refine HA.out.mono ?_
      rintro e w1 ⟨rfl, hb⟩
      go_wp2_with fail
      go_ret2
      exact ⟨v, false, rfl, ⟨HIN.out, .inr ⟨rfl, fun k hk => by have h1 := H6.out; have h2 := (hif2.out.1 ⟨k, HON.out k hk, hk⟩).1; omega⟩⟩, hb⟩
end Go.Proofs.YtinpgnekjebipaaDoor
