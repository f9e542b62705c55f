/- The reference's bytewise. -/
import Derived.Test.YtinpgnekjebipaaDoorTextW
import Derived.Test.YtinpgnekjebipaaDoorRowB
import Derived.Deep.OwnRows
import Derived.Deep.QuietTactic
import Derived.BigQuiet
set_option linter.unusedVariables false
set_option linter.unusedSimpArgs false
namespace Go.Pw
open Go.RowKit
theorem cb_drop {a b : ByteArray} {k : Nat} (ha : k < a.size) (hb : k < b.size) : Lib.compareBytes (a.data.toList.drop k) (b.data.toList.drop k) = if a[k].toNat < b[k].toNat then -1 else if b[k].toNat < a[k].toNat then 1 else Lib.compareBytes (a.data.toList.drop (k + 1)) (b.data.toList.drop (k + 1)) := by
  rw [drop_byte a k ha, drop_byte b k hb, Lib.compareBytes]
  simp only [UInt8.lt_iff_toNat_lt]
theorem cb_long {a b : ByteArray} {k : Nat} (ha : k < a.size) (hb : b.size ≤ k) : Lib.compareBytes (a.data.toList.drop k) (b.data.toList.drop k) = 1 := by
  rw [drop_byte a k ha, List.drop_of_length_le (l := b.data.toList) (by rw [len_size]; exact hb)]; rfl
theorem cb_short {a b : ByteArray} (h : a.size < b.size) : Lib.compareBytes (a.data.toList.drop a.size) (b.data.toList.drop a.size) = -1 := by
  rw [drop_byte b _ h, List.drop_of_length_le (l := a.data.toList) (by rw [len_size]; exact Nat.le_refl _)]; rfl
theorem cb_even {a b : ByteArray} (h : b.size ≤ a.size) : Lib.compareBytes (a.data.toList.drop a.size) (b.data.toList.drop a.size) = 0 := by
  rw [List.drop_of_length_le (l := a.data.toList) (by rw [len_size]; exact Nat.le_refl _), List.drop_of_length_le (l := b.data.toList) (by rw [len_size]; exact h)]; rfl
theorem rowB_made (w : World) (n : Nat) (t : TypeId) : RowB (w.alloc (.cells (madeCells #[.int .u8 0] n) t)) w.heap.size (List.replicate n 0) := by
  have h := World.rowIs_made w (.int .u8 0) n t
  refine ⟨by simp, fun j c hj => ?_⟩
  have hjn : j < n := by
    have := (List.getElem?_eq_some_iff.1 hj).1
    simpa using this
  have hc : c = 0 := by
    have := (List.getElem?_eq_some_iff.1 hj).2
    simpa using this.symm
  subst hc
  exact ⟨h.cell hjn, h.frozen j⟩
end Go.Pw
namespace Go.Proofs.YtinpgnekjebipaaDoor
open Go.RowKit Go.Pw
set_option maxHeartbeats 1000000 in
theorem bytewise_any (a b : ByteArray) (w : World) (ha : a.size ≤ 9223372036854775807) (hb : b.size ≤ 9223372036854775807) : Calls Tryd.prog 97 #[.string a, .string b] w fun e w' => e = .returned (.int .i64 (Lib.compareBytes a.data.toList b.data.toList)) ∧ Below w.heap.size w w' := by
  go_enter Tryd.func97, Tryd.ntmps97
  go_wp2_with fail
  go_loopw [8] (fun i wr => ∃ k : Nat, k ≤ a.size ∧ i = .int .i64 (k : Int) ∧ Hid (Lib.compareBytes a.data.toList b.data.toList = Lib.compareBytes (a.data.toList.drop k) (b.data.toList.drop k)) ∧ Below w.heap.size w wr) (fun i _ => a.size - (intOf i).toNat)
  case atStart => exact ⟨0, by omega, rfl, hide (by simp), Below.refl _ _⟩
  case round =>
    obtain ⟨k, hk, rfl, HK, hbw⟩ := hrel
    by_cases hlt : k < a.size
    · by_cases hlb : k < b.size
      · have HC := hide (cb_drop hlt hlb)
        obtain ⟨x, hx⟩ : ∃ x, a[k] = x := ⟨_, rfl⟩
        obtain ⟨y, hy⟩ : ∃ y, b[k] = y := ⟨_, rfl⟩
        rw [hx, hy] at HC
        rcases Nat.lt_trichotomy x.toNat y.toNat with h | h | h
        · have HV := hide (HK.out.trans (HC.out.trans (if_pos h)))
          have h1 : ((a[k].toNat : Int) != (b[k].toNat : Int)) = true := by rw [hx, hy]; simp; omega
          have h2 : decide (a[k].toNat < b[k].toNat) = true := by rw [hx, hy]; simpa using h
          clear hx hy h
          go_wp2_with fail
          go_quiet (fail)
          go_wp2_with fail
          go_quiet (fail)
          go_wp2_with fail
          go_ret
          exact ⟨by rw [HV.out]; rfl, below_drewN (below_drewN hbw _) _⟩
        · have HV := hide (HK.out.trans (HC.out.trans ((if_neg (by omega)).trans (if_neg (by omega)))))
          have h1 : ((a[k].toNat : Int) != (b[k].toNat : Int)) = false := by rw [hx, hy]; simp; omega
          clear hx hy h
          go_wp2_with fail
          go_quiet (fail)
          go_wp2_with fail
          go_roundw
          case rel => exact ⟨k + 1, by omega, by go_num, HV, below_drewN hbw _⟩
          case measure => simp [intOf]; omega
        · have HV := hide (HK.out.trans (HC.out.trans ((if_neg (by omega)).trans (if_pos h))))
          have h1 : ((a[k].toNat : Int) != (b[k].toNat : Int)) = true := by rw [hx, hy]; simp; omega
          have h2 : decide (a[k].toNat < b[k].toNat) = false := by rw [hx, hy]; simp; omega
          clear hx hy h
          go_wp2_with fail
          go_quiet (fail)
          go_wp2_with fail
          go_quiet (fail)
          go_wp2_with fail
          go_ret
          exact ⟨by rw [HV.out]; rfl, below_drewN (below_drewN hbw _) _⟩
      · have HV := hide (HK.out.trans (cb_long hlt (by omega)))
        have hge : b.size ≤ k := by omega
        go_wp2_with fail
        go_ret
        exact ⟨by rw [HV.out]; rfl, hbw⟩
    · obtain rfl : k = a.size := by omega
      by_cases hs : a.size < b.size
      · have HV := hide (HK.out.trans (cb_short hs))
        go_wp2_with fail
        go_ret
        exact ⟨by rw [HV.out]; rfl, hbw⟩
      · have HV := hide (HK.out.trans (cb_even (by omega)))
        go_wp2_with fail
        go_ret
        exact ⟨by rw [HV.out]; rfl, hbw⟩
end Go.Proofs.YtinpgnekjebipaaDoor
