/- Printf: strconv's ParseInt over what ParseUint answers. -/
import Derived.Test.YtifpmigghplmoaaGreatDoorZPrB
import Derived.Lib.IfaceNeq
/- PfI -/
set_option linter.unusedVariables false
set_option linter.unusedSimpArgs false
namespace Go.Proofs.YtifpmigghplmoaaGreatDoor
open Go.RowKit Go.Pw Go.Shelf
/-- what ParseInt returns: the number, or the range's error -/
def piR (ok : Prop) (x : Int) (e : Ending) : Prop := (ok ∧ e = .returned (.tuple #[.int .i64 x, .nilIface])) ∨ (¬ ok ∧ ∃ y : Int, e = .returned (.tuple #[.int .i64 y, .iface 172 (.int .i64 1)]))
set_option maxHeartbeats 8000000 in
set_option maxRecDepth 100000 in
theorem pi_pos (t : ByteArray) (b : Int) (w : World) (a : Int) (er : Value) (h0 : 0 < t.size) (h43 : ¬ t[0] = 43) (h45 : ¬ t[0] = 45)
    (H : ∀ W, Calls Tryz.prog 158 #[.string t, .int .i64 b, .int .i64 64] W fun e w' => e = .returned (.tuple #[.int .u64 a, er]) ∧ w' = Lib.bytesWorld W 5 t)
    (her : (er = .nilIface ∨ er = .iface 172 (.int .i64 1) ∧ ¬ a < 9223372036854775808)) (ha0 : 0 ≤ a) (ha1 : a ≤ 18446744073709551615) :
    Calls Tryz.prog 132 #[.string t, .int .i64 b, .int .i64 64] w fun e w' => piR (a < 9223372036854775808) a e ∧ Below w.heap.size w w' := by
  have HBB : Hid (Below w.heap.size w (Lib.bytesWorld w 5 t)) := hide ⟨rfl, rfl, rfl, by rw [Lib.bytesWorld_size]; omega, fun j hj => Lib.bytesWorld_at_old w _ _ j hj⟩
  have hemp : t.toList.isEmpty = false := by
    rw [Lib.toList_data]
    cases h : t.data.toList with
    | nil => have := len_size t; rw [h] at this; simp at this; omega
    | cons c r => rfl
  have f1 : ((t[0].toNat : Int) == 43) = false := by
    have : t[0].toNat ≠ 43 := fun e => h43 (UInt8.toNat_inj.1 e)
    simp; omega
  have f2 : ((t[0].toNat : Int) == 45) = false := by
    have : t[0].toNat ≠ 45 := fun e => h45 (UInt8.toNat_inj.1 e)
    simp; omega
  have i0 : (0 : Int) < (t.size : Int) := by omega
  have HH := hide H
  have hneq : ∀ W, (binOp .neq 79 (.iface 172 (.int .i64 1)) (.iface 172 (.int .i64 1))).run Tryz.prog W = .ok (.bool false) W := fun W => Lib.run_neq_iface_int W 1 1 Tryz.underlying79 (by kernel_rfl) Tryz.underlying172
  clear H h43 h45
  have g2 : IntKind.u64.wrap 9223372036854775808 = 9223372036854775808 := by decide
  by_cases hlt : a < 9223372036854775808
  · have g1 : ¬ (9223372036854775808 : Int) ≤ a := by omega
    have g3 : IntKind.i64.wrap a = a := IntWalk.i64_in a (by omega)
    have HG := hide hlt
    obtain rfl : er = .nilIface := by
      rcases her with h | h
      · exact h
      · exact absurd hlt h.2
    clear her
    go_enter Tryz.func132, Tryz.ntmps132
    go_wp2_with fail
    refine (HH.out _).mono ?_
    rintro e w' ⟨rfl, rfl⟩
    go_wp2_with fail
    go_ret2
    exact ⟨Or.inl (And.intro HG.out rfl), HBB.out⟩
  · have g1 : (9223372036854775808 : Int) ≤ a := by omega
    have HG := hide hlt
    clear hlt
    rcases her with rfl | ⟨rfl, -⟩
    all_goals
      go_enter Tryz.func132, Tryz.ntmps132
      go_wp2_with fail
      refine (HH.out _).mono ?_
      rintro e w' ⟨rfl, rfl⟩
      go_wp2_with fail
      go_ret2
      exact ⟨Or.inr (And.intro (Int.not_lt.2 HG.out) (Exists.intro _ rfl)), HBB.out⟩
end Go.Proofs.YtifpmigghplmoaaGreatDoor

/- PfJ -/
set_option linter.unusedVariables false
set_option linter.unusedSimpArgs false
namespace Go.Proofs.YtifpmigghplmoaaGreatDoor
open Go.RowKit Go.Pw Go.Shelf
set_option maxHeartbeats 8000000 in
set_option maxRecDepth 100000 in
theorem pi_neg (s t : ByteArray) (b : Int) (w : World) (a : Int) (er : Value) (h0 : 0 < s.size) (h45 : s[0] = 45) (hst : s.extract 1 s.size = t)
    (H : ∀ W, Calls Tryz.prog 158 #[.string t, .int .i64 b, .int .i64 64] W fun e w' => e = .returned (.tuple #[.int .u64 a, er]) ∧ w' = Lib.bytesWorld W 5 t)
    (her : (er = .nilIface ∨ er = .iface 172 (.int .i64 1) ∧ ¬ a ≤ 9223372036854775808)) (ha0 : 0 ≤ a) (ha1 : a ≤ 18446744073709551615) :
    Calls Tryz.prog 132 #[.string s, .int .i64 b, .int .i64 64] w fun e w' => piR (a ≤ 9223372036854775808) (-a) e ∧ Below w.heap.size w w' := by
  have HBB : Hid (Below w.heap.size w (Lib.bytesWorld w 5 t)) := hide ⟨rfl, rfl, rfl, by rw [Lib.bytesWorld_size]; omega, fun j hj => Lib.bytesWorld_at_old w _ _ j hj⟩
  have hemp : s.toList.isEmpty = false := by
    rw [Lib.toList_data]
    cases h : s.data.toList with
    | nil => have := len_size s; rw [h] at this; simp at this; omega
    | cons c r => rfl
  have f1 : ((s[0].toNat : Int) == 43) = false := by rw [h45]; rfl
  have f2 : ((s[0].toNat : Int) == 45) = true := by rw [h45]; rfl
  have i0 : (0 : Int) < (s.size : Int) := by omega
  have i1 : (1 : Int) ≤ (s.size : Int) := by omega
  subst hst
  have HH := hide H
  have hneq : ∀ W, (binOp .neq 79 (.iface 172 (.int .i64 1)) (.iface 172 (.int .i64 1))).run Tryz.prog W = .ok (.bool false) W := fun W => Lib.run_neq_iface_int W 1 1 Tryz.underlying79 (by kernel_rfl) Tryz.underlying172
  clear H h45
  have g2 : IntKind.u64.wrap 9223372036854775808 = 9223372036854775808 := by decide
  by_cases hlt : a ≤ 9223372036854775808
  · have g1 : ¬ (9223372036854775808 : Int) < a := by omega
    have HW3 : Hid (wrap64 (-wrap64 a) = -a) := hide (by unfold wrap64; omega)
    have HG := hide hlt
    obtain rfl : er = .nilIface := by
      rcases her with h | h
      · exact h
      · exact absurd hlt h.2
    clear her
    go_enter Tryz.func132, Tryz.ntmps132
    go_wp2_with fail
    refine (HH.out _).mono ?_
    rintro e w' ⟨rfl, rfl⟩
    go_wp2_with fail
    go_ret2
    refine ⟨Or.inl (And.intro HG.out ?_), HBB.out⟩
    show Ending.returned (.tuple #[Value.int .i64 (wrap64 (-wrap64 a)), .nilIface]) = _
    rw [HW3.out]
  · have g1 : (9223372036854775808 : Int) < a := by omega
    have HG := hide hlt
    clear hlt
    rcases her with rfl | ⟨rfl, -⟩
    all_goals
      go_enter Tryz.func132, Tryz.ntmps132
      go_wp2_with fail
      refine (HH.out _).mono ?_
      rintro e w' ⟨rfl, rfl⟩
      go_wp2_with fail
      go_ret2
      exact ⟨Or.inr (And.intro (Int.not_le.2 HG.out) (Exists.intro _ rfl)), HBB.out⟩
end Go.Proofs.YtifpmigghplmoaaGreatDoor

/- PfK -/
set_option linter.unusedVariables false
set_option linter.unusedSimpArgs false
namespace Go.Proofs.YtifpmigghplmoaaGreatDoor
open Go.RowKit Go.Pw Go.Shelf
/-- what the public ParseInt returns -/
def pbR (ok : Prop) (x : Int) (e : Ending) : Prop := (ok ∧ e = .returned (.tuple #[.int .i64 x, .nilIface])) ∨ (¬ ok ∧ ∃ (y : Int) (N : Nat), e = .returned (.tuple #[.int .i64 y, .iface 173 (.pointer (some ⟨N, 0, none⟩))]))
set_option maxHeartbeats 8000000 in
set_option maxRecDepth 100000 in
theorem pubInt_any (s : ByteArray) (b : Int) (w : World) (ok : Prop) (x : Int) (hs : s.size ≤ 1000000) (hE : ErrT w)
    (H : Calls Tryz.prog 132 #[.string s, .int .i64 b, .int .i64 64] w fun e w' => piR ok x e ∧ Below w.heap.size w w') :
    Calls Tryz.prog 122 #[.string s, .int .i64 b, .int .i64 64] w fun e w' => pbR ok x e ∧ Below w.heap.size w w' := by
  have HH := hide H
  have HE := hide hE
  clear H hE
  go_enter Tryz.func122, Tryz.ntmps122
  go_wp2_with fail
  refine HH.out.mono ?_
  rintro e w1 ⟨hp, hb⟩
  rcases hp with ⟨hok, rfl⟩ | ⟨hok, y, rfl⟩
  · have HOK := hide hok
    have HB := hide hb
    clear hok hb
    go_wp2_with fail
    go_ret2
    exact ⟨Or.inl (And.intro HOK.out rfl), HB.out⟩
  · have HOK := hide hok
    have HTE := hide (toError_rng ⟨#[80, 97, 114, 115, 101, 73, 110, 116]⟩ s b 64 w1 hs (HE.out.below hb))
    have HB := hide hb
    clear hok hb
    go_wp2_with fail
    refine HTE.out.mono ?_
    rintro e w2 ⟨N, rfl, hb⟩
    have HB2 := hide (HB.out.trans (hb.mono HB.out.size))
    clear hb
    go_wp2_with fail
    go_ret2
    exact ⟨Or.inr (And.intro HOK.out (Exists.intro _ (Exists.intro N rfl))), HB2.out⟩
end Go.Proofs.YtifpmigghplmoaaGreatDoor
