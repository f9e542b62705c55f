/- A time is read along a format: the reference's read: any directive. -/
import Derived.Test.YtifpmigghplmoaaGreatDoorZDReadWA
import Derived.Test.YtifpmigghplmoaaGreatDoorZDReadWB
import Derived.Test.YtifpmigghplmoaaGreatDoorZDReadWC
import Derived.Test.YtifpmigghplmoaaGreatDoorZDrH
import Derived.Test.YtifpmigghplmoaaGreatDoorZDrI
import Derived.Test.YtifpmigghplmoaaGreatDoorZDrF
import Derived.Test.YtifpmigghplmoaaGreatDoorZDtA
import Derived.Test.YtifpmigghplmoaaGreatDoorSorts
/- DReadX -/
set_option linter.unusedVariables false
set_option linter.unusedSimpArgs false
namespace Go.Pw
open Go.RowKit
theorem rdL_fail {T : List UInt8} {a b : List Stp} {at_ q : Nat} (h : rdL T a at_ [] = .inl q) : rdL T (a ++ b) at_ [] = .inl q := by
  rw [rdL_append, h]; rfl
theorem rdL_seq {T : List UInt8} {a b : List Stp} {at_ x y : Nat} {its its2 : List It} (h : rdL T a at_ [] = .inr (x, its)) (g : rdL T b x [] = .inr (y, its2)) : rdL T (a ++ b) at_ [] = .inr (y, its ++ its2) := by
  rw [rdL_append, h]
  show rdL T b x its = _
  rw [rdL_acc, g]; rfl
theorem rdL_seq_no {T : List UInt8} {a b : List Stp} {at_ x q : Nat} {its : List It} (h : rdL T a at_ [] = .inr (x, its)) (g : rdL T b x [] = .inl q) : rdL T (a ++ b) at_ [] = .inl q := by
  rw [rdL_append, h]
  show rdL T b x its = _
  rw [rdL_acc, g]; rfl
theorem one_facts {T : List UInt8} {c : UInt8} {a x : Nat} {its : List It} (hc : c ∈ oneLetters) (h : rdL T [.dir c] a [] = .inr (x, its)) : its.length = 1 ∧ x ≤ T.length := by
  rw [rdL_one] at h
  obtain ⟨h1, h2, h3⟩ := rd1_ok hc (show rd1 T c a = .inr (x, its) from h)
  exact ⟨h3, h1⟩
theorem byte_yes {T : ByteArray} {z : UInt8} {a : Nat} (h : a < T.size) (e : T[a] = z) : rdL T.data.toList [.byte z] a [] = .inr (a + 1, []) := by
  rw [rdL_one]
  show (if T.data.toList[a]? = some z then _ else _) = _
  rw [if_pos]
  have h2 : a < T.data.toList.length := by rw [len_size]; exact h
  rw [List.getElem?_eq_getElem h2]
  rw [← e]; rfl
theorem byte_no {T : ByteArray} {z : UInt8} {a : Nat} (h : a < T.size) (e : ¬ T[a] = z) : rdL T.data.toList [.byte z] a [] = .inl a := by
  rw [rdL_one]
  show (if T.data.toList[a]? = some z then _ else _) = _
  rw [if_neg]
  have h2 : a < T.data.toList.length := by rw [len_size]; exact h
  rw [List.getElem?_eq_getElem h2]
  intro hh
  exact e (Option.some.inj hh)
theorem byte_end {T : ByteArray} {z : UInt8} {a : Nat} (h : T.size ≤ a) : rdL T.data.toList [.byte z] a [] = .inl a := by
  rw [rdL_one]
  show (if T.data.toList[a]? = some z then _ else _) = _
  rw [if_neg]
  rw [List.getElem?_eq_none (by rw [len_size]; exact h)]
  simp
theorem FSt.below {tF tP b : Nat} {L : List It} {w w' : World} (h : FSt tF tP b L w) (hb : Below w.heap.size w w') : FSt tF tP b L w' := by
  obtain ⟨pv, h1, h2⟩ := h
  exact ⟨pv, h1.keep hb, h2.kept (row := none) ⟨hb.os, hb.tape, hb.output, hb.size, fun k hk _ => hb.block k hk⟩ (by cases hk : pv.ownBlock <;> simp)⟩
theorem FSt.drewN {tF tP b n : Nat} {L : List It} {w : World} (h : FSt tF tP b L w) : FSt tF tP b L (w.drewN n) := h.below ⟨rfl, rfl, rfl, Nat.le_refl _, fun _ _ => rfl⟩
theorem u8_neq {c : UInt8} {n : UInt8} (h : ¬ c = n) : ((c.toNat : Int) != (n.toNat : Int)) = true := by
  have : c.toNat ≠ n.toNat := fun e => h (UInt8.toNat_inj.1 e)
  simp; omega
end Go.Pw
namespace Go.Proofs.YtifpmigghplmoaaGreatDoor
open Go.RowKit Go.Pw
set_option maxHeartbeats 8000000 in
set_option maxRecDepth 100000 in
theorem read_n (b : Nat) (T : ByteArray) (at_ : Nat) (L : List It) (w : World) (h : FSt 54 64 b L w) (hat : at_ ≤ T.size) (hT : T.size ≤ 1000000) (hl : L.length ≤ 800000) (hP : PowTab w) :
    Calls Tryz.prog 22 #[.pointer (some ⟨b, 0, none⟩), .string T, .int .i64 (at_ : Int), .int .u8 110] w (ReadPost b T.data.toList [.byte 10] at_ L w) := by
  have HST := hide h
  have hlt := h.lt
  have HPA : Hid (Calls Tryz.prog 25 #[.agg #[.int .i64 0, .int .i64 1, .int .i64 0, .int .i64 0, .int .i64 0, .int .i64 0, .int .i64 1, .int .i64 0, .int .i64 0], .int .u8 110] w fun e w' => e = .returned (.tuple #[.string ⟨#[10]⟩, .bool true]) ∧ Below w.heap.size w w') := hide (part_any dmo1 dmo1_good 110 (by decide) w hP)
  have HBY := hide (@byte_yes T 10 at_)
  have HBN := hide (@byte_no T 10 at_)
  have HBE := hide (@byte_end T 10 at_)
  have t0 : (0 : Int) ≤ (at_ : Int) := by omega
  clear h hP
  by_cases h1 : at_ < T.size
  · have t1 : ¬ (T.size : Int) ≤ (at_ : Int) := by omega
    have t1' : (at_ : Int) < (T.size : Int) := by omega
    have t1'' : decide ((T.size : Int) ≤ (at_ : Int)) = false := by simp; omega
    by_cases h2 : T[at_] = 10
    · have d2 : ((T[at_].toNat : Int) != 10) = false := by rw [h2]; rfl
      have d3 : ((T[at_].toNat : Int) != (((⟨#[10]⟩ : ByteArray)[0]'(by decide)).toNat : Int)) = false := d2
      have HR := hide (HBY.out h1 h2)
      clear h2
      go_enter Tryz.func22, Tryz.ntmps22
      go_wp2_with fail
      refine HPA.out.mono ?_
      rintro e w1 ⟨rfl, hb1⟩
      have HB1 := hide (hb1.mono (Nat.le_of_lt hlt))
      have HS1 := hide (HST.out.below hb1)
      clear hb1
      go_wp2_with fail
      go_quiet (fail)
      go_wp2_with fail
      go_ret2
      exact ⟨below_drewN HB1.out _, .inr ⟨at_ + 1, [], HR.out, by first | rfl | (simp; done), by rw [List.append_nil]; exact HS1.out.drewN⟩⟩
    · have d2 : ((T[at_].toNat : Int) != 10) = true := u8_neq h2
      have d3 : ((T[at_].toNat : Int) != (((⟨#[10]⟩ : ByteArray)[0]'(by decide)).toNat : Int)) = true := d2
      have HR := hide (HBN.out h1 h2)
      clear h2
      go_enter Tryz.func22, Tryz.ntmps22
      go_wp2_with fail
      refine HPA.out.mono ?_
      rintro e w1 ⟨rfl, hb1⟩
      have HB1 := hide (hb1.mono (Nat.le_of_lt hlt))
      clear hb1
      go_wp2_with fail
      go_quiet (fail)
      go_wp2_with fail
      go_ret2
      exact ⟨below_drewN HB1.out _, .inl ⟨at_, HR.out, rfl⟩⟩
  · have t1 : (T.size : Int) ≤ (at_ : Int) := by omega
    have t1'' : decide ((T.size : Int) ≤ (at_ : Int)) = true := by simp; omega
    have HR := hide (HBE.out (by omega))
    go_enter Tryz.func22, Tryz.ntmps22
    go_wp2_with fail
    refine HPA.out.mono ?_
    rintro e w1 ⟨rfl, hb1⟩
    have HB1 := hide (hb1.mono (Nat.le_of_lt hlt))
    clear hb1
    go_wp2_with fail
    go_quiet (fail)
    go_wp2_with fail
    go_ret2
    exact ⟨below_drewN HB1.out _, .inl ⟨at_, HR.out, rfl⟩⟩
set_option maxHeartbeats 8000000 in
set_option maxRecDepth 100000 in
theorem read_t (b : Nat) (T : ByteArray) (at_ : Nat) (L : List It) (w : World) (h : FSt 54 64 b L w) (hat : at_ ≤ T.size) (hT : T.size ≤ 1000000) (hl : L.length ≤ 800000) (hP : PowTab w) :
    Calls Tryz.prog 22 #[.pointer (some ⟨b, 0, none⟩), .string T, .int .i64 (at_ : Int), .int .u8 116] w (ReadPost b T.data.toList [.byte 9] at_ L w) := by
  have HST := hide h
  have hlt := h.lt
  have HPA : Hid (Calls Tryz.prog 25 #[.agg #[.int .i64 0, .int .i64 1, .int .i64 0, .int .i64 0, .int .i64 0, .int .i64 0, .int .i64 1, .int .i64 0, .int .i64 0], .int .u8 116] w fun e w' => e = .returned (.tuple #[.string ⟨#[9]⟩, .bool true]) ∧ Below w.heap.size w w') := hide (part_any dmo1 dmo1_good 116 (by decide) w hP)
  have HBY := hide (@byte_yes T 9 at_)
  have HBN := hide (@byte_no T 9 at_)
  have HBE := hide (@byte_end T 9 at_)
  have t0 : (0 : Int) ≤ (at_ : Int) := by omega
  clear h hP
  by_cases h1 : at_ < T.size
  · have t1 : ¬ (T.size : Int) ≤ (at_ : Int) := by omega
    have t1' : (at_ : Int) < (T.size : Int) := by omega
    have t1'' : decide ((T.size : Int) ≤ (at_ : Int)) = false := by simp; omega
    by_cases h2 : T[at_] = 9
    · have d2 : ((T[at_].toNat : Int) != 9) = false := by rw [h2]; rfl
      have d3 : ((T[at_].toNat : Int) != (((⟨#[9]⟩ : ByteArray)[0]'(by decide)).toNat : Int)) = false := d2
      have HR := hide (HBY.out h1 h2)
      clear h2
      go_enter Tryz.func22, Tryz.ntmps22
      go_wp2_with fail
      refine HPA.out.mono ?_
      rintro e w1 ⟨rfl, hb1⟩
      have HB1 := hide (hb1.mono (Nat.le_of_lt hlt))
      have HS1 := hide (HST.out.below hb1)
      clear hb1
      go_wp2_with fail
      go_quiet (fail)
      go_wp2_with fail
      go_ret2
      exact ⟨below_drewN HB1.out _, .inr ⟨at_ + 1, [], HR.out, by first | rfl | (simp; done), by rw [List.append_nil]; exact HS1.out.drewN⟩⟩
    · have d2 : ((T[at_].toNat : Int) != 9) = true := u8_neq h2
      have d3 : ((T[at_].toNat : Int) != (((⟨#[9]⟩ : ByteArray)[0]'(by decide)).toNat : Int)) = true := d2
      have HR := hide (HBN.out h1 h2)
      clear h2
      go_enter Tryz.func22, Tryz.ntmps22
      go_wp2_with fail
      refine HPA.out.mono ?_
      rintro e w1 ⟨rfl, hb1⟩
      have HB1 := hide (hb1.mono (Nat.le_of_lt hlt))
      clear hb1
      go_wp2_with fail
      go_quiet (fail)
      go_wp2_with fail
      go_ret2
      exact ⟨below_drewN HB1.out _, .inl ⟨at_, HR.out, rfl⟩⟩
  · have t1 : (T.size : Int) ≤ (at_ : Int) := by omega
    have t1'' : decide ((T.size : Int) ≤ (at_ : Int)) = true := by simp; omega
    have HR := hide (HBE.out (by omega))
    go_enter Tryz.func22, Tryz.ntmps22
    go_wp2_with fail
    refine HPA.out.mono ?_
    rintro e w1 ⟨rfl, hb1⟩
    have HB1 := hide (hb1.mono (Nat.le_of_lt hlt))
    clear hb1
    go_wp2_with fail
    go_quiet (fail)
    go_wp2_with fail
    go_ret2
    exact ⟨below_drewN HB1.out _, .inl ⟨at_, HR.out, rfl⟩⟩
set_option maxHeartbeats 8000000 in
set_option maxRecDepth 100000 in
theorem read_p (b : Nat) (T : ByteArray) (at_ : Nat) (L : List It) (w : World) (h : FSt 54 64 b L w) (hat : at_ ≤ T.size) (hT : T.size ≤ 1000000) (hl : L.length ≤ 800000) (hP : PowTab w) :
    Calls Tryz.prog 22 #[.pointer (some ⟨b, 0, none⟩), .string T, .int .i64 (at_ : Int), .int .u8 37] w (ReadPost b T.data.toList [.byte 37] at_ L w) := by
  have HST := hide h
  have hlt := h.lt
  have HPA : Hid (Calls Tryz.prog 25 #[.agg #[.int .i64 0, .int .i64 1, .int .i64 0, .int .i64 0, .int .i64 0, .int .i64 0, .int .i64 1, .int .i64 0, .int .i64 0], .int .u8 37] w fun e w' => e = .returned (.tuple #[.string ⟨#[37]⟩, .bool true]) ∧ Below w.heap.size w w') := hide (part_any dmo1 dmo1_good 37 (by decide) w hP)
  have HBY := hide (@byte_yes T 37 at_)
  have HBN := hide (@byte_no T 37 at_)
  have HBE := hide (@byte_end T 37 at_)
  have t0 : (0 : Int) ≤ (at_ : Int) := by omega
  clear h hP
  by_cases h1 : at_ < T.size
  · have t1 : ¬ (T.size : Int) ≤ (at_ : Int) := by omega
    have t1' : (at_ : Int) < (T.size : Int) := by omega
    have t1'' : decide ((T.size : Int) ≤ (at_ : Int)) = false := by simp; omega
    by_cases h2 : T[at_] = 37
    · have d2 : ((T[at_].toNat : Int) != 37) = false := by rw [h2]; rfl
      have d3 : ((T[at_].toNat : Int) != (((⟨#[37]⟩ : ByteArray)[0]'(by decide)).toNat : Int)) = false := d2
      have HR := hide (HBY.out h1 h2)
      clear h2
      go_enter Tryz.func22, Tryz.ntmps22
      go_wp2_with fail
      refine HPA.out.mono ?_
      rintro e w1 ⟨rfl, hb1⟩
      have HB1 := hide (hb1.mono (Nat.le_of_lt hlt))
      have HS1 := hide (HST.out.below hb1)
      clear hb1
      go_wp2_with fail
      go_quiet (fail)
      go_wp2_with fail
      go_ret2
      exact ⟨below_drewN HB1.out _, .inr ⟨at_ + 1, [], HR.out, by first | rfl | (simp; done), by rw [List.append_nil]; exact HS1.out.drewN⟩⟩
    · have d2 : ((T[at_].toNat : Int) != 37) = true := u8_neq h2
      have d3 : ((T[at_].toNat : Int) != (((⟨#[37]⟩ : ByteArray)[0]'(by decide)).toNat : Int)) = true := d2
      have HR := hide (HBN.out h1 h2)
      clear h2
      go_enter Tryz.func22, Tryz.ntmps22
      go_wp2_with fail
      refine HPA.out.mono ?_
      rintro e w1 ⟨rfl, hb1⟩
      have HB1 := hide (hb1.mono (Nat.le_of_lt hlt))
      clear hb1
      go_wp2_with fail
      go_quiet (fail)
      go_wp2_with fail
      go_ret2
      exact ⟨below_drewN HB1.out _, .inl ⟨at_, HR.out, rfl⟩⟩
  · have t1 : (T.size : Int) ≤ (at_ : Int) := by omega
    have t1'' : decide ((T.size : Int) ≤ (at_ : Int)) = true := by simp; omega
    have HR := hide (HBE.out (by omega))
    go_enter Tryz.func22, Tryz.ntmps22
    go_wp2_with fail
    refine HPA.out.mono ?_
    rintro e w1 ⟨rfl, hb1⟩
    have HB1 := hide (hb1.mono (Nat.le_of_lt hlt))
    clear hb1
    go_wp2_with fail
    go_quiet (fail)
    go_wp2_with fail
    go_ret2
    exact ⟨below_drewN HB1.out _, .inl ⟨at_, HR.out, rfl⟩⟩
set_option maxHeartbeats 8000000 in
set_option maxRecDepth 100000 in
theorem read_F (b : Nat) (T : ByteArray) (at_ : Nat) (L : List It) (w : World) (h : FSt 54 64 b L w) (hat : at_ ≤ T.size) (hT : T.size ≤ 1000000) (hl : L.length ≤ 800000) :
    Calls Tryz.prog 22 #[.pointer (some ⟨b, 0, none⟩), .string T, .int .i64 (at_ : Int), .int .u8 70] w (ReadPost b T.data.toList [.dir 89, .byte 45, .dir 109, .byte 45, .dir 100] at_ L w) := by
  have HLS := hide (len_size T)
  have HST := hide h
  clear h
  go_enter Tryz.func22, Tryz.ntmps22
  go_wp2_with fail
  refine wp_loop_rounds 4 ?_
  rw [rounds_succ]
  go_wp2_with fail
  refine (read_Y b T at_ L _ HST.out (by omega) hT (by first | omega | (simp only [List.length_append]; omega))).mono ?_
  rintro e v0 ⟨hb, (⟨q, hq, rfl⟩ | ⟨a0, its0, ha, rfl, hs⟩)⟩
  · have HBV := hide hb
    have HR : Hid (rdL T.data.toList [.dir 89, .byte 45, .dir 109, .byte 45, .dir 100] at_ [] = .inl q) := hide (rdL_fail (b := ([.byte 45, .dir 109, .byte 45, .dir 100] : List Stp)) (hq))
    have hq0 : (0 : Int) ≤ (q : Int) := by omega
    clear hb hq
    go_wp2_with fail
    go_ret2
    exact ⟨HBV.out, .inl ⟨q, HR.out, rfl⟩⟩
  · have HBV0 := hide hb
    have HR0 := hide (ha)
    have HS0 := hide hs
    obtain ⟨hl0, hx0⟩ := one_facts (by decide) ha
    rw [HLS.out] at hx0
    clear hb ha hs
    go_wp2_with fail
    rw [rounds_succ]
    have t0 : (0 : Int) ≤ (a0 : Int) := by omega
    by_cases h1 : a0 < T.size
    · have t1 : ¬ (T.size : Int) ≤ (a0 : Int) := by omega
      have t1' : (a0 : Int) < (T.size : Int) := by omega
      have t1'' : decide ((T.size : Int) ≤ (a0 : Int)) = false := by simp; omega
      have t2n : decide (T.size ≤ a0) = false := by simp; omega
      have t2p : ¬ T.size ≤ a0 := by omega
      by_cases h2 : T[a0] = 45
      · have d2 : ((T[a0].toNat : Int) != 45) = false := by rw [h2]; rfl
        have HRB0 := hide (rdL_seq HR0.out (byte_yes h1 h2))
        clear h2
        go_wp2_with fail
        refine (read_m b T (a0 + 1) _ _ HS0.out (by omega) hT (by first | omega | (simp only [List.length_append]; omega))).mono ?_
        rintro e v1 ⟨hb, (⟨q, hq, rfl⟩ | ⟨a1, its1, ha, rfl, hs⟩)⟩
        · have HBV := hide (HBV0.out.trans hb)
          have HR : Hid (rdL T.data.toList [.dir 89, .byte 45, .dir 109, .byte 45, .dir 100] at_ [] = .inl q) := hide (rdL_fail (b := ([.byte 45, .dir 100] : List Stp)) (rdL_seq_no HRB0.out hq))
          have hq0 : (0 : Int) ≤ (q : Int) := by omega
          clear hb hq
          go_wp2_with fail
          go_ret2
          exact ⟨HBV.out, .inl ⟨q, HR.out, rfl⟩⟩
        · have HBV1 := hide (HBV0.out.trans hb)
          have HR1 := hide (rdL_seq HRB0.out ha)
          have HS1 := hide hs
          obtain ⟨hl1, hx1⟩ := one_facts (by decide) ha
          rw [HLS.out] at hx1
          clear hb ha hs
          go_wp2_with fail
          rw [rounds_succ]
          have t0 : (0 : Int) ≤ (a1 : Int) := by omega
          by_cases h1 : a1 < T.size
          · have t1 : ¬ (T.size : Int) ≤ (a1 : Int) := by omega
            have t1' : (a1 : Int) < (T.size : Int) := by omega
            have t1'' : decide ((T.size : Int) ≤ (a1 : Int)) = false := by simp; omega
            have t2n : decide (T.size ≤ a1) = false := by simp; omega
            have t2p : ¬ T.size ≤ a1 := by omega
            by_cases h2 : T[a1] = 45
            · have d2 : ((T[a1].toNat : Int) != 45) = false := by rw [h2]; rfl
              have HRB1 := hide (rdL_seq HR1.out (byte_yes h1 h2))
              clear h2
              go_wp2_with fail
              refine (read_d b T (a1 + 1) _ _ HS1.out (by omega) hT (by first | omega | (simp only [List.length_append]; omega))).mono ?_
              rintro e v2 ⟨hb, (⟨q, hq, rfl⟩ | ⟨a2, its2, ha, rfl, hs⟩)⟩
              · have HBV := hide (HBV1.out.trans hb)
                have HR : Hid (rdL T.data.toList [.dir 89, .byte 45, .dir 109, .byte 45, .dir 100] at_ [] = .inl q) := hide (rdL_seq_no HRB1.out hq)
                have hq0 : (0 : Int) ≤ (q : Int) := by omega
                clear hb hq
                go_wp2_with fail
                go_ret2
                exact ⟨HBV.out, .inl ⟨q, HR.out, rfl⟩⟩
              · have HBV2 := hide (HBV1.out.trans hb)
                have HR2 := hide (rdL_seq HRB1.out ha)
                have HS2 := hide hs
                obtain ⟨hl2, hx2⟩ := one_facts (by decide) ha
                rw [HLS.out] at hx2
                clear hb ha hs
                go_wp2_with fail
                rw [rounds_succ]
                go_wp2_with fail
                go_ret2
                have hfin := HS2.out
                rw [List.append_assoc, List.append_assoc] at hfin
                exact ⟨HBV2.out, .inr ⟨a2, _, HR2.out, rfl, by first | exact hfin | (simpa using hfin)⟩⟩
            · have d2 : ((T[a1].toNat : Int) != 45) = true := u8_neq h2
              have HR : Hid (rdL T.data.toList [.dir 89, .byte 45, .dir 109, .byte 45, .dir 100] at_ [] = .inl a1) := hide (rdL_fail (b := ([.dir 100] : List Stp)) (rdL_seq_no HR1.out (byte_no h1 h2)))
              clear h2
              go_wp2_with fail
              go_ret2
              exact ⟨HBV1.out, .inl ⟨a1, HR.out, rfl⟩⟩
          · have t1 : (T.size : Int) ≤ (a1 : Int) := by omega
            have t1'' : decide ((T.size : Int) ≤ (a1 : Int)) = true := by simp; omega
            have t2n : decide (T.size ≤ a1) = true := by simp; omega
            have t2p : T.size ≤ a1 := by omega
            have HR : Hid (rdL T.data.toList [.dir 89, .byte 45, .dir 109, .byte 45, .dir 100] at_ [] = .inl a1) := hide (rdL_fail (b := ([.dir 100] : List Stp)) (rdL_seq_no HR1.out (byte_end (by omega))))
            clear h1
            go_wp2_with fail
            go_ret2
            exact ⟨HBV1.out, .inl ⟨a1, HR.out, rfl⟩⟩
      · have d2 : ((T[a0].toNat : Int) != 45) = true := u8_neq h2
        have HR : Hid (rdL T.data.toList [.dir 89, .byte 45, .dir 109, .byte 45, .dir 100] at_ [] = .inl a0) := hide (rdL_fail (b := ([.dir 109, .byte 45, .dir 100] : List Stp)) (rdL_seq_no HR0.out (byte_no h1 h2)))
        clear h2
        go_wp2_with fail
        go_ret2
        exact ⟨HBV0.out, .inl ⟨a0, HR.out, rfl⟩⟩
    · have t1 : (T.size : Int) ≤ (a0 : Int) := by omega
      have t1'' : decide ((T.size : Int) ≤ (a0 : Int)) = true := by simp; omega
      have t2n : decide (T.size ≤ a0) = true := by simp; omega
      have t2p : T.size ≤ a0 := by omega
      have HR : Hid (rdL T.data.toList [.dir 89, .byte 45, .dir 109, .byte 45, .dir 100] at_ [] = .inl a0) := hide (rdL_fail (b := ([.dir 109, .byte 45, .dir 100] : List Stp)) (rdL_seq_no HR0.out (byte_end (by omega))))
      clear h1
      go_wp2_with fail
      go_ret2
      exact ⟨HBV0.out, .inl ⟨a0, HR.out, rfl⟩⟩
set_option maxHeartbeats 8000000 in
set_option maxRecDepth 100000 in
theorem read_T (b : Nat) (T : ByteArray) (at_ : Nat) (L : List It) (w : World) (h : FSt 54 64 b L w) (hat : at_ ≤ T.size) (hT : T.size ≤ 1000000) (hl : L.length ≤ 800000) :
    Calls Tryz.prog 22 #[.pointer (some ⟨b, 0, none⟩), .string T, .int .i64 (at_ : Int), .int .u8 84] w (ReadPost b T.data.toList [.dir 72, .byte 58, .dir 77, .byte 58, .dir 83] at_ L w) := by
  have HLS := hide (len_size T)
  have HST := hide h
  clear h
  go_enter Tryz.func22, Tryz.ntmps22
  go_wp2_with fail
  refine wp_loop_rounds 4 ?_
  rw [rounds_succ]
  go_wp2_with fail
  refine (read_H b T at_ L _ HST.out (by omega) hT (by first | omega | (simp only [List.length_append]; omega))).mono ?_
  rintro e v0 ⟨hb, (⟨q, hq, rfl⟩ | ⟨a0, its0, ha, rfl, hs⟩)⟩
  · have HBV := hide hb
    have HR : Hid (rdL T.data.toList [.dir 72, .byte 58, .dir 77, .byte 58, .dir 83] at_ [] = .inl q) := hide (rdL_fail (b := ([.byte 58, .dir 77, .byte 58, .dir 83] : List Stp)) (hq))
    have hq0 : (0 : Int) ≤ (q : Int) := by omega
    clear hb hq
    go_wp2_with fail
    go_ret2
    exact ⟨HBV.out, .inl ⟨q, HR.out, rfl⟩⟩
  · have HBV0 := hide hb
    have HR0 := hide (ha)
    have HS0 := hide hs
    obtain ⟨hl0, hx0⟩ := one_facts (by decide) ha
    rw [HLS.out] at hx0
    clear hb ha hs
    go_wp2_with fail
    rw [rounds_succ]
    have t0 : (0 : Int) ≤ (a0 : Int) := by omega
    by_cases h1 : a0 < T.size
    · have t1 : ¬ (T.size : Int) ≤ (a0 : Int) := by omega
      have t1' : (a0 : Int) < (T.size : Int) := by omega
      have t1'' : decide ((T.size : Int) ≤ (a0 : Int)) = false := by simp; omega
      have t2n : decide (T.size ≤ a0) = false := by simp; omega
      have t2p : ¬ T.size ≤ a0 := by omega
      by_cases h2 : T[a0] = 58
      · have d2 : ((T[a0].toNat : Int) != 58) = false := by rw [h2]; rfl
        have HRB0 := hide (rdL_seq HR0.out (byte_yes h1 h2))
        clear h2
        go_wp2_with fail
        refine (read_M b T (a0 + 1) _ _ HS0.out (by omega) hT (by first | omega | (simp only [List.length_append]; omega))).mono ?_
        rintro e v1 ⟨hb, (⟨q, hq, rfl⟩ | ⟨a1, its1, ha, rfl, hs⟩)⟩
        · have HBV := hide (HBV0.out.trans hb)
          have HR : Hid (rdL T.data.toList [.dir 72, .byte 58, .dir 77, .byte 58, .dir 83] at_ [] = .inl q) := hide (rdL_fail (b := ([.byte 58, .dir 83] : List Stp)) (rdL_seq_no HRB0.out hq))
          have hq0 : (0 : Int) ≤ (q : Int) := by omega
          clear hb hq
          go_wp2_with fail
          go_ret2
          exact ⟨HBV.out, .inl ⟨q, HR.out, rfl⟩⟩
        · have HBV1 := hide (HBV0.out.trans hb)
          have HR1 := hide (rdL_seq HRB0.out ha)
          have HS1 := hide hs
          obtain ⟨hl1, hx1⟩ := one_facts (by decide) ha
          rw [HLS.out] at hx1
          clear hb ha hs
          go_wp2_with fail
          rw [rounds_succ]
          have t0 : (0 : Int) ≤ (a1 : Int) := by omega
          by_cases h1 : a1 < T.size
          · have t1 : ¬ (T.size : Int) ≤ (a1 : Int) := by omega
            have t1' : (a1 : Int) < (T.size : Int) := by omega
            have t1'' : decide ((T.size : Int) ≤ (a1 : Int)) = false := by simp; omega
            have t2n : decide (T.size ≤ a1) = false := by simp; omega
            have t2p : ¬ T.size ≤ a1 := by omega
            by_cases h2 : T[a1] = 58
            · have d2 : ((T[a1].toNat : Int) != 58) = false := by rw [h2]; rfl
              have HRB1 := hide (rdL_seq HR1.out (byte_yes h1 h2))
              clear h2
              go_wp2_with fail
              refine (read_S b T (a1 + 1) _ _ HS1.out (by omega) hT (by first | omega | (simp only [List.length_append]; omega))).mono ?_
              rintro e v2 ⟨hb, (⟨q, hq, rfl⟩ | ⟨a2, its2, ha, rfl, hs⟩)⟩
              · have HBV := hide (HBV1.out.trans hb)
                have HR : Hid (rdL T.data.toList [.dir 72, .byte 58, .dir 77, .byte 58, .dir 83] at_ [] = .inl q) := hide (rdL_seq_no HRB1.out hq)
                have hq0 : (0 : Int) ≤ (q : Int) := by omega
                clear hb hq
                go_wp2_with fail
                go_ret2
                exact ⟨HBV.out, .inl ⟨q, HR.out, rfl⟩⟩
              · have HBV2 := hide (HBV1.out.trans hb)
                have HR2 := hide (rdL_seq HRB1.out ha)
                have HS2 := hide hs
                obtain ⟨hl2, hx2⟩ := one_facts (by decide) ha
                rw [HLS.out] at hx2
                clear hb ha hs
                go_wp2_with fail
                rw [rounds_succ]
                go_wp2_with fail
                go_ret2
                have hfin := HS2.out
                rw [List.append_assoc, List.append_assoc] at hfin
                exact ⟨HBV2.out, .inr ⟨a2, _, HR2.out, rfl, by first | exact hfin | (simpa using hfin)⟩⟩
            · have d2 : ((T[a1].toNat : Int) != 58) = true := u8_neq h2
              have HR : Hid (rdL T.data.toList [.dir 72, .byte 58, .dir 77, .byte 58, .dir 83] at_ [] = .inl a1) := hide (rdL_fail (b := ([.dir 83] : List Stp)) (rdL_seq_no HR1.out (byte_no h1 h2)))
              clear h2
              go_wp2_with fail
              go_ret2
              exact ⟨HBV1.out, .inl ⟨a1, HR.out, rfl⟩⟩
          · have t1 : (T.size : Int) ≤ (a1 : Int) := by omega
            have t1'' : decide ((T.size : Int) ≤ (a1 : Int)) = true := by simp; omega
            have t2n : decide (T.size ≤ a1) = true := by simp; omega
            have t2p : T.size ≤ a1 := by omega
            have HR : Hid (rdL T.data.toList [.dir 72, .byte 58, .dir 77, .byte 58, .dir 83] at_ [] = .inl a1) := hide (rdL_fail (b := ([.dir 83] : List Stp)) (rdL_seq_no HR1.out (byte_end (by omega))))
            clear h1
            go_wp2_with fail
            go_ret2
            exact ⟨HBV1.out, .inl ⟨a1, HR.out, rfl⟩⟩
      · have d2 : ((T[a0].toNat : Int) != 58) = true := u8_neq h2
        have HR : Hid (rdL T.data.toList [.dir 72, .byte 58, .dir 77, .byte 58, .dir 83] at_ [] = .inl a0) := hide (rdL_fail (b := ([.dir 77, .byte 58, .dir 83] : List Stp)) (rdL_seq_no HR0.out (byte_no h1 h2)))
        clear h2
        go_wp2_with fail
        go_ret2
        exact ⟨HBV0.out, .inl ⟨a0, HR.out, rfl⟩⟩
    · have t1 : (T.size : Int) ≤ (a0 : Int) := by omega
      have t1'' : decide ((T.size : Int) ≤ (a0 : Int)) = true := by simp; omega
      have t2n : decide (T.size ≤ a0) = true := by simp; omega
      have t2p : T.size ≤ a0 := by omega
      have HR : Hid (rdL T.data.toList [.dir 72, .byte 58, .dir 77, .byte 58, .dir 83] at_ [] = .inl a0) := hide (rdL_fail (b := ([.dir 77, .byte 58, .dir 83] : List Stp)) (rdL_seq_no HR0.out (byte_end (by omega))))
      clear h1
      go_wp2_with fail
      go_ret2
      exact ⟨HBV0.out, .inl ⟨a0, HR.out, rfl⟩⟩
theorem read_s (b : Nat) (T : ByteArray) (at_ : Nat) (L : List It) (w : World) (h : FSt 54 64 b L w) (hat : at_ ≤ T.size) (hT : T.size ≤ 1000000) (hl : L.length ≤ 900000) :
    Calls Tryz.prog 22 #[.pointer (some ⟨b, 0, none⟩), .string T, .int .i64 (at_ : Int), .int .u8 115] w (ReadPost b T.data.toList [.dir 115] at_ L w) := by
  by_cases h45 : T.data.toList.getD at_ 0 = 45
  · exact read_sn b T at_ L w h hat hT hl h45
  · rcases Nat.lt_or_ge at_ T.size with hlt | hlt
    · exact read_sp b T at_ L w h hat hT hl h45 hlt
    · exact read_se b T at_ L w h hat hT hl hlt
theorem read_any (c : UInt8) (hc : c ∈ dLetters) (b : Nat) (T : ByteArray) (at_ : Nat) (L : List It) (w : World) (h : FSt 54 64 b L w) (hat : at_ ≤ T.size) (hT : T.size ≤ 1000000) (hl : L.length ≤ 800000) (hP : PowTab w) :
    Calls Tryz.prog 22 #[.pointer (some ⟨b, 0, none⟩), .string T, .int .i64 (at_ : Int), .int .u8 (c.toNat : Int)] w (ReadPost b T.data.toList (expand c) at_ L w) := by
  unfold dLetters at hc
  simp only [List.mem_cons, List.not_mem_nil, or_false] at hc
  have hl2 : L.length ≤ 900000 := by omega
  rcases hc with rfl | rfl | rfl | rfl | rfl | rfl | rfl | rfl | rfl | rfl | rfl | rfl | rfl | rfl | rfl | rfl | rfl | rfl
  · exact read_Y b T at_ L w h hat hT hl2
  · exact read_y b T at_ L w h hat hT hl2
  · exact read_m b T at_ L w h hat hT hl2
  · exact read_d b T at_ L w h hat hT hl2
  · exact read_H b T at_ L w h hat hT hl2
  · exact read_M b T at_ L w h hat hT hl2
  · exact read_S b T at_ L w h hat hT hl2
  · exact read_j b T at_ L w h hat hT hl2
  · by_cases hb : T.data.toList.getD at_ 0 = 32
    · exact read_eb b T at_ L w h hat hT hl2 hb
    · exact read_eo b T at_ L w h hat hT hl2 hb
  · exact read_u b T at_ L w h hat hT hl2
  · exact read_a b T at_ L w h hat hT hl2
  · exact read_b b T at_ L w h hat hT hl2
  · exact read_s b T at_ L w h hat hT hl2
  · exact read_F b T at_ L w h hat hT hl
  · exact read_T b T at_ L w h hat hT hl
  · exact read_n b T at_ L w h hat hT hl hP
  · exact read_t b T at_ L w h hat hT hl hP
  · exact read_p b T at_ L w h hat hT hl hP
end Go.Proofs.YtifpmigghplmoaaGreatDoor

/- DReadY -/
set_option linter.unusedVariables false
set_option linter.unusedSimpArgs false
namespace Go.Pw
open Go.RowKit
theorem datI_pre {l : List UInt8} {i : Nat} {acc all : List (UInt8 × UInt8)} (h : DAtI l i acc) (ha : dParse l = some all) : ∃ rest, all = acc ++ rest := by
  obtain ⟨h1, h2, h3⟩ := h
  rw [h3] at ha
  cases hd : dParse (l.drop i) with
  | none => rw [hd] at ha; cases ha
  | some r => rw [hd] at ha; exact ⟨r, (Option.some.inj ha).symm⟩
theorem rdL_all {T : List UInt8} {acc rest : List (UInt8 × UInt8)} {q : Nat} (h : rdL T (stepsOf acc) 0 [] = .inl q) : rdL T (stepsOf (acc ++ rest)) 0 [] = .inl q := by
  rw [stepsOf_app, rdL_append, h]; rfl
/-- what is read is no longer than the text -/
theorem piece_le (T : List UInt8) (a b : Nat) : (piece T a b).length ≤ T.length := by
  unfold piece
  rw [List.length_take, List.length_drop]; omega
theorem rd1_plen {T : List UInt8} {c : UInt8} {a x : Nat} {its : List It} (h : rd1 T c a = .inr (x, its)) : ∀ i ∈ its, i.p.length ≤ T.length := by
  have num : ∀ (c : UInt8) (f m : Nat), rdNum T c a f m = .inr (x, its) → ∀ i ∈ its, i.p.length ≤ T.length := by
    intro c f m h
    unfold rdNum at h
    cases hd : digsN T f m 0 with
    | inl q => rw [hd] at h; cases h
    | inr v =>
      rw [hd] at h
      simp only [Sum.inr.injEq, Prod.mk.injEq] at h
      obtain ⟨-, rfl⟩ := h
      intro i hi
      obtain rfl := List.mem_singleton.1 hi
      exact piece_le _ _ _
  have nm : ∀ (c : UInt8) (names : List (List UInt8)), rdName names T c a = .inr (x, its) → ∀ i ∈ its, i.p.length ≤ T.length := by
    intro c names h
    unfold rdName at h
    by_cases h1 : hasP names T a 1 = false
    · rw [if_pos h1] at h; cases h
    · rw [if_neg h1] at h
      by_cases h2 : hasP names T a 2 = false
      · rw [if_pos h2] at h; cases h
      · rw [if_neg h2] at h
        by_cases h3 : hasP names T a 3 = false
        · rw [if_pos h3] at h; cases h
        · rw [if_neg h3] at h
          simp only [Sum.inr.injEq, Prod.mk.injEq] at h
          obtain ⟨-, rfl⟩ := h
          intro i hi
          obtain rfl := List.mem_singleton.1 hi
          exact piece_le _ _ _
  have tm : rdTime T a = .inr (x, its) → ∀ i ∈ its, i.p.length ≤ T.length := by
    intro h
    unfold rdTime at h
    simp only at h
    by_cases h0 : digCnt T (a + signOf T a) 12 = 0
    · rw [if_pos h0] at h; cases h
    · rw [if_neg h0] at h
      simp only [Sum.inr.injEq, Prod.mk.injEq] at h
      obtain ⟨-, rfl⟩ := h
      intro i hi
      obtain rfl := List.mem_singleton.1 hi
      exact piece_le _ _ _
  unfold rd1 at h
  by_cases c1 : c = 89
  · rw [if_pos c1] at h; exact num _ _ _ h
  rw [if_neg c1] at h
  by_cases c2 : c = 106
  · rw [if_pos c2] at h; exact num _ _ _ h
  rw [if_neg c2] at h
  by_cases c3 : c = 117
  · rw [if_pos c3] at h; exact num _ _ _ h
  rw [if_neg c3] at h
  by_cases c4 : c = 101
  · rw [if_pos c4] at h
    by_cases hb : T.getD a 0 = 32
    · rw [if_pos hb] at h; exact num _ _ _ h
    · rw [if_neg hb] at h; exact num _ _ _ h
  rw [if_neg c4] at h
  by_cases c5 : c = 97
  · rw [if_pos c5] at h; exact nm _ _ h
  rw [if_neg c5] at h
  by_cases c6 : c = 98
  · rw [if_pos c6] at h; exact nm _ _ h
  rw [if_neg c6] at h
  by_cases c7 : c = 115
  · rw [if_pos c7] at h; exact tm h
  rw [if_neg c7] at h
  exact num _ _ _ h
theorem rdL_plen {T : List UInt8} : ∀ (st : List Stp) (at_ : Nat) (acc : List It) (at' : Nat) (its : List It), (∀ i ∈ acc, i.p.length ≤ T.length) → rdL T st at_ acc = .inr (at', its) → ∀ i ∈ its, i.p.length ≤ T.length
  | [], at_, acc, at', its, ha, h => by
    simp only [rdL, Sum.inr.injEq, Prod.mk.injEq] at h
    obtain ⟨rfl, rfl⟩ := h
    exact ha
  | s :: st, at_, acc, at', its, ha, h => by
    rw [rdL_cons] at h
    cases hr : rdS T s at_ with
    | inl q => rw [hr] at h; cases h
    | inr x =>
      rw [hr] at h
      refine rdL_plen st x.1 (acc ++ x.2) at' its (fun i hi => ?_) h
      rcases List.mem_append.1 hi with hi | hi
      · exact ha i hi
      · cases s with
        | dir c => exact rd1_plen (show rd1 T c at_ = .inr (x.1, x.2) from hr) i hi
        | byte b =>
          have hr2 : (if T[at_]? = some b then Sum.inr (at_ + 1, []) else Sum.inl at_) = (Sum.inr x : Sum Nat (Nat × List It)) := hr
          by_cases hb : T[at_]? = some b
          · rw [if_pos hb] at hr2
            rw [← Sum.inr.inj hr2] at hi
            cases hi
          · rw [if_neg hb] at hr2; cases hr2
theorem rdL_le {T : List UInt8} : ∀ (st : List Stp) (at_ : Nat) (acc : List It) (at' : Nat) (its : List It), (∀ s ∈ st, StpOk s) → at_ ≤ T.length → rdL T st at_ acc = .inr (at', its) → at' ≤ T.length
  | [], at_, acc, at', its, _, ha, h => by
    simp only [rdL, Sum.inr.injEq, Prod.mk.injEq] at h
    obtain ⟨rfl, rfl⟩ := h
    exact ha
  | s :: st, at_, acc, at', its, hs, ha, h => by
    rw [rdL_cons] at h
    cases hr : rdS T s at_ with
    | inl q => rw [hr] at h; cases h
    | inr x =>
      rw [hr] at h
      refine rdL_le st x.1 (acc ++ x.2) at' its (fun s' h' => hs s' (List.mem_cons_of_mem _ h')) ?_ h
      cases s with
      | dir c => exact (rd1_ok (hs _ List.mem_cons_self c rfl) (show rd1 T c at_ = .inr (x.1, x.2) from hr)).1
      | byte b =>
        have hr2 : (if T[at_]? = some b then Sum.inr (at_ + 1, []) else Sum.inl at_) = (Sum.inr x : Sum Nat (Nat × List It)) := hr
        by_cases hb : T[at_]? = some b
        · rw [if_pos hb] at hr2
          rw [← Sum.inr.inj hr2]
          have := (List.getElem?_eq_some_iff.1 hb).1
          show at_ + 1 ≤ _; omega
        · rw [if_neg hb] at hr2; cases hr2
theorem oneLetters_d {c : UInt8} (h : c ∈ oneLetters) : c ∈ dLetters := by
  unfold oneLetters at h
  simp only [List.mem_cons, List.not_mem_nil, or_false] at h
  rcases h with rfl | rfl | rfl | rfl | rfl | rfl | rfl | rfl | rfl | rfl | rfl | rfl | rfl <;> decide
theorem clash_nt (x : DMo) (tm : Bool) (i : It) : clashH x tm (nt i) = clash x tm i := by
  unfold clashH clash nt
  simp only
  rw [toldN_map]
theorem clash_any (x : DMo) (tm : Bool) (its : List It) : (its.map nt).any (clashH x tm) = its.any (clash x tm) := by
  rw [List.any_map]; congr 1; funext i; exact clash_nt x tm i
end Go.Pw
namespace Go.Proofs.YtifpmigghplmoaaGreatDoor
open Go.RowKit Go.Pw Go.Shelf
theorem yjua_iff (c : UInt8) : decide (mapL c ∈ ([121, 106, 117] : List UInt8)) = hasB c [121, 106, 117, 97] := by
  have key : ∀ c : Fin 256, decide (mapL (UInt8.ofNat c.val) ∈ ([121, 106, 117] : List UInt8)) = ([121, 106, 117, 97] : List UInt8).any (· == UInt8.ofNat c.val) := by decide +kernel
  have h := key ⟨c.toNat, c.toNat_lt⟩
  simp only [UInt8.ofNat_toNat] at h
  unfold hasB
  exact h
theorem tH_nt (its : List It) : tH (its.map nt) = if timedL its then (if dInB (lastOf its 115 0) then some (lastOf its 115 0) else none) else
    if dayB (lastOf its 89 1970) (lastOf its 109 1) (lastOf its 100 1) && decide (lastOf its 72 0 ≤ 23) && decide (lastOf its 77 0 ≤ 59) && decide (lastOf its 83 0 ≤ 59) then
      (if dInB (86400 * dn (lastOf its 89 1970) (lastOf its 109 1).toNat (lastOf its 100 1) + 3600 * lastOf its 72 0 + 60 * lastOf its 77 0 + lastOf its 83 0) then some (86400 * dn (lastOf its 89 1970) (lastOf its 109 1).toNat (lastOf its 100 1) + 3600 * lastOf its 72 0 + 60 * lastOf its 77 0 + lastOf its 83 0) else none) else none := by
  unfold tH okH secH timedH
  simp only [lastH_nt, timedH_nt]
theorem samePart_any (a b : ByteArray) (w : World) (ha : a.size ≤ 1000000) (hb : b.size ≤ 1000000) :
    Calls Tryz.prog 26 #[.string a, .string b] w fun e w' => e = .returned (.bool (decide (plainS a.data.toList = plainS b.data.toList))) ∧ Below w.heap.size w w' := by
  have HA := hide (fun W => plainS_any a W ha)
  have HB := hide (fun W => plainS_any b W hb)
  have HE : Hid (((mkB (plainS a.data.toList)).toList == (mkB (plainS b.data.toList)).toList) = decide (plainS a.data.toList = plainS b.data.toList)) := hide (by
    rw [Lib.toList_data, Lib.toList_data, mkB_data, mkB_data]
    by_cases h : plainS a.data.toList = plainS b.data.toList
    · rw [h]; simp
    · rw [decide_eq_false h, beq_false_of_ne h])
  obtain ⟨x, hx⟩ : ∃ x, mkB (plainS a.data.toList) = x := ⟨_, rfl⟩
  obtain ⟨y, hy⟩ : ∃ y, mkB (plainS b.data.toList) = y := ⟨_, rfl⟩
  rw [hx] at HE
  rw [hy] at HE
  simp only [hx] at HA
  simp only [hy] at HB
  obtain ⟨d, hd⟩ : ∃ d, decide (plainS a.data.toList = plainS b.data.toList) = d := ⟨_, rfl⟩
  rw [hd] at HE ⊢
  clear hx hy hd ha hb
  go_enter Tryz.func26, Tryz.ntmps26
  go_wp2_with fail
  refine (HA.out _).mono ?_
  rintro e w1 ⟨rfl, hb1⟩
  have HB1 := hide hb1
  clear hb1
  go_wp2_with fail
  refine (HB.out _).mono ?_
  rintro e w2 ⟨rfl, hb2⟩
  have HB2 := hide (HB1.out.trans (hb2.mono HB1.out.size))
  clear hb2
  go_wp2_with fail
  go_ret
  exact ⟨by rw [← HE.out]; rfl, HB2.out⟩
set_option maxRecDepth 100000 in
theorem DateRead_large (t s : ByteArray) (w : World) (h : 200 < s.size ∨ 65536 < t.size) :
    Calls Tryz.prog 7 #[.string t, .string s] w fun e w' => e = .returned (.tuple #[.int .i64 0, .int .i64 0, .int .i64 2]) ∧ Below w.heap.size w w' := by
  by_cases h1 : 200 < s.size
  · clear h
    go_enter Tryz.func7, Tryz.ntmps7
    go_wp2_with fail
    go_ret3
    exact ⟨rfl, Below.refl _ _⟩
  · have h2 : 65536 < t.size := h.resolve_left h1
    clear h
    go_enter Tryz.func7, Tryz.ntmps7
    go_wp2_with fail
    go_ret3
    exact ⟨rfl, Below.refl _ _⟩
set_option maxRecDepth 100000 in
theorem DateRead_syntax (t s : ByteArray) (w : World) (h : s.size ≤ 200) (ht : t.size ≤ 65536) (hp : dParse s.data.toList = none) (hT : PowTab w) :
    Calls Tryz.prog 7 #[.string t, .string s] w fun e w' => e = .returned (.tuple #[.int .i64 0, .int .i64 0, .int .i64 1]) ∧ Below w.heap.size w w' := by
  have HD := hide (dateFormat_any s w h hT)
  rw [hp] at HD
  simp only [Option.isSome_none] at HD
  clear hp hT
  go_enter Tryz.func7, Tryz.ntmps7
  go_wp2_with fail
  refine HD.out.mono ?_
  rintro e w1 ⟨rfl, hb1⟩
  have HB1 := hide hb1
  clear hb1
  go_wp2_with fail
  go_ret3
  exact ⟨rfl, HB1.out⟩
set_option maxHeartbeats 16000000 in
set_option maxRecDepth 100000 in
theorem DateRead_any (t s : ByteArray) (w : World) (h : s.size ≤ 200) (ht : t.size ≤ 65536) (all : List (UInt8 × UInt8)) (hp : dParse s.data.toList = some all) (R : Sum Nat (Nat × List It)) (hR : rdL t.data.toList (stepsOf all) 0 [] = R) (o : Option (Int × DMo)) (hO : ∀ a its, R = .inr (a, its) → ResO (its.map nt) o) (hT : PowTab w) :
    Calls Tryz.prog 7 #[.string t, .string s] w fun e w' => e = .returned (.tuple #[.int .i64 (outV t.size R o).1, .int .i64 (outV t.size R o).2.1, .int .i64 (outV t.size R o).2.2]) ∧ Below w.heap.size w w' := by
  have HLS := hide (len_size s)
  have HLT := hide (len_size t)
  have HD := hide (dateFormat_any s w h hT)
  rw [hp] at HD
  simp only [Option.isSome_some] at HD
  have hlet := dParse_letters _ _ (Nat.le_refl _) all hp
  have HLET : Hid (∀ p ∈ all, p.1 = 0 ∨ p.1 ∈ dLetters) := hide (fun p hpm => (hlet p hpm).imp id (fun x => x.1))
  have hpl : all.length ≤ 200 := by
    have h1 := dParse_len _ _ (Nat.le_refl _) all hp
    rw [len_size] at h1; omega
  have HP := hide hp
  have HRR := hide hR
  have HO := hide hO
  have HT := hide hT
  clear hp hlet hR hO hT
  go_enter Tryz.func7, Tryz.ntmps7
  go_wp2_with fail
  refine HD.out.mono ?_
  rintro e w1 ⟨rfl, hb1⟩
  have HB1 := hide hb1
  clear hb1
  have HF0 : Hid (FSt 54 64 w1.heap.size [] (w1.alloc (.cells #[.int .i64 1970, .int .i64 1, .int .i64 1, .int .i64 0, .int .i64 0, .int .i64 0, .int .i64 0, .bool false, .slice none 0 0] 54))) := hide ⟨.slice none 0 0, heap_alloc_new w1 _, World.ownsRow_nil _ _ _ _⟩
  have HBA : Hid (Below w1.heap.size w1 (w1.alloc (.cells #[.int .i64 1970, .int .i64 1, .int .i64 1, .int .i64 0, .int .i64 0, .int .i64 0, .int .i64 0, .bool false, .slice none 0 0] 54))) := hide ((Below.refl _ _).alloc (Nat.le_refl _) _)
  go_wp2_with fail
  go_loopw [8, 9] (fun v i wr => ∃ (k a : Nat) (ps : List (UInt8 × UInt8)) (its : List It), k ≤ s.size ∧ i = .int .i64 (k : Int) ∧ v = .int .i64 (a : Int) ∧ Hid (DAtI s.data.toList k ps) ∧ Hid (rdL t.data.toList (stepsOf ps) 0 [] = .inr (a, its)) ∧ Hid (FSt 54 64 w1.heap.size its wr) ∧ Hid (Below w1.heap.size w1 wr)) (fun _ i _ => s.size - (intOf i).toNat)
  case atStart => exact ⟨0, 0, [], [], by omega, rfl, rfl, hide (DAtI.start _), hide rfl, HF0, HBA⟩
  case round =>
    obtain ⟨k, a, ps, its, hk, rfl, rfl, HI, HRD, HFS, HB⟩ := hrel
    have HBW := hide (HB1.out.trans (HB.out.mono HB1.out.size))
    obtain ⟨rest, hrest⟩ := datI_pre HI.out HP.out
    have HOK : Hid (∀ s ∈ stepsOf ps, StpOk s) := hide (stepsOf_ok (fun p hpm => HLET.out p (by rw [hrest]; exact List.mem_append_left _ hpm)))
    have hat : a ≤ t.size := by have h1 := rdL_le _ _ _ _ _ HOK.out (Nat.zero_le _) HRD.out; have h2 := HLT.out; omega
    have hil : its.length ≤ 1000 := by
      have h1 := rdL_count _ _ _ _ _ HOK.out HRD.out
      have h2 := stepsOf_len ps
      have h3 : ps.length ≤ all.length := by rw [hrest]; simp
      simp at h1; omega
    clear hrest
    by_cases hlt : k < s.size
    · have hd0 : (0 : Int) ≤ (k : Int) := by omega
      have hd1 : (k : Int) < (s.size : Int) := by omega
      by_cases hc : s[k] = 37
      · have hcf : ((s[k].toNat : Int) != 37) = false := by rw [hc]; rfl
        by_cases hlast : k + 1 = s.size
        · have := HI.out.last (by rw [HLS.out]; exact hlast) hc
          rw [HP.out] at this; cases this
        · have hk1 : k + 1 < s.size := by omega
          have hd2 : (0 : Int) ≤ (k : Int) + 1 := by omega
          have hd3 : (k : Int) + 1 < (s.size : Int) := by omega
          have HC := hide hc
          clear hc
          by_cases hm : s[k + 1] ∈ dLetters
          · have HI2 := hide (HI.out.yes (by rw [HLS.out]; exact hk1) HC.out hm)
            have hn0 : s[k + 1] ≠ 0 := fun e => by rw [e] at hm; revert hm; decide
            have HSN : Hid (stepsOf (ps ++ [(s[k + 1], (0 : UInt8))]) = stepsOf ps ++ expand s[k + 1]) := hide (by rw [stepsOf_snoc]; simp only; rw [if_neg hn0])
            have HRE := hide (read_any s[k + 1] hm w1.heap.size t a its wr HFS.out hat (by omega) (by omega) (HT.out.below HBW.out))
            clear hm hn0
            have l1 : IntKind.i64.wrap ((k : Int) + 1) = (k : Int) + 1 := IntWalk.i64_in _ (by omega)
            have l2 : ((k : Int) + 1).toNat = k + 1 := by omega
            go_wp2_with fail
            refine HRE.out.mono ?_
            rintro e w2 ⟨hb, (⟨q, hq, rfl⟩ | ⟨a2, its2, ha, rfl, hs⟩)⟩
            · have HB2 := hide (HB.out.trans hb)
              have HV : Hid (R = .inl q) := hide (by
                obtain ⟨rest, hrest⟩ := datI_pre HI2.out HP.out
                rw [← HRR.out, hrest]
                exact rdL_all (by show rdL _ (stepsOf (ps ++ [(s[k + 1], (0 : UInt8))])) 0 [] = _; rw [HSN.out]; exact rdL_seq_no HRD.out hq))
              have hq0 : (0 : Int) ≤ (q : Int) := by omega
              clear hb hq
              go_wp2_with fail
              go_ret3
              exact ⟨by rw [HV.out]; rfl, HB1.out.trans (HB2.out.mono HB1.out.size)⟩
            · have HB2 := hide (HB.out.trans hb)
              have HRD2 : Hid (rdL t.data.toList (stepsOf (ps ++ [(s[k + 1], (0 : UInt8))])) 0 [] = .inr (a2, its ++ its2)) := hide (by rw [HSN.out]; exact rdL_seq HRD.out ha)
              have HS2 := hide hs
              clear hb ha hs
              go_wp2_with fail
              go_roundw
              case rel => exact ⟨k + 2, a2, ps ++ [(s[k + 1], (0 : UInt8))], its ++ its2, by omega, by go_num, rfl, HI2, HRD2, HS2, HB2⟩
              case measure => simp [intOf]; omega
          · have := HI.out.no (by rw [HLS.out]; exact hk1) HC.out hm
            rw [HP.out] at this; cases this
      · have hcf : ((s[k].toNat : Int) != 37) = true := by
          have h3 : s[k].toNat ≠ 37 := fun e => hc (by apply UInt8.toNat_inj.1; rw [e]; rfl)
          simp; omega
        have HI2 := hide (HI.out.byte (by rw [HLS.out]; exact hlt) hc)
        have HI2' : Hid (DAtI s.data.toList (k + 1) (ps ++ [((0 : UInt8), s[k])])) := HI2
        have HSN : Hid (stepsOf (ps ++ [((0 : UInt8), s[k])]) = stepsOf ps ++ [.byte s[k]]) := hide (by rw [stepsOf_snoc]; rfl)
        have t0 : (0 : Int) ≤ (a : Int) := by omega
        have HNO : Hid (rdL t.data.toList [.byte s[k]] a [] = .inl a → R = .inl a) := hide (fun hq => by
          obtain ⟨rest, hrest⟩ := datI_pre HI2'.out HP.out
          rw [← HRR.out, hrest]
          exact rdL_all (by rw [HSN.out]; exact rdL_seq_no HRD.out hq))
        clear hc
        by_cases h1 : a < t.size
        · have t1 : ¬ (t.size : Int) ≤ (a : Int) := by omega
          have t1' : (a : Int) < (t.size : Int) := by omega
          have t1'' : decide ((t.size : Int) ≤ (a : Int)) = false := by simp; omega
          have t2n : decide (t.size ≤ a) = false := by simp; omega
          by_cases h2 : t[a] = s[k]
          · have d2 : ((t[a].toNat : Int) != (s[k].toNat : Int)) = false := by rw [h2]; simp
            have HRD2 : Hid (rdL t.data.toList (stepsOf (ps ++ [((0 : UInt8), s[k])])) 0 [] = .inr (a + 1, its ++ [])) := hide (by rw [HSN.out]; exact rdL_seq HRD.out (byte_yes h1 h2))
            have HF2 : Hid (FSt 54 64 w1.heap.size (its ++ []) wr) := hide (by rw [List.append_nil]; exact HFS.out)
            clear h2
            go_wp2_with fail
            go_quiet (fail)
            go_wp2_with fail
            go_roundw
            case rel => exact ⟨k + 1, a + 1, ps ++ [((0 : UInt8), s[k])], its ++ [], by omega, by go_num, by go_num, HI2', HRD2, hide HF2.out.drewN, hide (below_drewN HB.out _)⟩
            case measure => simp [intOf]; omega
          · have d2 : ((t[a].toNat : Int) != (s[k].toNat : Int)) = true := u8_neq h2
            have HV := hide (HNO.out (byte_no h1 h2))
            clear h2
            go_wp2_with fail
            go_quiet (fail)
            go_wp2_with fail
            go_ret3
            exact ⟨by rw [HV.out]; rfl, below_drewN HBW.out _⟩
        · have t1 : (t.size : Int) ≤ (a : Int) := by omega
          have t1'' : decide ((t.size : Int) ≤ (a : Int)) = true := by simp; omega
          have t2n : decide (t.size ≤ a) = true := by simp; omega
          have HV := hide (HNO.out (byte_end (by omega)))
          clear h1
          go_wp2_with fail
          go_quiet (fail)
          go_wp2_with fail
          go_ret3
          exact ⟨by rw [HV.out]; rfl, below_drewN HBW.out _⟩
    · have HDN := HI.out.done (by rw [HLS.out]; omega)
      rw [HP.out] at HDN
      obtain rfl := Option.some.inj HDN
      have HRV : Hid (R = .inr (a, its)) := hide (by rw [← HRR.out, HRD.out])
      clear HDN

      have HTN0 := hide (tH_nt its)
      obtain ⟨pv, hrr, hoo⟩ := HFS.out
      obtain ⟨⟨c0, c1, c2⟩, ⟨c3, c4, c5⟩, c6, c7, c8⟩ := hrr.cells
      clear hrr hoo
      by_cases hend : a < t.size
      · have hq : (a : Int) < (t.size : Int) := by omega
        have HV : Hid (outV t.size R o = (0, (a : Int), 1)) := hide (by rw [HRV.out]; show (if a < t.size then _ else _) = _; rw [if_pos hend])
        clear hend
        go_wp2_with fail
        go_ret3
        exact ⟨by rw [HV.out]; rfl, HBW.out⟩
      · have hq : ¬ (a : Int) < (t.size : Int) := by omega
        have HEND := hide hend
        have HRO := hide (HO.out _ _ HRV.out)
        have HIN : Hid (∀ i ∈ its, ItIn i) := hide (rdL_in _ _ _ _ _ HOK.out (fun i hi => by cases hi) HRD.out)
        have HPL : Hid (∀ i ∈ its, i.p.length ≤ t.data.toList.length) := hide (rdL_plen _ _ _ _ _ (fun i hi => by cases hi) HRD.out)
        have HNO : Hid (NoteOk (its.map nt)) := hide (noteOk_of HIN.out)
        obtain ⟨tm, htm⟩ : ∃ tm, timedL its = tm := ⟨_, rfl⟩
        have HTM := hide htm
        have e7 : wr.cell? ⟨w1.heap.size, 7, none⟩ = some (.bool tm) := by rw [c7]; show some (Value.bool (timedL its)) = _; rw [htm]
        have e6 : wr.cell? ⟨w1.heap.size, 6, none⟩ = some (.int .i64 (lastOf its 115 0)) := c6
        have e0 : wr.cell? ⟨w1.heap.size, 0, none⟩ = some (.int .i64 (lastOf its 89 1970)) := c0
        have e1 : wr.cell? ⟨w1.heap.size, 1, none⟩ = some (.int .i64 (lastOf its 109 1)) := c1
        have e2 : wr.cell? ⟨w1.heap.size, 2, none⟩ = some (.int .i64 (lastOf its 100 1)) := c2
        have e3 : wr.cell? ⟨w1.heap.size, 3, none⟩ = some (.int .i64 (lastOf its 72 0)) := c3
        have e4 : wr.cell? ⟨w1.heap.size, 4, none⟩ = some (.int .i64 (lastOf its 77 0)) := c4
        have e5 : wr.cell? ⟨w1.heap.size, 5, none⟩ = some (.int .i64 (lastOf its 83 0)) := c5
        have n0 := HNO.out.last64 (l := 115) (d := 0) (by omega)
        have n1 := HNO.out.last (l := 89) (by decide) (d := 1970) (by omega)
        have n2 := HNO.out.last (l := 109) (by decide) (d := 1) (by omega)
        have n3 := HNO.out.last (l := 100) (by decide) (d := 1) (by omega)
        have n4 := HNO.out.last (l := 72) (by decide) (d := 0) (by omega)
        have n5 := HNO.out.last (l := 77) (by decide) (d := 0) (by omega)
        have n6 := HNO.out.last (l := 83) (by decide) (d := 0) (by omega)
        rw [lastH_nt] at n0 n1 n2 n3 n4 n5 n6
        have HTN1 := hide HTN0.out
        rw [htm] at HTN1
        obtain ⟨y, hy⟩ : ∃ y, lastOf its 89 1970 = y := ⟨_, rfl⟩
        obtain ⟨m, hm⟩ : ∃ m, lastOf its 109 1 = m := ⟨_, rfl⟩
        obtain ⟨d, hd⟩ : ∃ d, lastOf its 100 1 = d := ⟨_, rfl⟩
        obtain ⟨hh, h4⟩ : ∃ x, lastOf its 72 0 = x := ⟨_, rfl⟩
        obtain ⟨mi, h5⟩ : ∃ x, lastOf its 77 0 = x := ⟨_, rfl⟩
        obtain ⟨ss, h6⟩ : ∃ x, lastOf its 83 0 = x := ⟨_, rfl⟩
        obtain ⟨tt, h7⟩ : ∃ x, lastOf its 115 0 = x := ⟨_, rfl⟩
        rw [hy, hm, hd, h4, h5, h6, h7] at HTN1
        rw [h7] at n0 e6
        rw [hy] at n1 e0
        rw [hm] at n2 e1
        rw [hd] at n3 e2
        rw [h4] at n4 e3
        rw [h5] at n5 e4
        rw [h6] at n6 e5
        clear hend htm hy hm hd h4 h5 h6 h7 c0 c1 c2 c3 c4 c5 c6 c7
        cases tm
        · have HTN := HTN1
          clear HTN1
          have HDN := hide (fun W => (DayNumber_any y m d W).mono fun e w' (h : _ ∧ W = w') => (⟨h.1, h.2.symm⟩ : _ ∧ w' = W))
          obtain ⟨N0, hN0⟩ : ∃ N0, (if dayB y m d then dn y m.toNat d else 0) = N0 := ⟨_, rfl⟩
          have HN0 := hide hN0
          simp only [hN0] at HDN
          cases hdb : dayB y m d
          · rw [hdb] at HDN HTN
            clear hN0
            go_wp2_with fail
            go_quiet ((go_at_call 23; exact Calls.quiet_of_same (HDN.out _)))
            have HV : Hid (outV t.size R o = (0, 0, 3)) := hide (by
              rw [HRV.out]
              show (if a < t.size then _ else _) = _
              rw [if_neg HEND.out, resO_none HRO.out (by rw [HTN.out]; rw [if_neg (by simp)]; rfl)]; rfl)
            go_wp2_with fail
            go_ret3
            exact ⟨by rw [HV.out]; rfl, below_drewN HBW.out _⟩
          · obtain ⟨g1, g2, g3, g4, g5, g6⟩ := dayB_in hdb
            have g7 := mdays_pos y m.toNat
            rw [hdb] at HDN HTN hN0
            rw [if_pos rfl] at hN0
            have HNB : -1000000 ≤ N0 ∧ N0 ≤ 9000000 := by
              have a1 := yb_le (y := y) (by omega) (by omega)
              have a2 := cum_le y (m.toNat - 1)
              rw [← hN0]
              unfold dn; omega
            rw [hN0] at HTN
            clear hN0 hdb HN0
            by_cases k1 : 23 < hh
            · have HF := hide (show decide (hh ≤ 23) = false by simp; omega)
              go_wp2_with fail
              go_quiet ((go_at_call 23; exact Calls.quiet_of_same (HDN.out _)))
              have HV : Hid (outV t.size R o = (0, 0, 3)) := hide (by
                rw [HRV.out]
                show (if a < t.size then _ else _) = _
                rw [if_neg HEND.out, resO_none HRO.out (by rw [HTN.out]; rw [if_neg (by simp), HF.out]; simp)]; rfl)
              go_wp2_with fail
              go_ret3
              exact ⟨by rw [HV.out]; rfl, below_drewN HBW.out _⟩
            · by_cases k2 : 59 < mi
              · have HF := hide (show decide (mi ≤ 59) = false by simp; omega)
                go_wp2_with fail
                go_quiet ((go_at_call 23; exact Calls.quiet_of_same (HDN.out _)))
                have HV : Hid (outV t.size R o = (0, 0, 3)) := hide (by
                  rw [HRV.out]
                  show (if a < t.size then _ else _) = _
                  rw [if_neg HEND.out, resO_none HRO.out (by rw [HTN.out]; rw [if_neg (by simp), HF.out]; simp)]; rfl)
                go_wp2_with fail
                go_ret3
                exact ⟨by rw [HV.out]; rfl, below_drewN HBW.out _⟩
              · by_cases k3 : 59 < ss
                · have HF := hide (show decide (ss ≤ 59) = false by simp; omega)
                  go_wp2_with fail
                  go_quiet ((go_at_call 23; exact Calls.quiet_of_same (HDN.out _)))
                  have HV : Hid (outV t.size R o = (0, 0, 3)) := hide (by
                    rw [HRV.out]
                    show (if a < t.size then _ else _) = _
                    rw [if_neg HEND.out, resO_none HRO.out (by rw [HTN.out]; rw [if_neg (by simp), HF.out]; simp)]; rfl)
                  go_wp2_with fail
                  go_ret3
                  exact ⟨by rw [HV.out]; rfl, below_drewN HBW.out _⟩
                · have HG := hide (show (true && decide (hh ≤ 23) && decide (mi ≤ 59) && decide (ss ≤ 59)) = true by simp; omega)
                  go_wp2_with fail
                  go_quiet ((go_at_call 23; exact Calls.quiet_of_same (HDN.out _)))
                  obtain ⟨wq, hwq⟩ : ∃ wq, wr.drewN nq = wq := ⟨_, rfl⟩
                  have HBQ : Hid (Below w1.heap.size w1 wq) := hide (by rw [← hwq]; exact below_drewN HB.out _)
                  have HFQ : Hid (FSt 54 64 w1.heap.size its wq) := hide (by rw [← hwq]; exact HFS.out.drewN)
                  have b3 : wq.cell? ⟨w1.heap.size, 3, none⟩ = some (.int .i64 hh) := by rw [← hwq]; exact e3
                  have b4 : wq.cell? ⟨w1.heap.size, 4, none⟩ = some (.int .i64 mi) := by rw [← hwq]; exact e4
                  have b5 : wq.cell? ⟨w1.heap.size, 5, none⟩ = some (.int .i64 ss) := by rw [← hwq]; exact e5
                  rw [hwq]
                  have k1' : ¬ (23 : Int) < hh := by omega
                  clear hwq e0 e1 e2 e3 e4 e5 e6 e7
                  obtain ⟨N1, q1⟩ : ∃ x, 86400 * N0 = x := ⟨_, rfl⟩
                  obtain ⟨N2, q2⟩ : ∃ x, 3600 * hh = x := ⟨_, rfl⟩
                  obtain ⟨N3, q3⟩ : ∃ x, 60 * mi = x := ⟨_, rfl⟩
                  have u1 : IntKind.i64.wrap (86400 * N0) = N1 := by rw [q1]; exact IntWalk.i64_in _ (by omega)
                  have u2 : IntKind.i64.wrap (3600 * hh) = N2 := by rw [q2]; exact IntWalk.i64_in _ (by omega)
                  have u3 : IntKind.i64.wrap (60 * mi) = N3 := by rw [q3]; exact IntWalk.i64_in _ (by omega)
                  have u4 : IntKind.i64.wrap (N1 + N2) = N1 + N2 := IntWalk.i64_in _ (by omega)
                  have u5 : IntKind.i64.wrap (N1 + N2 + N3) = N1 + N2 + N3 := IntWalk.i64_in _ (by omega)
                  have u6 : IntKind.i64.wrap (N1 + N2 + N3 + ss) = N1 + N2 + N3 + ss := IntWalk.i64_in _ (by omega)
                  rw [q1, q2, q3] at HTN
                  have hr0 : -9223372036854775808 ≤ N1 + N2 + N3 + ss ∧ N1 + N2 + N3 + ss ≤ 9223372036854775807 := by omega
                  clear q1 q2 q3
                  go_wp2_with fail
                  go_quiet (fail)
                  obtain ⟨wp, hwp⟩ : ∃ wp, wq.drewN nq = wp := ⟨_, rfl⟩
                  have HBP0 : Hid (Below w1.heap.size w1 wp) := hide (by rw [← hwp]; exact below_drewN HBQ.out _)
                  have HFP0 : Hid (FSt 54 64 w1.heap.size its wp) := hide (by rw [← hwp]; exact HFQ.out.drewN)
                  rw [hwp]
                  clear hwp b3 b4 b5 u1 u2 u3 u4 u5 u6
                  obtain ⟨TT, hTT⟩ : ∃ TT, N1 + N2 + N3 + ss = TT := ⟨_, rfl⟩
                  rw [hTT] at HTN hr0 ⊢
                  have HTN2 : Hid (tH (its.map nt) = if dInB TT then some TT else none) := hide (by rw [HTN.out, if_neg (by simp), HG.out, if_pos rfl])
                  clear hTT HTN HG
                  have HTN := HTN2
                  cases hda : dInB TT
                  · have HF := hide hda
                    have HMN := hide (fun W => moment_no TT W hr0.1 hr0.2 hda)
                    unfold dmoV dmo0 at HMN
                    simp only at HMN
                    go_wp2_with fail
                    refine (HMN.out _).mono ?_
                    rintro e w3 ⟨rfl, hb3⟩
                    have HBWP := hide (HB1.out.trans (HBP0.out.mono HB1.out.size))
                    have HB3 := hide ((HBWP.out.trans (hb3.mono HBWP.out.size)).alloc (HBWP.out.trans (hb3.mono HBWP.out.size)).size (dmoO dmo0 60))
                    clear hb3
                    have HV : Hid (outV t.size R o = (0, 0, 3)) := hide (by
                      rw [HRV.out]
                      show (if a < t.size then _ else _) = _
                      rw [if_neg HEND.out, resO_none HRO.out (by rw [HTN.out, HF.out]; rfl)]; rfl)
                    go_wp2_with fail
                    go_ret3
                    exact ⟨by rw [HV.out]; rfl, HB3.out⟩
                  · -- the loop
                    have HSO : Hid (∃ n r y m d, DIs TT n r y m d ∧ o = some (TT, dMo n r TT y m d)) := hide (resO_some HRO.out (by rw [HTN.out]; rw [if_pos hda]))
                    obtain ⟨n', r', y', m', d', hI, ho⟩ := HSO.out
                    have HRV2 := hide ho
                    have HMO := hide (fun W => moment_yes hI W)
                    have HPA := hide (fun (c : UInt8) (hc : c ∈ dLetters) W (hb : Below w.heap.size w W) => part_any (dMo n' r' TT y' m' d') hI.good c hc W (HT.out.below hb))
                    have HSI : Hid (∀ i ∈ its, (plainS (dTold (dMo n' r' TT y' m' d') i.c) = plainS i.p ↔ i.n = toldN (dMo n' r' TT y' m' d') i.c)) := hide (fun i hi => same_iff hI.good (HIN.out i hi).1.1)
                    have HLN : Hid (∀ c, (dTold (dMo n' r' TT y' m' d') c).length ≤ 100) := hide (fun c => dTold_len hI.good c)
                    obtain ⟨X, hX⟩ : ∃ X, dMo n' r' TT y' m' d' = X := ⟨_, rfl⟩
                    rw [hX] at HRV2 HSI HLN
                    simp only [hX] at HMO HPA
                    clear hX hI ho HSO
                    have HFV : Hid (∀ z, its.any (clash X false) = z → outV t.size R o = if z then (0, 0, 19) else (TT, 0, 0)) := hide (fun z hz => by
                      rw [HRV.out]
                      show (if a < t.size then _ else _) = _
                      rw [if_neg HEND.out, HRV2.out]
                      unfold resV timedH
                      simp only [timedH_nt, HTM.out, clash_any, hz]
                      cases z <;> rfl)
                    obtain ⟨x0, x1, x2, x3, x4, x5, x6, x7, x8⟩ := X
                    have HX : ∃ X, X = DMo.mk x0 x1 x2 x3 x4 x5 x6 x7 x8 := ⟨_, rfl⟩
                    obtain ⟨X, HXe⟩ := HX
                    rw [← HXe] at HSI HLN HFV
                    unfold dmoV at HMO HPA
                    simp only at HMO HPA
                    rw [← HXe] at HPA
                    have HXE := hide HXe
                    clear HXe
                    go_wp2_with fail
                    refine (HMO.out _).mono ?_
                    rintro e w3 ⟨rfl, hb3⟩
                    have HB3 : Hid (Below w1.heap.size w1 w3) := hide (HBP0.out.trans (hb3.mono HBP0.out.size))
                    have HF3 : Hid (FSt 54 64 w1.heap.size its w3) := hide (HFP0.out.below hb3)
                    have EN0 := hide (DEnv.start 60 X w3)
                    have HFA : Hid (FSt 54 64 w1.heap.size its (w3.alloc (dmoO X 60))) := hide (HF3.out.below ((Below.refl _ _).alloc (Nat.le_refl _) _))
                    obtain ⟨pv2, hr2, ho2⟩ := HFA.out
                    have HCF : Hid ((w3.alloc (dmoO X 60)).cell? ⟨w1.heap.size, 8, none⟩ = some pv2 ∧ (w3.alloc (dmoO X 60)).cell? ⟨w1.heap.size, 7, none⟩ = some (.bool false)) := hide ⟨hr2.cells.2.2.2.2, by rw [hr2.cells.2.2.2.1]; show some (Value.bool (timedL its)) = _; rw [HTM.out]⟩
                    have hlr := hr2.lt
                    have hrd := Rd.of_own ho2
                    obtain ⟨_, A, cap, rfl, hcap, hmax, hx⟩ := hrd
                    have HX1 := hide hx
                    have hcf := HCF.out.1
                    unfold dmoO at EN0 HCF HX1 hcf hlr
                    rw [HXE.out] at EN0 HCF HX1 hcf hlr
                    simp only at EN0 HCF HX1 hcf hlr
                    rw [← HXE.out] at EN0
                    clear hb3 hr2 ho2 hx
                    go_wp2_with fail
                    obtain ⟨w4, hw4⟩ : ∃ w4, w3.alloc (.cells #[.int .i64 x0, .int .i64 x1, .int .i64 x2, .int .i64 x3, .int .i64 x4, .int .i64 x5, .int .i64 x6, .int .i64 x7, .int .i64 x8] 60) = w4 := ⟨_, rfl⟩
                    rw [hw4] at EN0 HCF HX1 hcf hlr ⊢
                    have HB4 : Hid (Below w1.heap.size w1 w4) := hide (by rw [← hw4]; exact HB3.out.alloc HB3.out.size _)
                    clear hw4
                    go_loopw [160] (fun i wr => ∃ k : Nat, k ≤ its.length ∧ i = .int .i64 (k : Int) ∧ Hid ((its.take k).any (clash X false) = false) ∧ Hid (Below w4.heap.size w4 wr)) (fun i _ => its.length - (intOf i).toNat)
                    case atStart => exact ⟨0, by omega, rfl, hide rfl, hide (Below.refl _ _)⟩
                    case round =>
                      obtain ⟨k2, hk2, rfl, HS, HBL⟩ := hrel
                      have HBG := hide (HB1.out.trans ((HB4.out.trans (HBL.out.mono HB4.out.size)).mono HB1.out.size))
                      by_cases hlt2 : k2 < its.length
                      · obtain ⟨b', o', rfl, hb', hj⟩ := HX1.out (by omega)
                        obtain ⟨a1, a2⟩ := pCells_at its k2 its[k2] (List.getElem?_eq_getElem hlt2)
                        have c0 : wr.cell? ⟨b', o' + k2 * 2, none⟩ = some (.int .u8 (its[k2].c.toNat : Int)) := (HBL.out.cell (p := ⟨b', o' + k2 * 2, none⟩) hb').trans (hj _ _ a1)
                        have c1 : wr.cell? ⟨b', o' + k2 * 2 + 1, none⟩ = some (.string (mkB its[k2].p)) := (HBL.out.cell (p := ⟨b', o' + k2 * 2 + 1, none⟩) hb').trans (hj (k2 * 2 + 1) _ a2)
                        have HNX : Hid ((its.take (k2 + 1)).any (clash X false) = clash X false its[k2]) := hide (by rw [List.take_succ_eq_append_getElem hlt2, List.any_append, HS.out]; simp)
                        have HAL : Hid (clash X false its[k2] = true → its.any (clash X false) = true) := hide (fun h => List.any_eq_true.2 ⟨_, List.getElem_mem hlt2, h⟩)
                        have HIN2 := hide (HIN.out _ (List.getElem_mem hlt2))
                        have HPL2 := hide (HPL.out _ (List.getElem_mem hlt2))
                        have HSI2 := hide (HSI.out _ (List.getElem_mem hlt2))
                        obtain ⟨⟨q1, q2, q3⟩, hr⟩ : ∃ x, its[k2] = x := ⟨_, rfl⟩
                        rw [hr] at c0 c1 HNX HAL HIN2 HPL2 HSI2
                        simp only at c0 c1 HNX HAL HIN2 HPL2 HSI2
                        have HDL : Hid (q1 ∈ dLetters) := hide (oneLetters_d HIN2.out.2.1)
                        have HPC := hide (HPA.out q1 HDL.out)
                        have HSP := hide (fun W => samePart_any (mkB (dTold X q1)) (mkB q3) W (by rw [mkB_size]; exact Nat.le_trans (HLN.out q1) (by omega)) (by rw [mkB_size]; have := HPL2.out; have := HLT.out; omega))
                        have HSV : Hid (decide (plainS (mkB (dTold X q1)).data.toList = plainS (mkB q3).data.toList) = decide (q2 = toldN X q1)) := hide (by rw [mkB_data, mkB_data]; exact decide_eq_decide.2 HSI2.out)
                        have HIJ := hide (fun W => in_any (⟨#[121, 106, 117, 97]⟩ : ByteArray) q1 W (by decide))
                        have HIV : Hid (hasB q1 (⟨#[121, 106, 117, 97]⟩ : ByteArray).data.toList = decide (mapL q1 ∈ ([121, 106, 117] : List UInt8))) := hide (yjua_iff q1).symm
                        have HCL : Hid (clash X false ⟨q1, q2, q3⟩ = ((false || decide (mapL q1 ∈ ([121, 106, 117] : List UInt8))) && decide (q2 ≠ toldN X q1))) := hide rfl
                        obtain ⟨sv, hsv⟩ : ∃ sv, decide (plainS (mkB (dTold X q1)).data.toList = plainS (mkB q3).data.toList) = sv := ⟨_, rfl⟩
                        obtain ⟨iv, hiv⟩ : ∃ iv, hasB q1 (⟨#[121, 106, 117, 97]⟩ : ByteArray).data.toList = iv := ⟨_, rfl⟩
                        rw [hsv] at HSV
                        rw [hiv] at HIV
                        simp only [hsv] at HSP
                        simp only [hiv] at HIJ
                        have HCC : Hid (clash X false ⟨q1, q2, q3⟩ = ((false || iv) && !sv)) := hide (by rw [HCL.out, HIV.out, HSV.out]; simp)
                        obtain ⟨st, hst⟩ : ∃ st, mkB (dTold X q1) = st := ⟨_, rfl⟩
                        obtain ⟨sp, hsp⟩ : ∃ sp, mkB q3 = sp := ⟨_, rfl⟩
                        simp only [hst, hsp] at HSP
                        simp only [hst] at HPC
                        rw [hsp] at c1
                        have hd : (k2 : Int) < (its.length : Int) := by omega
                        have HENW := hide (EN0.out.next HBL.out)
                        have hl3 : w3.heap.size < wr.heap.size := (Array.getElem?_eq_some_iff.1 HENW.out.row).1
                        obtain ⟨⟨e0, e1, e2⟩, ⟨e3, e4, e5⟩, e6, e7, e8⟩ := HENW.out.cells9
                        rw [HXE.out] at e0 e1 e2 e3 e4 e5 e6 e7 e8
                        simp only at e0 e1 e2 e3 e4 e5 e6 e7 e8
                        have HBP := hide (HBG.out.alloc HBG.out.size (.cells #[.int .u8 (q1.toNat : Int), .string sp] 64))
                        have HA0 : Hid ((wr.alloc (.cells #[.int .u8 (q1.toNat : Int), .string sp] 64)).cell? ⟨wr.heap.size, 0, none⟩ = some (.int .u8 (q1.toNat : Int))) := hide (by rw [World.cell?_alloc_new]; rfl)
                        have HA1 : Hid ((wr.alloc (.cells #[.int .u8 (q1.toNat : Int), .string sp] 64)).cell? ⟨wr.heap.size, 1, none⟩ = some (.string sp)) := hide (by rw [World.cell?_alloc_new]; rfl)
                        have hzr := HBL.out.size
                        have HC7 : Hid (wr.cell? ⟨w1.heap.size, 7, none⟩ = some (.bool false)) := hide ((HBL.out.cell (p := ⟨w1.heap.size, 7, none⟩) hlr).trans HCF.out.2)
                        have hl7 : w1.heap.size < wr.heap.size := by omega
                        clear hj a1 a2 hr hst hsp hsv hiv hcf
                        go_wp2_with fail
                        refine (HPC.out _ HBP.out).mono ?_
                        rintro e v1 ⟨rfl, hb1⟩
                        have HBX1 := hide (HBP.out.trans (hb1.mono HBP.out.size))
                        have HBL1 : Hid (Below w4.heap.size w4 v1) := hide ((HBL.out.alloc hzr _).trans (hb1.mono (by simp; omega)))
                        have d0 := (hb1.cell (p := ⟨wr.heap.size, 0, none⟩) (by simp)).trans HA0.out
                        have d1 := (hb1.cell (p := ⟨wr.heap.size, 1, none⟩) (by simp)).trans HA1.out
                        have d7 : v1.cell? ⟨w1.heap.size, 7, none⟩ = some (.bool false) := (hb1.cell (p := ⟨w1.heap.size, 7, none⟩) (by simp; omega)).trans ((((Below.refl wr.heap.size wr).alloc (Nat.le_refl _) _).cell (p := ⟨w1.heap.size, 7, none⟩) hl7).trans HC7.out)
                        have hzv : wr.heap.size < v1.heap.size := by have := hb1.size; simp at this; omega
                        clear hb1 c0 c1 e0 e1 e2 e3 e4 e5 e6 e7 e8
                        go_wp2_with fail
                        refine (HSP.out _).mono ?_
                        rintro e v2 ⟨rfl, hb2⟩
                        have HBX2 := hide (HBX1.out.trans (hb2.mono HBX1.out.size))
                        have HBL2 : Hid (Below w4.heap.size w4 v2) := hide (HBL1.out.trans (hb2.mono HBL1.out.size))
                        have g0 := (hb2.cell (p := ⟨wr.heap.size, 0, none⟩) hzv).trans d0
                        have g7 := (hb2.cell (p := ⟨w1.heap.size, 7, none⟩) (by simp only; omega)).trans d7
                        clear hb2 d0 d1 d7
                        cases sv
                        · cases iv
                          · have HCF2 : Hid ((its.take (k2 + 1)).any (clash X false) = false) := hide (by rw [HNX.out, HCC.out]; rfl)
                            go_wp2_with fail
                            refine (HIJ.out _).mono ?_
                            rintro e v3 ⟨rfl, rfl⟩
                            go_wp2_with fail
                            go_roundw
                            case rel => exact ⟨k2 + 1, by omega, by go_num, HCF2, HBL2⟩
                            case measure => simp [intOf]; omega
                          · go_wp2_with fail
                            refine (HIJ.out _).mono ?_
                            rintro e v3 ⟨rfl, rfl⟩
                            have HVV := hide (HFV.out true (HAL.out (by rw [HCC.out]; rfl)))
                            go_wp2_with fail
                            go_ret3
                            exact ⟨by rw [HVV.out]; rfl, HBX2.out⟩
                        · have HCF2 : Hid ((its.take (k2 + 1)).any (clash X false) = false) := hide (by rw [HNX.out, HCC.out]; simp)
                          go_wp2_with fail
                          go_roundw
                          case rel => exact ⟨k2 + 1, by omega, by go_num, HCF2, HBL2⟩
                          case measure => simp [intOf]; omega
                      · obtain rfl : k2 = its.length := by omega
                        have hd : ¬ ((its.length : Int) < (its.length : Int)) := by omega
                        rw [List.take_length] at HS
                        have HVV := hide (HFV.out _ HS.out)
                        go_wp2_with fail
                        go_ret3
                        exact ⟨by rw [HVV.out]; rfl, HBG.out⟩
        · have HTN : Hid (tH (its.map nt) = if dInB tt then some tt else none) := hide (by rw [HTN1.out, if_pos rfl])
          clear HTN1
          cases hda : dInB tt
          · have HF := hide hda
            have HMN := hide (fun W => moment_no tt W n0.1 n0.2 hda)
            unfold dmoV dmo0 at HMN
            simp only at HMN
            go_wp2_with fail
            refine (HMN.out _).mono ?_
            rintro e w3 ⟨rfl, hb3⟩
            have HB3 := hide ((HBW.out.trans (hb3.mono HBW.out.size)).alloc (HBW.out.trans (hb3.mono HBW.out.size)).size (dmoO dmo0 60))
            clear hb3
            have HV : Hid (outV t.size R o = (0, 0, 3)) := hide (by
              rw [HRV.out]
              show (if a < t.size then _ else _) = _
              rw [if_neg HEND.out, resO_none HRO.out (by rw [HTN.out]; rw [HF.out]; rfl)]; rfl)
            go_wp2_with fail
            go_ret3
            exact ⟨by rw [HV.out]; rfl, HB3.out⟩
          · -- the loop
            have HSO : Hid (∃ n r y m d, DIs tt n r y m d ∧ o = some (tt, dMo n r tt y m d)) := hide (resO_some HRO.out (by rw [HTN.out]; rw [if_pos hda]))
            obtain ⟨n', r', y', m', d', hI, ho⟩ := HSO.out
            have HRV2 := hide ho
            have HMO := hide (fun W => moment_yes hI W)
            have HPA := hide (fun (c : UInt8) (hc : c ∈ dLetters) W (hb : Below w.heap.size w W) => part_any (dMo n' r' tt y' m' d') hI.good c hc W (HT.out.below hb))
            have HSI : Hid (∀ i ∈ its, (plainS (dTold (dMo n' r' tt y' m' d') i.c) = plainS i.p ↔ i.n = toldN (dMo n' r' tt y' m' d') i.c)) := hide (fun i hi => same_iff hI.good (HIN.out i hi).1.1)
            have HLN : Hid (∀ c, (dTold (dMo n' r' tt y' m' d') c).length ≤ 100) := hide (fun c => dTold_len hI.good c)
            obtain ⟨X, hX⟩ : ∃ X, dMo n' r' tt y' m' d' = X := ⟨_, rfl⟩
            rw [hX] at HRV2 HSI HLN
            simp only [hX] at HMO HPA
            clear hX hI ho HSO
            have HFV : Hid (∀ z, its.any (clash X true) = z → outV t.size R o = if z then (0, 0, 19) else (tt, 0, 0)) := hide (fun z hz => by
              rw [HRV.out]
              show (if a < t.size then _ else _) = _
              rw [if_neg HEND.out, HRV2.out]
              unfold resV timedH
              simp only [timedH_nt, HTM.out, clash_any, hz]
              cases z <;> rfl)
            obtain ⟨x0, x1, x2, x3, x4, x5, x6, x7, x8⟩ := X
            have HX : ∃ X, X = DMo.mk x0 x1 x2 x3 x4 x5 x6 x7 x8 := ⟨_, rfl⟩
            obtain ⟨X, HXe⟩ := HX
            rw [← HXe] at HSI HLN HFV
            unfold dmoV at HMO HPA
            simp only at HMO HPA
            rw [← HXe] at HPA
            have HXE := hide HXe
            clear HXe
            go_wp2_with fail
            refine (HMO.out _).mono ?_
            rintro e w3 ⟨rfl, hb3⟩
            have HB3 : Hid (Below w1.heap.size w1 w3) := hide (HB.out.trans (hb3.mono HB.out.size))
            have HF3 : Hid (FSt 54 64 w1.heap.size its w3) := hide (HFS.out.below hb3)
            have EN0 := hide (DEnv.start 60 X w3)
            have HFA : Hid (FSt 54 64 w1.heap.size its (w3.alloc (dmoO X 60))) := hide (HF3.out.below ((Below.refl _ _).alloc (Nat.le_refl _) _))
            obtain ⟨pv2, hr2, ho2⟩ := HFA.out
            have HCF : Hid ((w3.alloc (dmoO X 60)).cell? ⟨w1.heap.size, 8, none⟩ = some pv2 ∧ (w3.alloc (dmoO X 60)).cell? ⟨w1.heap.size, 7, none⟩ = some (.bool true)) := hide ⟨hr2.cells.2.2.2.2, by rw [hr2.cells.2.2.2.1]; show some (Value.bool (timedL its)) = _; rw [HTM.out]⟩
            have hlr := hr2.lt
            have hrd := Rd.of_own ho2
            obtain ⟨_, A, cap, rfl, hcap, hmax, hx⟩ := hrd
            have HX1 := hide hx
            have hcf := HCF.out.1
            unfold dmoO at EN0 HCF HX1 hcf hlr
            rw [HXE.out] at EN0 HCF HX1 hcf hlr
            simp only at EN0 HCF HX1 hcf hlr
            rw [← HXE.out] at EN0
            clear hb3 hr2 ho2 hx
            go_wp2_with fail
            obtain ⟨w4, hw4⟩ : ∃ w4, w3.alloc (.cells #[.int .i64 x0, .int .i64 x1, .int .i64 x2, .int .i64 x3, .int .i64 x4, .int .i64 x5, .int .i64 x6, .int .i64 x7, .int .i64 x8] 60) = w4 := ⟨_, rfl⟩
            rw [hw4] at EN0 HCF HX1 hcf hlr ⊢
            have HB4 : Hid (Below w1.heap.size w1 w4) := hide (by rw [← hw4]; exact HB3.out.alloc HB3.out.size _)
            clear hw4
            go_loopw [160] (fun i wr => ∃ k : Nat, k ≤ its.length ∧ i = .int .i64 (k : Int) ∧ Hid ((its.take k).any (clash X true) = false) ∧ Hid (Below w4.heap.size w4 wr)) (fun i _ => its.length - (intOf i).toNat)
            case atStart => exact ⟨0, by omega, rfl, hide rfl, hide (Below.refl _ _)⟩
            case round =>
              obtain ⟨k2, hk2, rfl, HS, HBL⟩ := hrel
              have HBG := hide (HB1.out.trans ((HB4.out.trans (HBL.out.mono HB4.out.size)).mono HB1.out.size))
              by_cases hlt2 : k2 < its.length
              · obtain ⟨b', o', rfl, hb', hj⟩ := HX1.out (by omega)
                obtain ⟨a1, a2⟩ := pCells_at its k2 its[k2] (List.getElem?_eq_getElem hlt2)
                have c0 : wr.cell? ⟨b', o' + k2 * 2, none⟩ = some (.int .u8 (its[k2].c.toNat : Int)) := (HBL.out.cell (p := ⟨b', o' + k2 * 2, none⟩) hb').trans (hj _ _ a1)
                have c1 : wr.cell? ⟨b', o' + k2 * 2 + 1, none⟩ = some (.string (mkB its[k2].p)) := (HBL.out.cell (p := ⟨b', o' + k2 * 2 + 1, none⟩) hb').trans (hj (k2 * 2 + 1) _ a2)
                have HNX : Hid ((its.take (k2 + 1)).any (clash X true) = clash X true its[k2]) := hide (by rw [List.take_succ_eq_append_getElem hlt2, List.any_append, HS.out]; simp)
                have HAL : Hid (clash X true its[k2] = true → its.any (clash X true) = true) := hide (fun h => List.any_eq_true.2 ⟨_, List.getElem_mem hlt2, h⟩)
                have HIN2 := hide (HIN.out _ (List.getElem_mem hlt2))
                have HPL2 := hide (HPL.out _ (List.getElem_mem hlt2))
                have HSI2 := hide (HSI.out _ (List.getElem_mem hlt2))
                obtain ⟨⟨q1, q2, q3⟩, hr⟩ : ∃ x, its[k2] = x := ⟨_, rfl⟩
                rw [hr] at c0 c1 HNX HAL HIN2 HPL2 HSI2
                simp only at c0 c1 HNX HAL HIN2 HPL2 HSI2
                have HDL : Hid (q1 ∈ dLetters) := hide (oneLetters_d HIN2.out.2.1)
                have HPC := hide (HPA.out q1 HDL.out)
                have HSP := hide (fun W => samePart_any (mkB (dTold X q1)) (mkB q3) W (by rw [mkB_size]; exact Nat.le_trans (HLN.out q1) (by omega)) (by rw [mkB_size]; have := HPL2.out; have := HLT.out; omega))
                have HSV : Hid (decide (plainS (mkB (dTold X q1)).data.toList = plainS (mkB q3).data.toList) = decide (q2 = toldN X q1)) := hide (by rw [mkB_data, mkB_data]; exact decide_eq_decide.2 HSI2.out)
                have HIJ := hide (fun W => in_any (⟨#[121, 106, 117, 97]⟩ : ByteArray) q1 W (by decide))
                have HIV : Hid (hasB q1 (⟨#[121, 106, 117, 97]⟩ : ByteArray).data.toList = decide (mapL q1 ∈ ([121, 106, 117] : List UInt8))) := hide (yjua_iff q1).symm
                have HCL : Hid (clash X true ⟨q1, q2, q3⟩ = ((true || decide (mapL q1 ∈ ([121, 106, 117] : List UInt8))) && decide (q2 ≠ toldN X q1))) := hide rfl
                obtain ⟨sv, hsv⟩ : ∃ sv, decide (plainS (mkB (dTold X q1)).data.toList = plainS (mkB q3).data.toList) = sv := ⟨_, rfl⟩
                obtain ⟨iv, hiv⟩ : ∃ iv, hasB q1 (⟨#[121, 106, 117, 97]⟩ : ByteArray).data.toList = iv := ⟨_, rfl⟩
                rw [hsv] at HSV
                rw [hiv] at HIV
                simp only [hsv] at HSP
                simp only [hiv] at HIJ
                have HCC : Hid (clash X true ⟨q1, q2, q3⟩ = ((true || iv) && !sv)) := hide (by rw [HCL.out, HIV.out, HSV.out]; simp)
                obtain ⟨st, hst⟩ : ∃ st, mkB (dTold X q1) = st := ⟨_, rfl⟩
                obtain ⟨sp, hsp⟩ : ∃ sp, mkB q3 = sp := ⟨_, rfl⟩
                simp only [hst, hsp] at HSP
                simp only [hst] at HPC
                rw [hsp] at c1
                have hd : (k2 : Int) < (its.length : Int) := by omega
                have HENW := hide (EN0.out.next HBL.out)
                have hl3 : w3.heap.size < wr.heap.size := (Array.getElem?_eq_some_iff.1 HENW.out.row).1
                obtain ⟨⟨e0, e1, e2⟩, ⟨e3, e4, e5⟩, e6, e7, e8⟩ := HENW.out.cells9
                rw [HXE.out] at e0 e1 e2 e3 e4 e5 e6 e7 e8
                simp only at e0 e1 e2 e3 e4 e5 e6 e7 e8
                have HBP := hide (HBG.out.alloc HBG.out.size (.cells #[.int .u8 (q1.toNat : Int), .string sp] 64))
                have HA0 : Hid ((wr.alloc (.cells #[.int .u8 (q1.toNat : Int), .string sp] 64)).cell? ⟨wr.heap.size, 0, none⟩ = some (.int .u8 (q1.toNat : Int))) := hide (by rw [World.cell?_alloc_new]; rfl)
                have HA1 : Hid ((wr.alloc (.cells #[.int .u8 (q1.toNat : Int), .string sp] 64)).cell? ⟨wr.heap.size, 1, none⟩ = some (.string sp)) := hide (by rw [World.cell?_alloc_new]; rfl)
                have hzr := HBL.out.size
                have HC7 : Hid (wr.cell? ⟨w1.heap.size, 7, none⟩ = some (.bool true)) := hide ((HBL.out.cell (p := ⟨w1.heap.size, 7, none⟩) hlr).trans HCF.out.2)
                have hl7 : w1.heap.size < wr.heap.size := by omega
                clear hj a1 a2 hr hst hsp hsv hiv hcf
                go_wp2_with fail
                refine (HPC.out _ HBP.out).mono ?_
                rintro e v1 ⟨rfl, hb1⟩
                have HBX1 := hide (HBP.out.trans (hb1.mono HBP.out.size))
                have HBL1 : Hid (Below w4.heap.size w4 v1) := hide ((HBL.out.alloc hzr _).trans (hb1.mono (by simp; omega)))
                have d0 := (hb1.cell (p := ⟨wr.heap.size, 0, none⟩) (by simp)).trans HA0.out
                have d1 := (hb1.cell (p := ⟨wr.heap.size, 1, none⟩) (by simp)).trans HA1.out
                have d7 : v1.cell? ⟨w1.heap.size, 7, none⟩ = some (.bool true) := (hb1.cell (p := ⟨w1.heap.size, 7, none⟩) (by simp; omega)).trans ((((Below.refl wr.heap.size wr).alloc (Nat.le_refl _) _).cell (p := ⟨w1.heap.size, 7, none⟩) hl7).trans HC7.out)
                have hzv : wr.heap.size < v1.heap.size := by have := hb1.size; simp at this; omega
                clear hb1 c0 c1 e0 e1 e2 e3 e4 e5 e6 e7 e8
                go_wp2_with fail
                refine (HSP.out _).mono ?_
                rintro e v2 ⟨rfl, hb2⟩
                have HBX2 := hide (HBX1.out.trans (hb2.mono HBX1.out.size))
                have HBL2 : Hid (Below w4.heap.size w4 v2) := hide (HBL1.out.trans (hb2.mono HBL1.out.size))
                have g0 := (hb2.cell (p := ⟨wr.heap.size, 0, none⟩) hzv).trans d0
                have g7 := (hb2.cell (p := ⟨w1.heap.size, 7, none⟩) (by simp only; omega)).trans d7
                clear hb2 d0 d1 d7
                cases sv
                · have HVV := hide (HFV.out true (HAL.out (by rw [HCC.out]; rfl)))
                  go_wp2_with fail
                  go_ret3
                  exact ⟨by rw [HVV.out]; rfl, HBX2.out⟩
                · have HCF2 : Hid ((its.take (k2 + 1)).any (clash X true) = false) := hide (by rw [HNX.out, HCC.out]; simp)
                  go_wp2_with fail
                  go_roundw
                  case rel => exact ⟨k2 + 1, by omega, by go_num, HCF2, HBL2⟩
                  case measure => simp [intOf]; omega
              · obtain rfl : k2 = its.length := by omega
                have hd : ¬ ((its.length : Int) < (its.length : Int)) := by omega
                rw [List.take_length] at HS
                have HVV := hide (HFV.out _ HS.out)
                go_wp2_with fail
                go_ret3
                exact ⟨by rw [HVV.out]; rfl, HBG.out⟩
end Go.Proofs.YtifpmigghplmoaaGreatDoor

/- DReadZ -/
set_option linter.unusedVariables false
set_option linter.unusedSimpArgs false
namespace Go.Proofs.YtifpmigghplmoaaGreatDoor
open Go.RowKit Go.Pw
set_option maxHeartbeats 4000000 in
set_option maxRecDepth 100000 in
theorem dateReadMatches_of (t s : ByteArray) (a b c : Int) (w : World)
    (hf : ∀ V, Below w.heap.size w V → Calls Tryz.prog 6 #[.string t, .string s] V fun e w' => e = .returned (.tuple #[.int .i64 a, .int .i64 b, .int .i64 c]) ∧ Below V.heap.size V w')
    (hg : ∀ V, Below w.heap.size w V → Calls Tryz.prog 7 #[.string t, .string s] V fun e w' => e = .returned (.tuple #[.int .i64 a, .int .i64 b, .int .i64 c]) ∧ Below V.heap.size V w') :
    Calls Tryz.prog 3 #[.string t, .string s] w fun e w' => e = .returned (.bool true) ∧ Below w.heap.size w w' := by
  have HF := hide hf
  have HG := hide hg
  clear hf hg
  go_enter Tryz.func3, Tryz.ntmps3
  go_wp2_with fail
  refine (HF.out _ (Below.refl _ _)).mono ?_
  rintro e w1 ⟨rfl, hb1⟩
  have HB1 := hide hb1
  clear hb1
  go_wp2_with fail
  refine (HG.out _ HB1.out).mono ?_
  rintro e w2 ⟨rfl, hb2⟩
  have HB2 := hide (HB1.out.trans (hb2.mono HB1.out.size))
  clear hb2
  go_wp2_with fail
  refine (sorts_any _).mono ?_
  rintro e w3 ⟨rfl, hb3⟩
  have HB3 := hide (HB2.out.trans (hb3.mono HB2.out.size))
  clear hb3
  have e1 : (a == a) = true := by simp
  have e2 : (b == b) = true := by simp
  have e3 : (c == c) = true := by simp
  go_wp2_with fail
  go_ret
  exact ⟨rfl, HB3.out⟩
theorem tH_in {hs : List (UInt8 × Int)} (h : NoteOk hs) {t : Int} (ht : tH hs = some t) : ∃ n r y m d, DIs t n r y m d := by
  have key : ∀ x : Int, -9223372036854775808 ≤ x → x ≤ 9223372036854775807 → dInB x = true → x = t → ∃ n r y m d, DIs t n r y m d := by
    rintro x h0 h1 h2 rfl
    exact dis_ex h0 h1 h2
  unfold tH at ht
  by_cases h1 : timedH hs = true
  · rw [if_pos h1] at ht
    by_cases h2 : dInB (lastH hs 115 0) = true
    · rw [if_pos h2] at ht
      have := h.last64 (l := 115) (d := 0) (by omega)
      exact key _ this.1 this.2 h2 (Option.some.inj ht)
    · rw [if_neg h2] at ht; cases ht
  · rw [if_neg h1] at ht
    by_cases h3 : okH hs = true
    · rw [if_pos h3] at ht
      by_cases h2 : dInB (secH hs) = true
      · rw [if_pos h2] at ht
        have hd : dayB (lastH hs 89 1970) (lastH hs 109 1) (lastH hs 100 1) = true := by
          unfold okH at h3
          simp only [Bool.and_eq_true] at h3
          exact h3.1.1.1
        obtain ⟨g1, g2, g3, g4, g5, g6⟩ := dayB_in hd
        have g7 := mdays_pos (lastH hs 89 1970) (lastH hs 109 1).toNat
        have a1 := yb_le (y := lastH hs 89 1970) (by omega) (by omega)
        have a2 := cum_le (lastH hs 89 1970) ((lastH hs 109 1).toNat - 1)
        have n4 := h.last (l := 72) (by decide) (d := 0) (by omega)
        have n5 := h.last (l := 77) (by decide) (d := 0) (by omega)
        have n6 := h.last (l := 83) (by decide) (d := 0) (by omega)
        have hb : -9223372036854775808 ≤ secH hs ∧ secH hs ≤ 9223372036854775807 := by
          unfold secH dn; omega
        exact key _ hb.1 hb.2 h2 (Option.some.inj ht)
      · rw [if_neg h2] at ht; cases ht
    · rw [if_neg h3] at ht; cases ht
theorem resO_ex {hs : List (UInt8 × Int)} (h : NoteOk hs) : ∃ o, ResO hs o := by
  cases ht : tH hs with
  | none => exact ⟨none, ht⟩
  | some t =>
    obtain ⟨n, r, y, m, d, hI⟩ := tH_in h ht
    exact ⟨some (t, dMo n r t y m d), ht, n, r, y, m, d, hI, rfl⟩
theorem dateReadMatches_any (t s : ByteArray) (w : World) (ht : t.size ≤ maxLen) (hs : s.size ≤ maxLen) (hT : PowTab w) (hA : SpTab w) :
    Calls Tryz.prog 3 #[.string t, .string s] w fun e w' => e = .returned (.bool true) ∧ Below w.heap.size w w' := by
  by_cases hl : 200 < s.size ∨ 65536 < t.size
  · exact dateReadMatches_of t s 0 0 2 w (fun V _ => PDate_large t s V hl) (fun V _ => DateRead_large t s V hl)
  · have h1 : s.size ≤ 200 := by omega
    have h2 : t.size ≤ 65536 := by omega
    cases hp : dParse s.data.toList with
    | none => exact dateReadMatches_of t s 0 0 1 w (fun V _ => PDate_syntax t s V h1 h2 hp) (fun V hb => DateRead_syntax t s V h1 h2 hp (hT.below hb))
    | some ps =>
      have hlet := dParse_letters _ _ (Nat.le_refl _) ps hp
      have hex : ∃ o, ∀ a its, rdL t.data.toList (stepsOf ps) 0 [] = .inr (a, its) → ResO (its.map nt) o := by
        cases hR : rdL t.data.toList (stepsOf ps) 0 [] with
        | inl q => exact ⟨none, fun a its e => by cases e⟩
        | inr x =>
          obtain ⟨a, its⟩ := x
          obtain ⟨o, ho⟩ := resO_ex (noteOk_of (rdL_in _ _ _ _ _ (stepsOf_ok (fun p hpm => (hlet p hpm).imp id (fun x => x.1))) (fun i hi => by cases hi) hR))
          refine ⟨o, fun a' its' e => ?_⟩
          obtain ⟨rfl, rfl⟩ := Prod.mk.inj (Sum.inr.inj e)
          exact ho
      obtain ⟨o, hO⟩ := hex
      exact dateReadMatches_of t s _ _ _ w (fun V hb => PDate_any t s V h1 h2 ps hp _ rfl o hO (hT.below hb) (hA.below hb)) (fun V hb => DateRead_any t s V h1 h2 ps hp _ rfl o hO (hT.below hb))
end Go.Proofs.YtifpmigghplmoaaGreatDoor
