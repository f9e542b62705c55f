/- A time is read along a format: the program's reader: digits, byte, is. -/
import Derived.Test.YtifpmigghplmoaaGreatDoorZDrA
import Derived.Test.YtifpmigghplmoaaGreatDoorTextW
import Derived.BigQuiet
import Derived.Deep.QuietTactic
import Derived.StillTailTactics
import Derived.Maps.AppendAt
import Derived.OwnWalk
import Derived.Deep.AppendLies
import Derived.Test.YtifpmigghplmoaaGreatDoorDateT
import Derived.Deep.RegionHeld3
import Derived.IntWalk
import Derived.Test.YtifpmigghplmoaaGreatDoorNum
/- DReadA -/
set_option linter.unusedVariables false
set_option linter.unusedSimpArgs false
namespace Go.Pw
open Go.RowKit
/-- the reader in memory -/
def RdRow (tR b : Nat) (T : ByteArray) (at_ : Nat) (bad : Bool) (hv : Value) (w : World) : Prop := w.heap[b]? = some (.cells #[.string T, .int .i64 (at_ : Int), .bool bad, hv] tR (0, 0))
section
variable {tR b : Nat} {T : ByteArray} {at_ : Nat} {bad : Bool} {hv : Value} {w w' : World}
theorem RdRow.lt (h : RdRow tR b T at_ bad hv w) : b < w.heap.size := (Array.getElem?_eq_some_iff.1 h).1
theorem RdRow.cells (h : RdRow tR b T at_ bad hv w) : w.cell? ⟨b, 0, none⟩ = some (.string T) ∧ w.cell? ⟨b, 1, none⟩ = some (.int .i64 (at_ : Int)) ∧ w.cell? ⟨b, 2, none⟩ = some (.bool bad) ∧ w.cell? ⟨b, 3, none⟩ = some hv := by
  refine ⟨?_, ?_, ?_, ?_⟩ <;> (rw [cell_of_row _ _ _ _ _ _ h]; rfl)
theorem RdRow.frozen (h : RdRow tR b T at_ bad hv w) (j : Nat) : w.frozen? ⟨b, j, none⟩ = false := Lib.frozen_of_heap h j
theorem RdRow.setAt (h : RdRow tR b T at_ bad hv w) (a : Nat) : RdRow tR b T a bad hv (w.setCell ⟨b, 1, none⟩ (.int .i64 (a : Int))) := by
  unfold RdRow at h ⊢
  simp [World.setCell, Array.getElem?_modify, h]
theorem RdRow.setBad (h : RdRow tR b T at_ bad hv w) (x : Bool) : RdRow tR b T at_ x hv (w.setCell ⟨b, 2, none⟩ (.bool x)) := by
  unfold RdRow at h ⊢
  simp [World.setCell, Array.getElem?_modify, h]
theorem RdRow.setHv (h : RdRow tR b T at_ bad hv w) (x : Value) : RdRow tR b T at_ bad x (w.setCell ⟨b, 3, none⟩ x) := by
  unfold RdRow at h ⊢
  simp [World.setCell, Array.getElem?_modify, h]
theorem RdRow.drewN (h : RdRow tR b T at_ bad hv w) (n : Nat) : RdRow tR b T at_ bad hv (w.drewN n) := h
theorem RdRow.setAt' (h : RdRow tR b T at_ bad hv w) (a : Nat) (x : Int) (hx : x = (a : Int)) : RdRow tR b T a bad hv (w.setCell ⟨b, 1, none⟩ (.int .i64 x)) := by
  rw [hx]; exact h.setAt a
theorem only_set (w : World) (b j : Nat) (u : Value) : w.grownBy (w.setCell ⟨b, j, none⟩ u) (some b) :=
  ⟨rfl, rfl, rfl, by simp, fun k _ hk => by
    have : k ≠ b := fun e => hk (by rw [e])
    unfold World.setCell
    simp only [Array.getElem?_modify, if_neg (fun e => this (by exact e.symm) : ¬ b = k)]⟩
theorem only_drewN (w : World) (b n : Nat) : w.grownBy (w.drewN n) (some b) := ⟨rfl, rfl, rfl, Nat.le_refl _, fun _ _ _ => rfl⟩
end
/-- where the digits are read to, and what -/
def digsR (T : List UInt8) (bad : Bool) (at_ m : Nat) : Nat × Bool × Int :=
  if bad then (at_, true, 0) else match digsN T at_ m 0 with
  | .inl q => (q, true, 0)
  | .inr v => (at_ + m, false, v)
/-- k digits have been read, the rest is still to be -/
def DgAt (T : List UInt8) (at_ m k : Nat) (acc : Int) : Prop := k ≤ m ∧ at_ + k ≤ max at_ T.length ∧ 0 ≤ acc ∧ acc < (10 : Int) ^ k ∧ digsN T at_ m 0 = digsN T (at_ + k) (m - k) acc
theorem DgAt.start (T : List UInt8) (at_ m : Nat) : DgAt T at_ m 0 0 := ⟨Nat.zero_le _, by omega, by omega, by simp, rfl⟩
theorem DgAt.next {T : List UInt8} {at_ m k : Nat} {acc : Int} (h : DgAt T at_ m k acc) (hk : k < m) (hd : isDg (T.getD (at_ + k) 0) = true) : DgAt T at_ m (k + 1) (10 * acc + (((T.getD (at_ + k) 0).toNat : Int) - 48)) := by
  obtain ⟨h1, h2, h3, h4, h5⟩ := h
  have hg := (isDg_iff _).1 hd
  have hlt := isDg_getD hd
  refine ⟨by omega, by omega, by omega, by rw [Int.pow_succ]; omega, ?_⟩
  rw [h5, show m - k = (m - (k + 1)) + 1 by omega, digsN, if_pos hd]
  rfl
theorem DgAt.stop {T : List UInt8} {at_ m k : Nat} {acc : Int} (h : DgAt T at_ m k acc) (hk : k < m) (hd : isDg (T.getD (at_ + k) 0) = false) : digsR T false at_ m = (at_ + k, true, 0) := by
  obtain ⟨h1, h2, h3, h4, h5⟩ := h
  have e : digsN T at_ m 0 = .inl (at_ + k) := by
    rw [h5, show m - k = (m - (k + 1)) + 1 by omega, digsN, if_neg (by rw [hd]; simp)]
  unfold digsR
  simp only [Bool.false_eq_true, if_false, e]
theorem DgAt.done {T : List UInt8} {at_ m : Nat} {acc : Int} (h : DgAt T at_ m m acc) : digsR T false at_ m = (at_ + m, false, acc) := by
  obtain ⟨h1, h2, h3, h4, h5⟩ := h
  rw [Nat.sub_self, digsN] at h5
  unfold digsR
  simp only [Bool.false_eq_true, if_false, h5]
theorem getD_at {s : ByteArray} {k : Nat} (h : k < s.size) : s.data.toList.getD k 0 = s[k] := by
  have h2 : k < s.data.toList.length := by rw [len_size]; exact h
  rw [List.getD_eq_getElem?_getD, List.getElem?_eq_getElem h2]; rfl
theorem getD_off {s : ByteArray} {k : Nat} (h : s.size ≤ k) : s.data.toList.getD k 0 = 0 := by
  rw [List.getD_eq_getElem?_getD, List.getElem?_eq_none (by rw [len_size]; exact h)]; rfl
end Go.Pw
namespace Go.Proofs.YtifpmigghplmoaaGreatDoor
open Go.RowKit Go.Pw
set_option maxHeartbeats 4000000 in
set_option maxRecDepth 100000 in
theorem digits_bad (b : Nat) (T : ByteArray) (at_ m : Nat) (hv : Value) (w : World) (h : RdRow 47 b T at_ true hv w) (hm : 0 < m) (hm2 : m ≤ 12) :
    Calls Tryz.prog 44 #[.pointer (some ⟨b, 0, none⟩), .int .i64 (m : Int)] w fun e w' => e = .returned (.int .i64 0) ∧ RdRow 47 b T at_ true hv w' ∧ w.grownBy w' (some b) := by
  have HR := hide h
  obtain ⟨c0, c1, c2, c3⟩ := h.cells
  have f2 := h.frozen 2
  clear h
  have hm3 : (0 : Int) < (m : Int) := by omega
  go_enter Tryz.func44, Tryz.ntmps44
  go_wp2_with fail
  refine wp_loop_rounds 1 ?_
  rw [rounds_succ]
  go_wp2_with fail
  go_quiet (fail)
  go_wp2_with fail
  go_ret
  exact ⟨rfl, (HR.out.drewN _).setBad true, (only_drewN _ _ _).trans (only_set _ _ _ _)⟩
set_option maxHeartbeats 4000000 in
set_option maxRecDepth 100000 in
theorem digits_go (b : Nat) (T : ByteArray) (at_ m : Nat) (hv : Value) (w : World) (h : RdRow 47 b T at_ false hv w) (hat : at_ ≤ T.size) (hT : T.size ≤ 1000000) (hm2 : m ≤ 12) :
    Calls Tryz.prog 44 #[.pointer (some ⟨b, 0, none⟩), .int .i64 (m : Int)] w fun e w' => e = .returned (.int .i64 (digsR T.data.toList false at_ m).2.2) ∧ RdRow 47 b T (digsR T.data.toList false at_ m).1 (digsR T.data.toList false at_ m).2.1 hv w' ∧ w.grownBy w' (some b) := by
  have HR := hide h
  have HLS := hide (len_size T)
  obtain ⟨R, hRd⟩ : ∃ R, digsR T.data.toList false at_ m = R := ⟨_, rfl⟩
  have HD := hide hRd
  rw [hRd]
  clear h hRd
  go_enter Tryz.func44, Tryz.ntmps44
  go_wp2_with fail
  go_loopw [5, 7] (fun n i wr => ∃ (k : Nat) (acc : Int), k ≤ m ∧ i = .int .i64 (k : Int) ∧ n = .int .i64 acc ∧ Hid (DgAt T.data.toList at_ m k acc) ∧ Hid (RdRow 47 b T (at_ + k) false hv wr) ∧ Hid (w.grownBy wr (some b))) (fun _ i _ => m - (intOf i).toNat)
  case atStart => exact ⟨0, 0, by omega, rfl, rfl, hide (DgAt.start _ _ _), HR, hide (World.grownBy.refl _ _)⟩
  case round =>
    obtain ⟨k, acc, hk, rfl, rfl, HG, HRW, HGR⟩ := hrel
    obtain ⟨p, hp⟩ : ∃ p, at_ + k = p := ⟨_, rfl⟩
    have HP := hide hp
    rw [hp] at HRW
    have hple : p ≤ T.size := by have h1 := HG.out.2.1; have h2 := HLS.out; omega
    clear hp
    by_cases hlt : k < m
    · have hl2 : (k : Int) < (m : Int) := by omega
      obtain ⟨c0, c1, c2, c3⟩ := HRW.out.cells
      have f1 := HRW.out.frozen 1
      have f2 := HRW.out.frozen 2
      by_cases hend : p = T.size
      · have hq : ((p : Int) == (T.size : Int)) = true := by rw [hend]; simp
        have HS : Hid (R = (p, true, 0)) := hide (by
          have h1 := HG.out.stop hlt (by rw [HP.out, getD_off (by omega)]; rfl)
          rw [HD.out, HP.out] at h1; exact h1)
        clear hend
        go_wp2_with fail
        go_quiet (fail)
        go_wp2_with fail
        go_ret
        exact ⟨by rw [HS.out]; rfl, by rw [HS.out]; exact (HRW.out.drewN _).setBad true, HGR.out.trans ((only_drewN _ _ _).trans (only_set _ _ _ _))⟩
      · have hpl : p < T.size := by omega
        have hq : ((p : Int) == (T.size : Int)) = false := by simp; omega
        have hp0 : (0 : Int) ≤ (p : Int) := by omega
        have hp1 : (p : Int) < (T.size : Int) := by omega
        have hgd := getD_at hpl
        by_cases h48 : T[p].toNat < 48
        · have t1 : decide ((T[p].toNat : Int) < 48) = true := by simp; omega
          have t2 : decide (T[p].toNat < 48) = true := by simpa using h48
          have t3 : (T[p].toNat : Int) < 48 := by omega
          have HS : Hid (R = (p, true, 0)) := hide (by
            have h1 := HG.out.stop hlt (by rw [HP.out, hgd]; unfold isDg; simp; omega)
            rw [HD.out, HP.out] at h1; exact h1)
          clear hend hgd
          go_wp2_with fail
          go_quiet (fail)
          go_wp2_with fail
          go_ret
          exact ⟨by rw [HS.out]; rfl, by rw [HS.out]; exact (HRW.out.drewN _).setBad true, HGR.out.trans ((only_drewN _ _ _).trans (only_set _ _ _ _))⟩
        · have t1 : decide ((T[p].toNat : Int) < 48) = false := by simp; omega
          have t2 : decide (T[p].toNat < 48) = false := by simpa using h48
          have t3 : ¬ (T[p].toNat : Int) < 48 := by omega
          by_cases h57 : 57 < T[p].toNat
          · have s1 : decide (57 < (T[p].toNat : Int)) = true := by simp; omega
            have s2 : decide (57 < T[p].toNat) = true := by simpa using h57
            have s3 : 57 < (T[p].toNat : Int) := by omega
            have HS : Hid (R = (p, true, 0)) := hide (by
              have h1 := HG.out.stop hlt (by rw [HP.out, hgd]; unfold isDg; simp; omega)
              rw [HD.out, HP.out] at h1; exact h1)
            clear hend hgd
            go_wp2_with fail
            go_quiet (fail)
            go_wp2_with fail
            go_ret
            exact ⟨by rw [HS.out]; rfl, by rw [HS.out]; exact (HRW.out.drewN _).setBad true, HGR.out.trans ((only_drewN _ _ _).trans (only_set _ _ _ _))⟩
          · have s1 : decide (57 < (T[p].toNat : Int)) = false := by simp; omega
            have s2 : decide (57 < T[p].toNat) = false := by simpa using h57
            have s3 : ¬ 57 < (T[p].toNat : Int) := by omega
            have HN := hide (HG.out.next hlt (by rw [HP.out, hgd]; unfold isDg; simp; omega))
            rw [HP.out, hgd] at HN
            have ha0 := HG.out.2.2.1
            have ha1 : acc ≤ 1000000000000 := by
              have h1 := HG.out.2.2.2.1
              have h2 : (10 : Int) ^ k ≤ (10 : Int) ^ 12 := by
                have : (10 : Nat) ^ k ≤ 10 ^ 12 := Nat.pow_le_pow_right (by decide) (by omega)
                exact_mod_cast this
              have h3 : (10 : Int) ^ 12 = 1000000000000 := by decide
              omega
            have g1 : 48 ≤ (T[p].toNat : Int) := by omega
            have g2 : (T[p].toNat : Int) ≤ 57 := by omega
            clear hend hgd
            go_wp2_with fail
            go_quiet (fail)
            go_wp2_with fail
            go_quiet (fail)
            go_wp2_with fail
            go_roundw
            case rel => exact ⟨k + 1, _, by omega, by go_num, rfl, HN, hide ((HRW.out.drewN _).setAt' (at_ + (k + 1)) _ (by have := HP.out; omega)), hide (HGR.out.trans ((only_drewN _ _ _).trans (only_set _ _ _ _)))⟩
            case measure => simp [intOf]; omega
    · obtain rfl : k = m := by omega
      have HS : Hid (R = (p, false, acc)) := hide (by
        have h1 := HG.out.done
        rw [HD.out, HP.out] at h1; exact h1)
      go_wp2_with fail
      go_ret
      exact ⟨by rw [HS.out]; rfl, by rw [HS.out]; exact HRW.out, HGR.out⟩
theorem digits_any (b : Nat) (T : ByteArray) (at_ m : Nat) (bad : Bool) (hv : Value) (w : World) (h : RdRow 47 b T at_ bad hv w) (hat : at_ ≤ T.size) (hT : T.size ≤ 1000000) (hm : 0 < m) (hm2 : m ≤ 12) :
    Calls Tryz.prog 44 #[.pointer (some ⟨b, 0, none⟩), .int .i64 (m : Int)] w fun e w' => e = .returned (.int .i64 (digsR T.data.toList bad at_ m).2.2) ∧ RdRow 47 b T (digsR T.data.toList bad at_ m).1 (digsR T.data.toList bad at_ m).2.1 hv w' ∧ w.grownBy w' (some b) := by
  cases bad
  · exact digits_go b T at_ m hv w h hat hT hm2
  · exact digits_bad b T at_ m hv w h hm hm2
/-- a byte that must stand there -/
def byteR (T : List UInt8) (bad : Bool) (at_ : Nat) (c : UInt8) : Nat × Bool := if bad then (at_, true) else if T[at_]? = some c then (at_ + 1, false) else (at_, true)
theorem at_get {T : ByteArray} {k : Nat} (h : k < T.size) : T.data.toList[k]? = some T[k] := by
  have h2 : k < T.data.toList.length := by rw [len_size]; exact h
  rw [List.getElem?_eq_getElem h2]; rfl
theorem at_none {T : ByteArray} {k : Nat} (h : T.size ≤ k) : T.data.toList[k]? = none := List.getElem?_eq_none (by rw [len_size]; exact h)
theorem u8_eqb {a c : UInt8} (h : a = c) : ((a.toNat : Int) != (c.toNat : Int)) = false ∧ ((a.toNat : Int) == (c.toNat : Int)) = true := by
  subst h; simp
theorem u8_neb {a c : UInt8} (h : a ≠ c) : ((a.toNat : Int) != (c.toNat : Int)) = true ∧ ((a.toNat : Int) == (c.toNat : Int)) = false := by
  have : a.toNat ≠ c.toNat := fun e => h (UInt8.toNat_inj.1 e)
  constructor
  · simp; omega
  · simp; omega
set_option maxHeartbeats 4000000 in
set_option maxRecDepth 100000 in
theorem byte_any (b : Nat) (T : ByteArray) (at_ : Nat) (bad : Bool) (hv : Value) (c : UInt8) (w : World) (h : RdRow 47 b T at_ bad hv w) (hat : at_ ≤ T.size) (hT : T.size ≤ 1000000) :
    Calls Tryz.prog 18 #[.pointer (some ⟨b, 0, none⟩), .int .u8 (c.toNat : Int)] w fun e w' => e = .returned (.tuple #[]) ∧ RdRow 47 b T (byteR T.data.toList bad at_ c).1 (byteR T.data.toList bad at_ c).2 hv w' ∧ w.grownBy w' (some b) := by
  have HR := hide h
  obtain ⟨c0, c1, c2, c3⟩ := h.cells
  have f1 := h.frozen 1
  have f2 := h.frozen 2
  clear h
  cases bad
  · by_cases hend : at_ = T.size
    · have hq : ((at_ : Int) == (T.size : Int)) = true := by rw [hend]; simp
      have e : byteR T.data.toList false at_ c = (at_, true) := by
        unfold byteR; rw [if_neg (by simp), at_none (by omega), if_neg (by simp)]
      have HE := hide e
      clear e hend
      go_enter Tryz.func18, Tryz.ntmps18
      go_wp2_with fail
      go_quiet (fail)
      go_wp2_with fail
      ((try simp only [Exit.inBlock, Exit.then]); refine bodyPost_ret (results_none rfl _ _ _) rfl ?_)
      exact ⟨rfl, by rw [HE.out]; exact (HR.out.drewN _).setBad true, (only_drewN _ _ _).trans (only_set _ _ _ _)⟩
    · have hpl : at_ < T.size := by omega
      have hq : ((at_ : Int) == (T.size : Int)) = false := by simp; omega
      have hp0 : (0 : Int) ≤ (at_ : Int) := by omega
      have hp1 : (at_ : Int) < (T.size : Int) := by omega
      by_cases hc : T[at_] = c
      · obtain ⟨h1, h2⟩ := u8_eqb hc
        have e : byteR T.data.toList false at_ c = (at_ + 1, false) := by
          unfold byteR; rw [if_neg (by simp), at_get hpl, hc, if_pos rfl]
        have HE := hide e
        clear e hend hc
        go_enter Tryz.func18, Tryz.ntmps18
        go_wp2_with fail
        go_quiet (fail)
        go_wp2_with fail
        go_end0
        exact ⟨rfl, by rw [HE.out]; exact (HR.out.drewN _).setAt' (at_ + 1) _ (by omega), (only_drewN _ _ _).trans (only_set _ _ _ _)⟩
      · obtain ⟨h1, h2⟩ := u8_neb hc
        have e : byteR T.data.toList false at_ c = (at_, true) := by
          unfold byteR; rw [if_neg (by simp), at_get hpl, if_neg (fun e => hc (Option.some.inj e))]
        have HE := hide e
        clear e hend hc
        go_enter Tryz.func18, Tryz.ntmps18
        go_wp2_with fail
        go_quiet (fail)
        go_wp2_with fail
        ((try simp only [Exit.inBlock, Exit.then]); refine bodyPost_ret (results_none rfl _ _ _) rfl ?_)
        exact ⟨rfl, by rw [HE.out]; exact (HR.out.drewN _).setBad true, (only_drewN _ _ _).trans (only_set _ _ _ _)⟩
  · have HE : Hid (byteR T.data.toList true at_ c = (at_, true)) := hide (by unfold byteR; rw [if_pos rfl])
    go_enter Tryz.func18, Tryz.ntmps18
    go_wp2_with fail
    go_quiet (fail)
    go_wp2_with fail
    ((try simp only [Exit.inBlock, Exit.then]); refine bodyPost_ret (results_none rfl _ _ _) rfl ?_)
    exact ⟨rfl, by rw [HE.out]; exact (HR.out.drewN _).setBad true, (only_drewN _ _ _).trans (only_set _ _ _ _)⟩
set_option maxHeartbeats 4000000 in
set_option maxRecDepth 100000 in
theorem is_any (b : Nat) (T : ByteArray) (at_ : Nat) (bad : Bool) (hv : Value) (c : UInt8) (w : World) (h : RdRow 47 b T at_ bad hv w) (hat : at_ ≤ T.size) (hT : T.size ≤ 1000000) (hc0 : c ≠ 0) :
    Calls Tryz.prog 45 #[.pointer (some ⟨b, 0, none⟩), .int .u8 (c.toNat : Int)] w fun e w' => e = .returned (.bool (!bad && decide (T.data.toList.getD at_ 0 = c))) ∧ ∃ n, w' = w.drewN n := by
  obtain ⟨c0, c1, c2, c3⟩ := h.cells
  clear h
  cases bad
  · by_cases hend : at_ = T.size
    · have hq : ¬ (at_ : Int) < (T.size : Int) := by omega
      have hq2 : decide ((at_ : Int) < (T.size : Int)) = false := by simp; omega
      have hq3 : decide (at_ < T.size) = false := by simp; omega
      have HE : Hid ((!false && decide (T.data.toList.getD at_ 0 = c)) = false) := hide (by
        rw [getD_off (by omega)]; simp; exact fun e => hc0 e.symm)
      clear hend
      go_enter Tryz.func45, Tryz.ntmps45
      go_wp2_with fail
      go_quiet (fail)
      go_wp2_with fail
      go_ret
      exact ⟨by rw [HE.out]; rfl, _, rfl⟩
    · have hpl : at_ < T.size := by omega
      have hq : (at_ : Int) < (T.size : Int) := by omega
      have hq2 : decide ((at_ : Int) < (T.size : Int)) = true := by simp; omega
      have hq3 : decide (at_ < T.size) = true := by simp; omega
      have hp0 : (0 : Int) ≤ (at_ : Int) := by omega
      have hgd := getD_at hpl
      by_cases hc : T[at_] = c
      · obtain ⟨h1, h2⟩ := u8_eqb hc
        have HE : Hid ((!false && decide (T.data.toList.getD at_ 0 = c)) = true) := hide (by rw [hgd]; simp [hc])
        clear hend hc hgd
        go_enter Tryz.func45, Tryz.ntmps45
        go_wp2_with fail
        go_quiet (fail)
        go_wp2_with fail
        go_ret
        exact ⟨by rw [HE.out]; rfl, _, rfl⟩
      · obtain ⟨h1, h2⟩ := u8_neb hc
        have HE : Hid ((!false && decide (T.data.toList.getD at_ 0 = c)) = false) := hide (by rw [hgd]; simp [hc])
        clear hend hc hgd
        go_enter Tryz.func45, Tryz.ntmps45
        go_wp2_with fail
        go_quiet (fail)
        go_wp2_with fail
        go_ret
        exact ⟨by rw [HE.out]; rfl, _, rfl⟩
  · go_enter Tryz.func45, Tryz.ntmps45
    go_wp2_with fail
    go_quiet (fail)
    go_wp2_with fail
    go_ret
    exact ⟨rfl, _, rfl⟩
end Go.Proofs.YtifpmigghplmoaaGreatDoor

/- DReadB -/
set_option linter.unusedVariables false
set_option linter.unusedSimpArgs false
namespace Go.Pw
open Go.RowKit
def hCells (hs : List (UInt8 × Int)) : List Value := hs.flatMap fun p => [.int .u8 (p.1.toNat : Int), .int .i64 p.2]
theorem hCells_snoc (hs : List (UInt8 × Int)) (c : UInt8) (n : Int) : hCells (hs ++ [(c, n)]) = hCells hs ++ [.int .u8 (c.toNat : Int), .int .i64 n] := by
  unfold hCells; rw [List.flatMap_append]; rfl
/-- the reader with what was heard -/
def RSt (tR tH b : Nat) (T : ByteArray) (at_ : Nat) (bad : Bool) (hs : List (UInt8 × Int)) (w : World) : Prop :=
  ∃ hv, RdRow tR b T at_ bad hv w ∧ w.ownsRow (b + 1) tH 2 hv hs.length (hCells hs)
theorem own_only {w w' : World} {b : Nat} {tH : TypeId} {hv : Value} {n : Nat} {xs : List Value} (h : w.ownsRow (b + 1) tH 2 hv n xs) (hg : w.grownBy w' (some b)) : w'.ownsRow (b + 1) tH 2 hv n xs := by
  refine h.kept hg ?_
  cases hk : hv.ownBlock with
  | none => exact .inl rfl
  | some k =>
    refine .inr (fun e => ?_)
    have := (h.lt k hk).1
    have : k = b := Option.some.inj e
    omega
theorem below_only {w w' : World} {b : Nat} (hb : b ≤ w.heap.size) (hg : w.grownBy w' (some b)) : Below b w w' :=
  ⟨hg.os, hg.tape, hg.output, hg.size, fun k hk => hg.block k (by omega) (fun e => by have := Option.some.inj e; omega)⟩
/-- a call that turned the reader alone -/
theorem RSt.only {tR tH b : Nat} {T : ByteArray} {hv : Value} {hs : List (UInt8 × Int)} {w w' : World} {a' : Nat} {bad' : Bool} (ho : w.ownsRow (b + 1) tH 2 hv hs.length (hCells hs)) (h : RdRow tR b T a' bad' hv w') (hg : w.grownBy w' (some b)) : RSt tR tH b T a' bad' hs w' :=
  ⟨hv, h, own_only ho hg⟩
theorem RdRow.grown {tR b : Nat} {T : ByteArray} {at_ : Nat} {bad : Bool} {hv hv0 : Value} {w w1 : World} {o : Obj} {tH : TypeId} {n : Nat} {xs : List Value} (h : RdRow tR b T at_ bad hv0 w) (ho : w.ownsRow (b + 1) tH 2 hv n xs) (hg : (w.alloc o).grownBy w1 hv.ownBlock) : RdRow tR b T at_ bad hv0 w1 := by
  have hlt := h.lt
  unfold RdRow at h ⊢
  rw [hg.block b (by simp; omega) (fun e => by have := (ho.lt b e.symm).1; omega)]
  exact (heap_alloc_old w o hlt).trans h
theorem own_set3 {w : World} {b j : Nat} {tH : TypeId} {v : Value} {n : Nat} {xs : List Value} (h : w.ownsRow (b + 1) tH 2 v n xs) (u : Value) : (w.setCell ⟨b, j, none⟩ u).ownsRow (b + 1) tH 2 v n xs := own_only h (only_set w b j u)
theorem heap_set_ne {w : World} {b b' j : Nat} {v : Value} (h : b ≠ b') : (w.setCell ⟨b, j, none⟩ v).heap[b']? = w.heap[b']? := by
  simp [World.setCell, Array.getElem?_modify, h]
end Go.Pw
namespace Go.Proofs.YtifpmigghplmoaaGreatDoor
open Go.RowKit Go.Pw
theorem info_heard : (Tryz.prog.info? 108).map (fun i => (i.zero, i.size, i.bytes)) = some (some (.agg #[.int .u8 0, .int .i64 0]), 2, 16) := by kernel_rfl
set_option maxHeartbeats 4000000 in
set_option maxRecDepth 100000 in
theorem note_any (b : Nat) (T : ByteArray) (at_ : Nat) (bad : Bool) (hs : List (UInt8 × Int)) (c : UInt8) (n : Int) (w : World) (h : RSt 47 108 b T at_ bad hs w) (hl : hs.length ≤ 1000000) :
    Calls Tryz.prog 43 #[.pointer (some ⟨b, 0, none⟩), .int .u8 (c.toNat : Int), .int .i64 n] w fun e w' => e = .returned (.tuple #[]) ∧ RSt 47 108 b T at_ bad (hs ++ [(c, n)]) w' ∧ Below b w w' := by
  obtain ⟨hv, hr, ho⟩ := h
  have HR := hide hr
  have HO := hide ho
  have hlt := hr.lt
  obtain ⟨c0, c1, c2, c3⟩ := hr.cells
  obtain ⟨ip, hip, hpz, hps, hpb⟩ := info_parts info_heard
  have HIP := hide hip
  have HPZ := hide hpz
  have HPS := hide hps
  have HPB := hide hpb
  have HL := hide hl
  clear hr ho hip hpz hps hpb hl
  go_enter Tryz.func43, Tryz.ntmps43
  go_wp2_with (at_builtin; refine wpList_append_lies _ rfl _ _ 45 rfl (b + 1) 108 ip (.agg #[.int .u8 0, .int .i64 0]) 2 16 Tryz.underlying45 HIP.out HPZ.out HPS.out HPB.out rfl (by decide) hv _ _ rfl (HO.out.alloc _) ⟨w.heap.size, 0, none⟩ 1 1 [.int .u8 (c.toNat : Int), .int .i64 n] rfl rfl ?_ ?_ ?_ ?_ ?_ ?_ _ rfl ?_; (focus (exact two_new _ _ _ _)); (focus (intro u hu; simp at hu; rcases hu with rfl | rfl <;> rfl)); (focus omega); (focus (have := HL.out; unfold maxLen; omega)); (focus (have := HL.out; omega)); (focus (simp; omega)); intro g cap w1 hown1 hgrow1 hat1 hlt1; have HR1 := hide (HR.out.grown HO.out hgrow1); have f3 := HR1.out.frozen 3; obtain ⟨d0, d1, d2, d3⟩ := HR1.out.cells)
  go_end0
  refine ⟨rfl, ⟨_, HR1.out.setHv _, ?_⟩, ?_⟩
  · rw [hCells_snoc, List.length_append]
    exact own_set3 hown1 _
  · exact ((((Below.refl b w).alloc (by omega) _).grown hgrow1 (by simp; omega) (fun k hk => by have := (HO.out.lt k hk).1; omega)).setCell (p := ⟨b, 3, none⟩) (Nat.le_refl _) _)
end Go.Proofs.YtifpmigghplmoaaGreatDoor

/- DReadC -/
set_option linter.unusedVariables false
set_option linter.unusedSimpArgs false
namespace Go.Pw
open Go.RowKit
/-- do so many bytes of a name stand there -/
def nmHit (T : ByteArray) (at_ n e : Nat) (s : ByteArray) : Bool := (s.extract 0 n).toList == (T.extract at_ e).toList
def ixN (L : List ByteArray) (p : ByteArray → Bool) : Int := if L.any p then (L.findIdx p : Int) else -1
theorem ixN_hit {L : List ByteArray} {p : ByteArray → Bool} {k : Nat} (hk : k < L.length) (h : p L[k] = true) (hj : ∀ j (hj : j < k), p (L[j]'(by omega)) = false) : ixN L p = (k : Int) := by
  unfold ixN
  rw [if_pos (List.any_eq_true.2 ⟨_, List.getElem_mem hk, h⟩), (List.findIdx_eq hk).2 ⟨h, hj⟩]
theorem ixN_miss {L : List ByteArray} {p : ByteArray → Bool} (hj : ∀ j (hj : j < L.length), p L[j] = false) : ixN L p = -1 := by
  unfold ixN
  rw [if_neg]
  intro h
  obtain ⟨s, hs, hp⟩ := List.any_eq_true.1 h
  obtain ⟨j, hlt, rfl⟩ := List.getElem_of_mem hs
  rw [hj j hlt] at hp; cases hp
end Go.Pw
namespace Go.Proofs.YtifpmigghplmoaaGreatDoor
open Go.RowKit Go.Pw
set_option maxHeartbeats 1000000 in
set_option maxRecDepth 100000 in
theorem name1_any (s : ByteArray) (b Bn Br Be n e : Nat) (T : ByteArray) (at_ : Nat) (bad : Bool) (hv : Value) (w : World) (h : RdRow 47 b T at_ bad hv w)
    (hn : w.cell? ⟨Bn, 0, none⟩ = some (.int .i64 (n : Int))) (hr : w.cell? ⟨Br, 0, none⟩ = some (.pointer (some ⟨b, 0, none⟩))) (he : w.cell? ⟨Be, 0, none⟩ = some (.int .i64 (e : Int)))
    (hs : n ≤ s.size) (h1 : at_ ≤ e) (h2 : e ≤ T.size) (h3 : s.size ≤ 1000000) (h4 : T.size ≤ 1000000) :
    Calls Tryz.prog 94 #[.string s, .pointer (some ⟨Bn, 0, none⟩), .pointer (some ⟨Br, 0, none⟩), .pointer (some ⟨Be, 0, none⟩)] w fun x w' => x = .returned (.bool (nmHit T at_ n e s)) ∧ Below w.heap.size w w' := by
  obtain ⟨c0, c1, c2, c3⟩ := h.cells
  have a1 : (0 : Int) ≤ (n : Int) := by omega
  have a2 : (n : Int) ≤ (s.size : Int) := by omega
  have a3 : (0 : Int) ≤ (at_ : Int) := by omega
  have a4 : (at_ : Int) ≤ (e : Int) := by omega
  have a5 : (e : Int) ≤ (T.size : Int) := by omega
  clear h
  go_enter Tryz.func94, Tryz.ntmps94
  go_wp2_with fail
  go_quiet (fail)
  go_wp2_with fail
  go_ret
  exact ⟨rfl, below_drewN (Below.refl _ _) _⟩
set_option maxHeartbeats 1000000 in
set_option maxRecDepth 100000 in
theorem indexName_any (v : Value) (L : List ByteArray) (b Bn Br Be n e : Nat) (T : ByteArray) (at_ : Nat) (bad : Bool) (hv : Value) (w : World) (hL : Strs w v L) (h : RdRow 47 b T at_ bad hv w)
    (hn : w.cell? ⟨Bn, 0, none⟩ = some (.int .i64 (n : Int))) (hr : w.cell? ⟨Br, 0, none⟩ = some (.pointer (some ⟨b, 0, none⟩))) (he : w.cell? ⟨Be, 0, none⟩ = some (.int .i64 (e : Int)))
    (hs : ∀ s ∈ L, n ≤ s.size ∧ s.size ≤ 1000000) (h1 : at_ ≤ e) (h2 : e ≤ T.size) (h4 : T.size ≤ 1000000) (hl : L.length ≤ 1000) :
    Calls Tryz.prog 37 #[v, .func (.func 94) #[] #[.pointer (some ⟨Bn, 0, none⟩), .pointer (some ⟨Br, 0, none⟩), .pointer (some ⟨Be, 0, none⟩)]] w fun x w' => x = .returned (.int .i64 (ixN L (nmHit T at_ n e))) ∧ Below w.heap.size w w' := by
  obtain ⟨⟨_, A, cap, rfl, hcap, hmax, hx⟩, -⟩ := hL
  unfold maxLen at hmax
  have HX := hide hx
  have l0 : b < w.heap.size := h.lt
  have l1 : Bn < w.heap.size := World.block_lt_of_cell? w ⟨Bn, 0, none⟩ hn
  have l2 : Br < w.heap.size := World.block_lt_of_cell? w ⟨Br, 0, none⟩ hr
  have l3 : Be < w.heap.size := World.block_lt_of_cell? w ⟨Be, 0, none⟩ he
  have HC := hide (fun (s : ByteArray) (hsm : s ∈ L) (W : World) (hb : Below w.heap.size w W) => name1_any s b Bn Br Be n e T at_ bad hv W ((hb.block b l0).trans h) ((hb.cell (p := ⟨Bn, 0, none⟩) l1).trans hn) ((hb.cell (p := ⟨Br, 0, none⟩) l2).trans hr) ((hb.cell (p := ⟨Be, 0, none⟩) l3).trans he) (hs s hsm).1 h1 h2 (hs s hsm).2 h4)
  obtain ⟨P, hP⟩ : ∃ P, nmHit T at_ n e = P := ⟨_, rfl⟩
  rw [hP]
  have HH : Hid (∀ s, nmHit T at_ n e s = P s) := hide (fun s => by rw [hP])
  clear hx hP h hn hr he hs h1 h2
  go_enter Tryz.func37, Tryz.ntmps37
  go_wp2_with fail
  go_loopw [8] (fun i wr => ∃ k : Nat, k ≤ L.length ∧ i = .int .i64 (k : Int) ∧ Hid (∀ j (hj : j < k) (hjl : j < L.length), P L[j] = false) ∧ Hid (Below w.heap.size w wr)) (fun i _ => L.length - (intOf i).toNat)
  case atStart => exact ⟨0, by omega, rfl, hide (fun j hj => by omega), hide (Below.refl _ _)⟩
  case round =>
    obtain ⟨k, hk, rfl, HS, HB⟩ := hrel
    by_cases hlt : k < L.length
    · obtain ⟨bb, o, rfl, hbb, hj⟩ := HX.out (by omega)
      have hc : wr.cell? ⟨bb, o + k, none⟩ = some (.string L[k]) := (HB.out.cell (p := ⟨bb, o + k, none⟩) hbb).trans (hj k _ (by simp [hlt]))
      have HI := hide (HC.out L[k] (List.getElem_mem hlt) wr HB.out)
      rw [HH.out] at HI
      obtain ⟨t, ht⟩ : ∃ t, P L[k] = t := ⟨_, rfl⟩
      have HT := hide ht
      rw [ht] at HI
      have hd : (k : Int) < (L.length : Int) := by omega
      clear hj ht
      go_wp2_with fail
      refine HI.out.mono ?_
      rintro x w1 ⟨rfl, hb1⟩
      have HB1 := hide (HB.out.trans (hb1.mono HB.out.size))
      clear hb1 hc HI
      cases t
      · have HS2 : Hid (∀ j (hj : j < k + 1) (hjl : j < L.length), P L[j] = false) := hide (fun j hj hjl => by
          rcases Nat.lt_or_ge j k with h | h
          · exact HS.out j h hjl
          · obtain rfl : j = k := by omega
            exact HT.out)
        go_wp2_with fail
        go_roundw
        case rel => exact ⟨k + 1, by omega, by go_num, HS2, HB1⟩
        case measure => simp [intOf]; omega
      · have HV := hide (ixN_hit hlt HT.out (fun j hj => HS.out j hj (by omega)))
        go_wp2_with fail
        go_ret
        exact ⟨by rw [HV.out]; rfl, HB1.out⟩
    · obtain rfl : k = L.length := by omega
      have hd : ¬ ((L.length : Int) < (L.length : Int)) := by omega
      have HV : Hid (ixN L P = -1) := hide (ixN_miss (fun j hj => HS.out j hj hj))
      go_wp2_with fail
      go_ret
      exact ⟨by rw [HV.out]; rfl, HB.out⟩
end Go.Proofs.YtifpmigghplmoaaGreatDoor

/- DReadD -/
set_option linter.unusedVariables false
set_option linter.unusedSimpArgs false
namespace Go.Pw
open Go.RowKit
theorem hit_eq {T : ByteArray} {at_ n : Nat} {s : List UInt8} (hat : at_ ≤ T.size) (hn : n ≤ s.length) : nmHit T at_ n (min (at_ + n) T.size) (mkB s) = (s.take n == (T.data.toList.drop at_).take n) := by
  have e1 : ((mkB s).extract 0 n).data.toList = s.take n := by
    rw [ByteArray.data_extract, Array.toList_extract, List.extract_eq_take_drop]; simp [mkB]
  have e2 : (T.extract at_ (min (at_ + n) T.size)).data.toList = (T.data.toList.drop at_).take n := by
    rw [ByteArray.data_extract, Array.toList_extract, List.extract_eq_take_drop]
    rcases Nat.lt_or_ge T.size (at_ + n) with h | h
    · rw [Nat.min_eq_right (by omega), List.take_of_length_le (by rw [List.length_drop, len_size]; omega), List.take_of_length_le (by rw [List.length_drop, len_size]; omega)]
    · rw [Nat.min_eq_left h, show at_ + n - at_ = n by omega]
  unfold nmHit
  rw [← e1, ← e2]
  cases h : (((mkB s).extract 0 n).toList == (T.extract at_ (min (at_ + n) T.size)).toList)
  · have h2 := bytes_ne h
    symm
    rw [beq_eq_false_iff_ne]
    intro e
    apply h2
    rw [← mkB_list ((mkB s).extract 0 n), e, mkB_list]
  · rw [bytes_eq h]; simp
theorem ixN_map {names : List (List UInt8)} {p : ByteArray → Bool} {q : List UInt8 → Bool} (h : ∀ s ∈ names, p (mkB s) = q s) : ixN (names.map mkB) p = if names.any q then (names.findIdx q : Int) else -1 := by
  have e1 : (names.map mkB).any p = names.any q := by
    rw [List.any_map]
    induction names with
    | nil => rfl
    | cons s r ih =>
      rw [List.any_cons, List.any_cons, ih (fun x hx => h x (List.mem_cons_of_mem _ hx))]
      show (p (mkB s) || _) = _
      rw [h s (by simp)]
  have e2 : (names.map mkB).findIdx p = names.findIdx q := by
    clear e1
    induction names with
    | nil => rfl
    | cons s r ih =>
      rw [List.map_cons, List.findIdx_cons, List.findIdx_cons, ih (fun x hx => h x (List.mem_cons_of_mem _ hx)), h s (by simp)]
  unfold ixN
  rw [e1, e2]
/-- what the reader makes of a name: what is returned, where it stands, whether it is bad -/
def nmR (names : List (List UInt8)) (T : List UInt8) (at_ : Nat) : Int × Nat × Bool :=
  if hasP names T at_ 1 = false then (0, at_, true) else
  if hasP names T at_ 2 = false then (0, at_ + 1, true) else
  if hasP names T at_ 3 = false then (0, at_ + 2, true) else ((nameK names T at_ : Int), at_ + 3, false)
theorem nmR_stop {names : List (List UInt8)} {T : List UInt8} {at_ k : Nat} (h1 : 1 ≤ k) (h3 : k ≤ 3) (hp : ∀ j, 1 ≤ j → j < k → hasP names T at_ j = true) (h : hasP names T at_ k = false) : nmR names T at_ = (0, at_ + k - 1, true) := by
  unfold nmR
  match k, h1, h3 with
  | 1, _, _ => rw [if_pos h]; rfl
  | 2, _, _ => rw [if_neg (by rw [hp 1 (by omega) (by omega)]; simp), if_pos h]; rfl
  | 3, _, _ => rw [if_neg (by rw [hp 1 (by omega) (by omega)]; simp), if_neg (by rw [hp 2 (by omega) (by omega)]; simp), if_pos h]; rfl
theorem nmR_yes {names : List (List UInt8)} {T : List UInt8} {at_ : Nat} (hp : ∀ j, 1 ≤ j → j < 4 → hasP names T at_ j = true) : nmR names T at_ = ((nameK names T at_ : Int), at_ + 3, false) := by
  unfold nmR
  rw [if_neg (by rw [hp 1 (by omega) (by omega)]; simp), if_neg (by rw [hp 2 (by omega) (by omega)]; simp), if_neg (by rw [hp 3 (by omega) (by omega)]; simp)]
theorem hasP_room {names : List (List UInt8)} (h3 : ∀ s ∈ names, s.length = 3) {T : List UInt8} {at_ k : Nat} (hk : k ≤ 3) (hat : at_ ≤ T.length) (h : hasP names T at_ k = true) : at_ + k ≤ T.length := by
  unfold hasP at h
  obtain ⟨s, hs, he⟩ := List.any_eq_true.1 h
  have := congrArg List.length (beq_iff_eq.1 he)
  rw [List.length_take, List.length_take, List.length_drop, h3 s hs] at this
  omega
theorem RdRow.alloc {tR b : Nat} {T : ByteArray} {at_ : Nat} {bad : Bool} {hv : Value} {w : World} (h : RdRow tR b T at_ bad hv w) (o : Obj) : RdRow tR b T at_ bad hv (w.alloc o) := (heap_alloc_old w o h.lt).trans h
/-- between two rounds: so many bytes fit, or none does any more -/
def NmAt (tR : Nat) (names : List (List UInt8)) (R : Int × Nat × Bool) (b Br : Nat) (T : ByteArray) (at_ : Nat) (hv : Value) (w W1 : World) (k : Nat) (wr : World) : Prop :=
  (k ≤ 3 ∧ (∀ j, 1 ≤ j → j < k → hasP names T.data.toList at_ j = true) ∧ Below W1.heap.size W1 wr) ∨
  (R.1 = 0 ∧ R.2.2 = true ∧ RdRow tR b T R.2.1 true hv wr ∧ wr.cell? ⟨Br, 0, none⟩ = some (.pointer (some ⟨b, 0, none⟩)) ∧ w.grownBy wr (some b))
theorem grown_drew {w W : World} {row : Option Nat} (h : w.grownBy W row) : w.grownBy W.drew row := ⟨h.os, h.tape, h.output, h.size, h.block⟩
theorem grown_below {w w' W : World} {row : Option Nat} (hg : w.grownBy W row) (hb : Below W.heap.size W w') : w.grownBy w' row := hg.trans ⟨hb.os, hb.tape, hb.output, hb.size, fun k hk _ => hb.block k hk⟩
end Go.Pw
namespace Go.Proofs.YtifpmigghplmoaaGreatDoor
open Go.RowKit Go.Pw
set_option maxHeartbeats 4000000 in
set_option maxRecDepth 100000 in
theorem name_go (names : List (List UInt8)) (str : ByteArray) (hnl : names.length ≤ 12) (h3 : ∀ s ∈ names, s.length = 3)
    (hF : ∀ W, SpTab W → Calls Tryz.prog 78 #[.string str] W fun e w' => e = .returned (.slice (some ⟨W.heap.size, 0, none⟩) names.length names.length) ∧ w' = W.alloc (.cells (names.map fun l => Value.string (mkB l)).toArray 9))
    (b : Nat) (T : ByteArray) (at_ : Nat) (hv : Value) (w : World) (h : RdRow 47 b T at_ false hv w) (hat : at_ ≤ T.size) (hT : T.size ≤ 1000000) (hS : SpTab w) :
    Calls Tryz.prog 46 #[.pointer (some ⟨b, 0, none⟩), .string str] w fun e w' => e = .returned (.int .i64 (nmR names T.data.toList at_).1) ∧ RdRow 47 b T (nmR names T.data.toList at_).2.1 (nmR names T.data.toList at_).2.2 hv w' ∧ w.grownBy w' (some b) := by
  have HR := hide h
  have hlt := h.lt
  have HF := hide (hF (w.alloc (.cells #[.pointer (some ⟨b, 0, none⟩)] 44)) (hS.below ((Below.refl _ _).alloc (Nat.le_refl _) _)))
  have HLS := hide (len_size T)
  have H3 := hide h3
  have HIX : Hid (∀ n, n ≤ 3 → ixN (names.map mkB) (nmHit T at_ n (min (at_ + n) T.size)) = if hasP names T.data.toList at_ n then (names.findIdx (fun s => s.take n == (T.data.toList.drop at_).take n) : Int) else -1) := hide (fun n hn => ixN_map (fun s hs => hit_eq hat (by rw [h3 s hs]; exact hn)))
  obtain ⟨R, hRd⟩ : ∃ R, nmR names T.data.toList at_ = R := ⟨_, rfl⟩
  have HD := hide hRd
  rw [hRd]
  clear h hS hF h3 hRd
  go_enter Tryz.func46, Tryz.ntmps46
  go_wp2_with fail
  refine HF.out.mono ?_
  rintro e w1 ⟨rfl, rfl⟩
  obtain ⟨W0, hW0⟩ : ∃ W0, w.alloc (.cells #[.pointer (some ⟨b, 0, none⟩)] 44) = W0 := ⟨_, rfl⟩
  have HB0 : Hid (Below w.heap.size w W0) := hide (by rw [← hW0]; exact (Below.refl _ _).alloc (Nat.le_refl _) _)
  have HZ0 : Hid (W0.heap.size = w.heap.size + 1) := hide (by rw [← hW0]; simp)
  have HBr : Hid (W0.cell? ⟨w.heap.size, 0, none⟩ = some (.pointer (some ⟨b, 0, none⟩))) := hide (by rw [← hW0, World.cell?_alloc_new]; rfl)
  rw [hW0]
  clear hW0
  obtain ⟨W1, hW1⟩ : ∃ W1, W0.alloc (.cells (names.map fun l => Value.string (mkB l)).toArray 9) = W1 := ⟨_, rfl⟩
  have HB1 : Hid (Below W0.heap.size W0 W1) := hide (by rw [← hW1]; exact (Below.refl _ _).alloc (Nat.le_refl _) _)
  have HZ1 : Hid (W1.heap.size = w.heap.size + 2) := hide (by have := HZ0.out; rw [← hW1]; simp; omega)
  have HLn : Hid (Strs W1 (.slice (some ⟨W0.heap.size, 0, none⟩) names.length names.length) (names.map mkB)) := hide (by
    refine ⟨?_, ?_⟩
    · refine ⟨by simp, some ⟨W0.heap.size, 0, none⟩, names.length, by rw [List.length_map], by rw [List.length_map]; omega, by unfold maxLen; omega, fun _ => ⟨W0.heap.size, 0, rfl, by have := HZ0.out; have := HZ1.out; omega, fun j u hu => ?_⟩⟩
      rw [← hW1, Nat.zero_add, cell_of_row _ _ _ _ _ _ (heap_alloc_new W0 _)]
      rw [List.map_map] at hu
      simpa using hu
    · intro s hs
      obtain ⟨l, hl, rfl⟩ := List.mem_map.1 hs
      rw [mkB_size, H3.out l hl]
      unfold maxLen; omega)
  rw [hW1]
  clear hW1
  go_wp2_with fail
  have HBn0 : Hid ((W1.alloc (.cells #[.int .i64 1] 3)).cell? ⟨W1.heap.size, 0, none⟩ = some (.int .i64 ((1 : Nat) : Int))) := hide (by rw [World.cell?_alloc_new]; rfl)
  have HBW0 := hide ((Below.refl W1.heap.size W1).alloc (Nat.le_refl _) (.cells #[.int .i64 1] 3))
  go_loopw [6] (fun t6 wr => ∃ (k Bn : Nat), t6 = .pointer (some ⟨Bn, 0, none⟩) ∧ 1 ≤ k ∧ k ≤ 4 ∧ Hid (wr.cell? ⟨Bn, 0, none⟩ = some (.int .i64 (k : Int))) ∧ Hid (NmAt 47 names R b w.heap.size T at_ hv w W1 k wr) ∧ W1.heap.size ≤ Bn) (fun t6 wr => match t6 with | .pointer (some a) => 5 - (intOf ((wr.cell? a).getD undef)).toNat | _ => 0)
  case atStart => exact ⟨1, W1.heap.size, rfl, by omega, by omega, HBn0, hide (.inl ⟨by omega, fun j h1 h2 => by omega, HBW0.out⟩), by omega⟩
  case round =>
    obtain ⟨k, Bn, rfl, hk1, hk4, HBn, HNM, hBn⟩ := hrel
    rcases HNM.out with ⟨hk3, hpr, hbw⟩ | ⟨hR1, hR2, hRow, hBrw, hGrw⟩
    · have HPR := hide hpr
      have HB := hide hbw
      clear hpr hbw
      have HRW : Hid (RdRow 47 b T at_ false hv wr) := hide (by
        have h0 := HZ0.out
        have h1 := HZ1.out
        exact ((HB.out.block b (by omega)).trans ((HB1.out.block b (by omega)).trans (HB0.out.block b hlt))).trans HR.out)
      have HBW : Hid (wr.cell? ⟨w.heap.size, 0, none⟩ = some (.pointer (some ⟨b, 0, none⟩))) := hide (by
        have h0 := HZ0.out
        have h1 := HZ1.out
        exact ((HB.out.cell (p := ⟨w.heap.size, 0, none⟩) (by simp only; omega)).trans (HB1.out.cell (p := ⟨w.heap.size, 0, none⟩) (by simp only; omega))).trans HBr.out)
      have HLW := hide (HLn.out.below HB.out)
      have HGW : Hid (w.grownBy wr (some b)) := hide (grown_below (grown_below (grown_below (World.grownBy.refl _ _) HB0.out) HB1.out) HB.out)
      obtain ⟨c0, c1, c2, c3⟩ := HRW.out.cells
      have d0 := HBW.out
      have d1 := HBn.out
      have n0 := World.new_ne wr _ c0
      have n1 := World.new_ne wr _ c1
      have n2 := World.new_ne wr _ d0
      have n3 := World.new_ne wr _ d1
      have hb1 : (at_ : Int) + (k : Int) ≤ 9223372036854775807 := by omega
      have hb0 : (0 : Int) ≤ (at_ : Int) + (k : Int) := by omega
      have l1 : IntKind.i64.wrap ((at_ : Int) + (k : Int)) = (at_ : Int) + (k : Int) := IntWalk.i64_in _ (by omega)
      go_wp2_with fail
      go_region_held3 (fun w' => w'.cell? ⟨w.heap.size, 0, none⟩ = some (.pointer (some ⟨b, 0, none⟩)) ∧ w'.cell? ⟨b, 0, none⟩ = some (.string T) ∧ w'.cell? ⟨b, 1, none⟩ = some (.int .i64 (at_ : Int)) ∧ w'.cell? ⟨Bn, 0, none⟩ = some (.int .i64 (k : Int))) (go_keep) (fail)
      all_goals
        clear n0 n1 n2 n3 c0 c1 c2 c3 d0 d1
        clear l1
        have HE : min ((at_ : Int) + (k : Int)) (T.size : Int) = ((min (at_ + k) T.size : Nat) : Int) := by omega
        rw [HE]
        clear HE
        have HIXk := hide (HIX.out k hk3)
        obtain ⟨E, hE⟩ : ∃ E, min (at_ + k) T.size = E := ⟨_, rfl⟩
        have HEq := hide hE
        rw [hE] at HIXk ⊢
        have hE1 : at_ ≤ E := by omega
        have hE2 : E ≤ T.size := by omega
        clear hE
        obtain ⟨W2, hW2⟩ : ∃ W2, (wr.alloc (.cells #[.int .i64 (E : Int)] 3)).drew = W2 := ⟨_, rfl⟩
        have HB2 : Hid (Below wr.heap.size wr W2) := hide (by rw [← hW2]; exact ((Below.refl _ _).alloc (Nat.le_refl _) _).drew)
        have HBe : Hid (W2.cell? ⟨wr.heap.size, 0, none⟩ = some (.int .i64 (E : Int))) := hide (by
          rw [← hW2]
          show (wr.alloc (.cells #[.int .i64 (E : Int)] 3)).cell? ⟨wr.heap.size, 0, none⟩ = _
          rw [World.cell?_alloc_new]; rfl)
        rw [hW2]
        clear hW2
        have hltr := HRW.out.lt
        have hlBr : w.heap.size < wr.heap.size := World.block_lt_of_cell? wr ⟨w.heap.size, 0, none⟩ HBW.out
        have hlBn : Bn < wr.heap.size := World.block_lt_of_cell? wr ⟨Bn, 0, none⟩ HBn.out
        have HR2 : Hid (RdRow 47 b T at_ false hv W2) := hide ((HB2.out.block b hltr).trans HRW.out)
        have HBr2 := hide ((HB2.out.cell (p := ⟨w.heap.size, 0, none⟩) hlBr).trans HBW.out)
        have HBn2 := hide ((HB2.out.cell (p := ⟨Bn, 0, none⟩) hlBn).trans HBn.out)
        have HL2 := hide (HLW.out.below HB2.out)
        have HG2 := hide (grown_below HGW.out HB2.out)
        have HBW2 := hide (HB.out.trans (HB2.out.mono HB.out.size))
        have HCALL := hide (indexName_any _ (names.map mkB) b Bn w.heap.size wr.heap.size k E T at_ false hv W2 HL2.out HR2.out HBn2.out HBr2.out HBe.out (fun s hs => by
          obtain ⟨l, hl, rfl⟩ := List.mem_map.1 hs
          rw [mkB_size, H3.out l hl]; omega) hE1 hE2 hT (by rw [List.length_map]; omega))
        rw [HIXk.out] at HCALL
        clear HBe HL2 HLW
        go_wp2_with fail
        cases hp : hasP names T.data.toList at_ k
        · rw [hp] at HCALL
          simp only [Bool.false_eq_true, if_false] at HCALL
          have HS : Hid (R = (0, at_ + k - 1, true)) := hide (by rw [← HD.out]; exact nmR_stop hk1 hk3 HPR.out hp)
          have hroom : at_ + k - 1 ≤ T.size := by
            rcases Nat.lt_or_ge k 2 with h | h
            · omega
            · have := hasP_room H3.out (T := T.data.toList) (at_ := at_) (k := k - 1) (by omega) (by rw [HLS.out]; exact hat) (HPR.out (k - 1) (by omega) (by omega))
              rw [HLS.out] at this; omega
          clear hp
          refine HCALL.out.mono ?_
          rintro x w3 ⟨rfl, hb3⟩
          have HR3 : Hid (RdRow 47 b T at_ false hv w3) := hide ((hb3.block b HR2.out.lt).trans HR2.out)
          have HBr3 := hide ((hb3.cell (p := ⟨w.heap.size, 0, none⟩) (World.block_lt_of_cell? W2 ⟨w.heap.size, 0, none⟩ HBr2.out)).trans HBr2.out)
          have HBn3 := hide ((hb3.cell (p := ⟨Bn, 0, none⟩) (World.block_lt_of_cell? W2 ⟨Bn, 0, none⟩ HBn2.out)).trans HBn2.out)
          have HG3 := hide (grown_below HG2.out hb3)
          have HSZ3 := hide hb3.size
          clear hb3 HCALL
          obtain ⟨c0, c1, c2, c3⟩ := HR3.out.cells
          have f1 := HR3.out.frozen 1
          have f2 := HR3.out.frozen 2
          have d0 := HBr3.out
          have d1 := HBn3.out
          have hb2 : (0 : Int) ≤ (at_ : Int) + (k : Int) - 1 := by omega
          have l2 : IntKind.i64.wrap ((at_ : Int) + (k : Int)) = (at_ : Int) + (k : Int) := IntWalk.i64_in _ (by omega)
          have l3 : IntKind.i64.wrap ((at_ : Int) + (k : Int) - 1) = (at_ : Int) + (k : Int) - 1 := IntWalk.i64_in _ (by omega)
          go_wp2_with fail
          go_still_tail 16, (by kernel_rfl)
          clear l2 l3
          go_wp2_with fail
          have HGG := hide (((only_set w3 b 1 (.int .i64 (min ((at_ : Int) + (k : Int) - 1) (T.size : Int)))).trans (only_set _ b 2 (.bool true))).trans (World.grownBy_alloc _ (.cells #[.int .i64 ((k : Int) + 1)] 3) (some b)))
          have HR4 := hide ((((HR3.out.setAt' (at_ + k - 1) (min ((at_ : Int) + (k : Int) - 1) (T.size : Int)) (by omega)).setBad true).alloc (.cells #[.int .i64 ((k : Int) + 1)] 3)))
          have HG4 := hide (HG3.out.trans HGG.out)
          have HS4 : Hid (R.1 = 0 ∧ R.2.2 = true ∧ R.2.1 = at_ + k - 1) := hide (by rw [HS.out]; exact ⟨rfl, rfl, rfl⟩)
          have HBr4 := hide ((HGG.out.cell_far ⟨w.heap.size, 0, none⟩ (World.block_lt_of_cell? w3 ⟨w.heap.size, 0, none⟩ HBr3.out) (by simp only; intro e; have := Option.some.inj e; omega)).trans HBr3.out)
          have HBn5 : Hid ((((w3.setCell ⟨b, 1, none⟩ (.int .i64 (min ((at_ : Int) + (k : Int) - 1) (T.size : Int)))).setCell ⟨b, 2, none⟩ (.bool true)).alloc (.cells #[.int .i64 ((k : Int) + 1)] 3)).cell? ⟨w3.heap.size, 0, none⟩ = some (.int .i64 ((k + 1 : Nat) : Int))) := hide (by
            obtain ⟨X, hX⟩ : ∃ X, (w3.setCell ⟨b, 1, none⟩ (.int .i64 (min ((at_ : Int) + (k : Int) - 1) (T.size : Int)))).setCell ⟨b, 2, none⟩ (.bool true) = X := ⟨_, rfl⟩
            have hz : w3.heap.size = X.heap.size := by rw [← hX]; simp
            rw [hX, hz, World.cell?_alloc_new]; rfl)
          have hz3 : W1.heap.size ≤ w3.heap.size := by have h1 := HBW2.out.size; have h2 := HSZ3.out; omega
          clear HGG
          go_roundw
          case rel => exact ⟨k + 1, w3.heap.size, rfl, by omega, by omega, HBn5, hide (.inr ⟨HS4.out.1, HS4.out.2.1, by rw [HS4.out.2.2]; exact HR4.out, HBr4.out, grown_drew HG4.out⟩), hz3⟩
          case measure =>
            have h1 := HBn5.out
            have h2 := HBn.out
            have h3 : ∀ W : World, W.drew.cell? ⟨w3.heap.size, 0, none⟩ = W.cell? ⟨w3.heap.size, 0, none⟩ := fun _ => rfl
            simp only [h1, h2, h3, Option.getD_some, intOf]
            omega
        · rw [hp] at HCALL
          simp only [if_true] at HCALL
          have hFl : names.findIdx (fun s => s.take k == (T.data.toList.drop at_).take k) < names.length := List.findIdx_lt_length.2 (by
            unfold hasP at hp
            obtain ⟨s, h1, h2⟩ := List.any_eq_true.1 hp
            exact ⟨s, h1, h2⟩)
          have HNK : Hid (k = 3 → nameK names T.data.toList at_ = names.findIdx (fun s => s.take k == (T.data.toList.drop at_).take k)) := hide (fun e => by subst e; rfl)
          obtain ⟨F, hF⟩ : ∃ F, names.findIdx (fun s => s.take k == (T.data.toList.drop at_).take k) = F := ⟨_, rfl⟩
          rw [hF] at HCALL hFl HNK
          have HPR2 : Hid (∀ j, 1 ≤ j → j < k + 1 → hasP names T.data.toList at_ j = true) := hide (fun j h1 h2 => by
            rcases Nat.lt_or_ge j k with h | h
            · exact HPR.out j h1 h
            · obtain rfl : j = k := by omega
              exact hp)
          have hroom : at_ + k ≤ T.size := by
            have := hasP_room H3.out (T := T.data.toList) (at_ := at_) (k := k) hk3 (by rw [HLS.out]; exact hat) hp
            rw [HLS.out] at this; exact this
          have HCF : Hid (W1.cell? ⟨W0.heap.size, F, none⟩ = some (.string (mkB names[F]))) := hide (by
            obtain ⟨-, A, cap, e, -, -, hx⟩ := HLn.out.1
            obtain ⟨bb, o, e2, hbb, hj⟩ := hx (by rw [List.length_map]; omega)
            rw [e2] at e
            simp only [Value.slice.injEq, Option.some.injEq, Addr.mk.injEq] at e
            have h := hj F (.string (mkB names[F])) (by simp [hFl])
            rw [← e.1.1, ← e.1.2.1, Nat.zero_add] at h
            exact h)
          have hsz : (mkB names[F]).size = 3 := by rw [mkB_size, H3.out _ (List.getElem_mem hFl)]
          obtain ⟨q, hq⟩ : ∃ q, mkB names[F] = q := ⟨_, rfl⟩
          rw [hq] at HCF hsz
          have HSZ := hide hsz
          have hltF : W0.heap.size < W1.heap.size := by have := HZ0.out; have := HZ1.out; omega
          clear hp hF hq hsz
          have hF0 : (0 : Int) ≤ (F : Int) := by omega
          have hF1 : (F : Int) < (names.length : Int) := by omega
          have hF2 : ¬ (F : Int) < 0 := by omega
          refine HCALL.out.mono ?_
          rintro x w3 ⟨rfl, hb3⟩
          have HR3 : Hid (RdRow 47 b T at_ false hv w3) := hide ((hb3.block b HR2.out.lt).trans HR2.out)
          have HBr3 := hide ((hb3.cell (p := ⟨w.heap.size, 0, none⟩) (World.block_lt_of_cell? W2 ⟨w.heap.size, 0, none⟩ HBr2.out)).trans HBr2.out)
          have HBn3 := hide ((hb3.cell (p := ⟨Bn, 0, none⟩) (World.block_lt_of_cell? W2 ⟨Bn, 0, none⟩ HBn2.out)).trans HBn2.out)
          have HG3 := hide (grown_below HG2.out hb3)
          have HBW3 := hide (HBW2.out.trans (hb3.mono HBW2.out.size))
          have HCF3 := hide ((HBW3.out.cell (p := ⟨W0.heap.size, F, none⟩) hltF).trans HCF.out)
          have hz3 := HBW3.out.size
          clear hb3 HCALL
          obtain ⟨c0, c1, c2, c3⟩ := HR3.out.cells
          have f1 := HR3.out.frozen 1
          have d0 := HBr3.out
          have d1 := HBn3.out
          have d2 := HCF3.out
          by_cases hk : k = 3
          · have hqt : ((k : Int) == (q.size : Int)) = true := by rw [HSZ.out, hk]; rfl
            have HS : Hid (R = ((F : Int), at_ + k, false)) := hide (by
              rw [← HD.out, ← HNK.out hk, hk]
              exact nmR_yes (fun j h1 h2 => HPR2.out j h1 (by omega)))
            clear hk
            go_wp2_with fail
            go_quiet (fail)
            have HR4 := hide (HR3.out.drewN nq)
            have HG4 := hide (HG3.out.trans (only_drewN w3 b nq))
            have d3 : (w3.drewN nq).cell? ⟨Bn, 0, none⟩ = some (.int .i64 (k : Int)) := d1
            have d4 : (w3.drewN nq).cell? ⟨w.heap.size, 0, none⟩ = some (.pointer (some ⟨b, 0, none⟩)) := d0
            obtain ⟨w4, hw4⟩ : ∃ w4, w3.drewN nq = w4 := ⟨_, rfl⟩
            rw [hw4] at HR4 HG4 d3 d4 ⊢
            clear hw4 c0 c1 c2 c3 d0 d1 d2 f1
            obtain ⟨c0, c1, c2, c3⟩ := HR4.out.cells
            have f1 := HR4.out.frozen 1
            have l2 : IntKind.i64.wrap ((at_ : Int) + (k : Int)) = (at_ : Int) + (k : Int) := IntWalk.i64_in _ (by omega)
            go_wp2_with fail
            go_still_tail 8, (by kernel_rfl)
            clear l2
            go_wp2_with fail
            go_ret
            exact ⟨by rw [HS.out]; rfl, by rw [HS.out]; exact HR4.out.setAt' (at_ + k) _ (by omega), HG4.out.trans (grown_drew (only_set _ _ _ _))⟩
          · have hqt : ((k : Int) == (q.size : Int)) = false := by rw [HSZ.out]; simp; omega
            go_wp2_with fail
            go_quiet (fail)
            have HR4 := hide (HR3.out.drewN nq)
            have HBW4 := hide (below_drewN HBW3.out nq)
            have d3 : (w3.drewN nq).cell? ⟨Bn, 0, none⟩ = some (.int .i64 (k : Int)) := d1
            have hz4 : W1.heap.size ≤ (w3.drewN nq).heap.size := hz3
            obtain ⟨w4, hw4⟩ : ∃ w4, w3.drewN nq = w4 := ⟨_, rfl⟩
            rw [hw4] at HR4 HBW4 d3 hz4 ⊢
            clear hw4 c0 c1 c2 c3 d0 d1 d2 f1
            go_wp2_with fail
            have HBn5 : Hid ((w4.alloc (.cells #[.int .i64 ((k : Int) + 1)] 3)).cell? ⟨w4.heap.size, 0, none⟩ = some (.int .i64 ((k + 1 : Nat) : Int))) := hide (by rw [World.cell?_alloc_new]; rfl)
            have HBW5 := hide (HBW4.out.alloc hz4 (.cells #[.int .i64 ((k : Int) + 1)] 3))
            go_roundw
            case rel => exact ⟨k + 1, w4.heap.size, rfl, by omega, by omega, HBn5, hide (.inl ⟨by omega, HPR2.out, HBW5.out⟩), hz4⟩
            case measure =>
              have h1 := HBn5.out
              have h2 := HBn.out
              simp only [h1, h2, Option.getD_some, intOf]
              omega
    · have HR5 := hide hRow
      have HG5 := hide hGrw
      obtain ⟨c0, c1, c2, c3⟩ := hRow.cells
      have HV1 := hide hR1
      have HV2 := hide hR2
      clear hRow hGrw hR1 hR2
      go_wp2_with fail
      go_ret
      exact ⟨by rw [HV1.out]; rfl, by rw [HV2.out]; exact HR5.out, HG5.out⟩
set_option maxHeartbeats 4000000 in
set_option maxRecDepth 100000 in
theorem name_bad (names : List (List UInt8)) (str : ByteArray)
    (hF : ∀ W, SpTab W → Calls Tryz.prog 78 #[.string str] W fun e w' => e = .returned (.slice (some ⟨W.heap.size, 0, none⟩) names.length names.length) ∧ w' = W.alloc (.cells (names.map fun l => Value.string (mkB l)).toArray 9))
    (b : Nat) (T : ByteArray) (at_ : Nat) (hv : Value) (w : World) (h : RdRow 47 b T at_ true hv w) (hS : SpTab w) :
    Calls Tryz.prog 46 #[.pointer (some ⟨b, 0, none⟩), .string str] w fun e w' => e = .returned (.int .i64 0) ∧ RdRow 47 b T at_ true hv w' ∧ w.grownBy w' (some b) := by
  have HR := hide h
  have hlt := h.lt
  have HF := hide (hF (w.alloc (.cells #[.pointer (some ⟨b, 0, none⟩)] 44)) (hS.below ((Below.refl _ _).alloc (Nat.le_refl _) _)))
  clear h hS hF
  go_enter Tryz.func46, Tryz.ntmps46
  go_wp2_with fail
  refine HF.out.mono ?_
  rintro e w1 ⟨rfl, rfl⟩
  obtain ⟨W0, hW0⟩ : ∃ W0, w.alloc (.cells #[.pointer (some ⟨b, 0, none⟩)] 44) = W0 := ⟨_, rfl⟩
  have HB0 : Hid (Below w.heap.size w W0) := hide (by rw [← hW0]; exact (Below.refl _ _).alloc (Nat.le_refl _) _)
  have HZ0 : Hid (w.heap.size < W0.heap.size) := hide (by rw [← hW0]; simp)
  have HBr : Hid (W0.cell? ⟨w.heap.size, 0, none⟩ = some (.pointer (some ⟨b, 0, none⟩))) := hide (by rw [← hW0, World.cell?_alloc_new]; rfl)
  rw [hW0]
  clear hW0
  obtain ⟨W1, hW1⟩ : ∃ W1, W0.alloc (.cells (names.map fun l => Value.string (mkB l)).toArray 9) = W1 := ⟨_, rfl⟩
  have HB1 : Hid (Below W0.heap.size W0 W1) := hide (by rw [← hW1]; exact (Below.refl _ _).alloc (Nat.le_refl _) _)
  rw [hW1]
  clear hW1
  go_wp2_with fail
  have HB2 := hide ((Below.refl W1.heap.size W1).alloc (Nat.le_refl _) (.cells #[.int .i64 1] 3))
  obtain ⟨W2, hW2⟩ : ∃ W2, W1.alloc (.cells #[.int .i64 1] 3) = W2 := ⟨_, rfl⟩
  rw [hW2] at HB2 ⊢
  clear hW2
  have HR2 : Hid (RdRow 47 b T at_ true hv W2) := hide (by
    have h0 := HZ0.out
    have h1 := HB1.out.size
    exact ((HB2.out.block b (by omega)).trans ((HB1.out.block b (by omega)).trans (HB0.out.block b hlt))).trans HR.out)
  have d0 : W2.cell? ⟨w.heap.size, 0, none⟩ = some (.pointer (some ⟨b, 0, none⟩)) := by
    have h0 := HZ0.out
    have h1 := HB1.out.size
    exact ((HB2.out.cell (p := ⟨w.heap.size, 0, none⟩) (by simp only; omega)).trans (HB1.out.cell (p := ⟨w.heap.size, 0, none⟩) (by simp only; omega))).trans HBr.out
  have HG2 : Hid (w.grownBy W2 (some b)) := hide (grown_below (grown_below (grown_below (World.grownBy.refl _ _) HB0.out) HB1.out) HB2.out)
  obtain ⟨c0, c1, c2, c3⟩ := HR2.out.cells
  refine wp_loop_rounds 1 ?_
  rw [rounds_succ]
  go_wp2_with fail
  go_ret
  exact ⟨rfl, HR2.out, HG2.out⟩
end Go.Proofs.YtifpmigghplmoaaGreatDoor

/- DReadE -/
set_option linter.unusedVariables false
set_option linter.unusedSimpArgs false
namespace Go.Pw
open Go.RowKit
theorem digsN_snoc {T : List UInt8} : ∀ (m a : Nat) (acc v : Int), digsN T a m acc = .inr v → isDg (T.getD (a + m) 0) = true → digsN T a (m + 1) acc = .inr (10 * v + (((T.getD (a + m) 0).toNat : Int) - 48))
  | 0, a, acc, v, h, hd => by
    have hv : acc = v := by simpa [digsN] using h
    subst hv
    rw [digsN, if_pos (by simpa using hd)]
    rfl
  | m + 1, a, acc, v, h, hd => by
    rw [digsN] at h
    by_cases hg : isDg (T.getD a 0) = true
    · rw [if_pos hg] at h
      rw [digsN, if_pos hg]
      have := digsN_snoc m (a + 1) _ v h (by rw [show a + 1 + m = a + (m + 1) by omega]; exact hd)
      rw [this, show a + 1 + m = a + (m + 1) by omega]
    · rw [if_neg hg] at h; cases h
theorem digCnt_add {T : List UInt8} : ∀ (j a r : Nat) (acc v : Int), digsN T a j acc = .inr v → digCnt T a (j + r) = j + digCnt T (a + j) r
  | 0, a, r, acc, v, h => by rw [Nat.zero_add, Nat.zero_add, Nat.add_zero]
  | j + 1, a, r, acc, v, h => by
    rw [digsN] at h
    by_cases hg : isDg (T.getD a 0) = true
    · rw [if_pos hg] at h
      rw [show j + 1 + r = (j + r) + 1 by omega, digCnt, if_pos hg, digCnt_add j (a + 1) r _ v h, show a + 1 + j = a + (j + 1) by omega]
      omega
    · rw [if_neg hg] at h; cases h
theorem digCnt_stop {T : List UInt8} {a : Nat} (r : Nat) (h : isDg (T.getD a 0) = false) : digCnt T a r = 0 := by
  cases r with
  | zero => rfl
  | succ r => rw [digCnt, if_neg (by rw [h]; simp)]
/-- what the reader makes of a time -/
def tmR (T : List UInt8) (at_ : Nat) : Int × Nat × Bool :=
  match rdTime T at_ with
  | .inl q => (0, q, true)
  | .inr (a, its) => ((its.map (·.n)).headD 0, a, false)
theorem tmR_no {T : List UInt8} {at_ : Nat} (h : isDg (T.getD (at_ + signOf T at_) 0) = false) : tmR T at_ = (0, at_ + signOf T at_, true) := by
  unfold tmR rdTime
  simp only [digCnt_stop 12 h, if_true]
theorem tmR_yes {T : List UInt8} {at_ j : Nat} {v : Int} (hj : 0 < j) (hj2 : j ≤ 12) (h : digsN T (at_ + signOf T at_) j 0 = .inr v) (he : j = 12 ∨ isDg (T.getD (at_ + signOf T at_ + j) 0) = false) :
    tmR T at_ = ((if T.getD at_ 0 = 45 then -v else v), at_ + signOf T at_ + j, false) := by
  have hc : digCnt T (at_ + signOf T at_) 12 = j := by
    have := digCnt_add j (at_ + signOf T at_) (12 - j) 0 v h
    rw [show j + (12 - j) = 12 by omega] at this
    rw [this]
    rcases he with he | he
    · subst he; rfl
    · rw [digCnt_stop _ he]; rfl
  obtain ⟨h1, h2, h3, h4⟩ := digsN_val j _ 0 v h
  rw [Int.zero_mul, Int.zero_add] at h3
  unfold tmR rdTime
  simp only [hc, if_neg (show ¬ j = 0 by omega), ← h3]
  rfl
theorem digits_one_yes {T : List UInt8} {p : Nat} (h : isDg (T.getD p 0) = true) : digsR T false p 1 = (p + 1, false, ((T.getD p 0).toNat : Int) - 48) := by
  unfold digsR
  simp only [Bool.false_eq_true, if_false, digsN, if_pos h]
  simp
theorem digits_one_no {T : List UInt8} {p : Nat} (h : isDg (T.getD p 0) = false) : digsR T false p 1 = (p, true, 0) := by
  unfold digsR
  simp only [Bool.false_eq_true, if_false, digsN, h]
theorem digB_isDg (c : UInt8) : digB c = isDg c := by
  unfold digB isDg
  first | rfl | (simp [UInt8.le_iff_toNat_le])
theorem lead_pos {T : ByteArray} {p : Nat} (hp : p ≤ T.size) : decide (0 < ((T.extract p T.size).data.toList.takeWhile digB).length) = isDg (T.data.toList.getD p 0) := by
  rw [Lib.extract_to_end]
  rcases Nat.lt_or_ge p T.size with h | h
  · have h2 : p < T.data.toList.length := by rw [len_size]; exact h
    rw [List.drop_eq_getElem_cons h2, List.getD_eq_getElem?_getD, List.getElem?_eq_getElem h2]
    show decide (0 < (List.takeWhile digB (T.data.toList[p] :: _)).length) = isDg T.data.toList[p]
    rw [List.takeWhile_cons, digB_isDg]
    cases isDg T.data.toList[p] <;> simp
  · rw [List.drop_eq_nil_of_le (by rw [len_size]; exact h), getD_off h]
    decide
end Go.Pw
namespace Go.Proofs.YtifpmigghplmoaaGreatDoor
open Go.RowKit Go.Pw
set_option maxHeartbeats 4000000 in
set_option maxRecDepth 100000 in
theorem time_bad (b : Nat) (T : ByteArray) (at_ : Nat) (hv : Value) (w : World) (h : RdRow 47 b T at_ true hv w) (hat : at_ ≤ T.size) (hT : T.size ≤ 1000000) :
    Calls Tryz.prog 47 #[.pointer (some ⟨b, 0, none⟩)] w fun e w' => e = .returned (.int .i64 0) ∧ RdRow 47 b T at_ true hv w' ∧ w.grownBy w' (some b) := by
  have HR := hide h
  have HIS := hide (is_any b T at_ true hv 45 w h hat hT (by decide))
  simp only [Bool.not_true, Bool.false_and] at HIS
  clear h
  go_enter Tryz.func47, Tryz.ntmps47
  go_wp2_with fail
  refine HIS.out.mono ?_
  rintro e w1 ⟨rfl, n1, hw1⟩
  have HR1 : Hid (RdRow 47 b T at_ true hv w1) := hide (by rw [hw1]; exact HR.out.drewN n1)
  have HG1 : Hid (w.grownBy w1 (some b)) := hide (by rw [hw1]; exact only_drewN w b n1)
  clear hw1
  go_wp2_with fail
  refine (digits_bad b T at_ 1 hv w1 HR1.out (by omega) (by omega)).mono ?_
  rintro e w2 ⟨rfl, hr2, hg2⟩
  have HR2 := hide hr2
  have HG2 := hide (HG1.out.trans hg2)
  clear hr2 hg2
  obtain ⟨c0, c1, c2, c3⟩ := HR2.out.cells
  go_wp2_with fail
  refine wp_loop_rounds 1 ?_
  rw [rounds_succ]
  go_wp2_with fail
  go_quiet (fail)
  go_wp2_with fail
  go_ret
  exact ⟨rfl, HR2.out.drewN _, HG2.out.trans (only_drewN _ _ _)⟩
set_option maxHeartbeats 8000000 in
set_option maxRecDepth 100000 in
theorem time_go (b : Nat) (T : ByteArray) (at_ : Nat) (hv : Value) (w : World) (h : RdRow 47 b T at_ false hv w) (hat : at_ ≤ T.size) (hT : T.size ≤ 1000000) :
    Calls Tryz.prog 47 #[.pointer (some ⟨b, 0, none⟩)] w fun e w' => e = .returned (.int .i64 (tmR T.data.toList at_).1) ∧ RdRow 47 b T (tmR T.data.toList at_).2.1 (tmR T.data.toList at_).2.2 hv w' ∧ w.grownBy w' (some b) := by
  have HR := hide h
  have HLS := hide (len_size T)
  have HIS := hide (is_any b T at_ false hv 45 w h hat hT (by decide))
  simp only [Bool.not_false, Bool.true_and] at HIS
  have HNO := hide (fun (hh : isDg (T.data.toList.getD (at_ + signOf T.data.toList at_) 0) = false) => tmR_no hh)
  have HYES := hide (fun (j : Nat) (v : Int) (a : 0 < j) (b : j ≤ 12) (c : digsN T.data.toList (at_ + signOf T.data.toList at_) j 0 = .inr v) (d : j = 12 ∨ isDg (T.data.toList.getD (at_ + signOf T.data.toList at_ + j) 0) = false) => tmR_yes a b c d)
  obtain ⟨R, hRd⟩ : ∃ R, tmR T.data.toList at_ = R := ⟨_, rfl⟩
  simp only [hRd] at HNO HYES
  rw [hRd]
  clear h hRd
  by_cases hm : T.data.toList.getD at_ 0 = 45
  · have hlt1 : at_ < T.size := by
      rcases Nat.lt_or_ge at_ T.size with h | h
      · exact h
      · rw [getD_off h] at hm; exact absurd hm (by decide)
    have hs : signOf T.data.toList at_ = 1 := by unfold signOf; rw [if_pos hm]
    simp only [hs, if_pos hm] at HNO HYES
    rw [decide_eq_true hm] at HIS
    clear hm hs
    go_enter Tryz.func47, Tryz.ntmps47
    go_wp2_with fail
    refine HIS.out.mono ?_
    rintro e w0 ⟨rfl, n1, hw1⟩
    have HR0 : Hid (RdRow 47 b T at_ false hv w0) := hide (by rw [hw1]; exact HR.out.drewN n1)
    have HG0 : Hid (w.grownBy w0 (some b)) := hide (by rw [hw1]; exact only_drewN w b n1)
    clear hw1
    obtain ⟨c0, c1, c2, c3⟩ := HR0.out.cells
    have f1 := HR0.out.frozen 1
    go_wp2_with fail
    have HR1 := hide (HR0.out.setAt' (at_ + 1) ((at_ : Int) + 1) (by omega))
    have HG1 := hide (HG0.out.trans (only_set w0 b 1 (.int .i64 ((at_ : Int) + 1))))
    obtain ⟨w1, hw1⟩ : ∃ w1, w0.setCell ⟨b, 1, none⟩ (.int .i64 ((at_ : Int) + 1)) = w1 := ⟨_, rfl⟩
    rw [hw1] at HR1 HG1 ⊢
    clear hw1 c0 c1 c2 c3 f1
    obtain ⟨f, hf⟩ : ∃ f, at_ + 1 = f := ⟨_, rfl⟩
    rw [hf] at HR1 HNO HYES
    have hfT : f ≤ T.size := by omega
    clear hf
    have HDG := hide (digits_go b T f 1 hv w1 HR1.out hfT hT (by omega))
    cases hd : isDg (T.data.toList.getD f 0)
    · have HS := hide (HNO.out hd)
      rw [digits_one_no hd] at HDG
      clear hd
      refine HDG.out.mono ?_
      rintro e w2 ⟨rfl, hr2, hg2⟩
      have HR2 := hide hr2
      have HG2 := hide (HG1.out.trans hg2)
      clear hr2 hg2
      obtain ⟨c0, c1, c2, c3⟩ := HR2.out.cells
      go_wp2_with fail
      refine wp_loop_rounds 1 ?_
      rw [rounds_succ]
      go_wp2_with fail
      go_quiet (fail)
      go_wp2_with fail
      go_ret
      exact ⟨by rw [HS.out]; rfl, by rw [HS.out]; exact HR2.out.drewN _, HG2.out.trans (only_drewN _ _ _)⟩
    · rw [digits_one_yes hd] at HDG
      have HN1 : Hid (digsN T.data.toList f 1 0 = .inr (((T.data.toList.getD f 0).toNat : Int) - 48)) := hide (by rw [digsN, if_pos hd, digsN]; simp)
      have hfl : f + 1 ≤ T.size := by have := isDg_getD hd; rw [HLS.out] at this; omega
      obtain ⟨v1, hv1⟩ : ∃ v1, ((T.data.toList.getD f 0).toNat : Int) - 48 = v1 := ⟨_, rfl⟩
      rw [hv1] at HDG HN1
      clear hd hv1
      refine HDG.out.mono ?_
      rintro e w2 ⟨rfl, hr2, hg2⟩
      have HR2 := hide hr2
      have HG2 := hide (HG1.out.trans hg2)
      clear hr2 hg2
      go_wp2_with fail
      go_loopw [4, 5] (fun n i wr => ∃ (j : Nat) (acc : Int), 1 ≤ j ∧ j ≤ 12 ∧ i = .int .i64 (j : Int) ∧ n = .int .i64 acc ∧ Hid (digsN T.data.toList f j 0 = .inr acc) ∧ f + j ≤ T.size ∧ Hid (RdRow 47 b T (f + j) false hv wr) ∧ Hid (w.grownBy wr (some b))) (fun _ i _ => 12 - (intOf i).toNat)
      case atStart => exact ⟨1, v1, by omega, by omega, rfl, rfl, HN1, hfl, HR2, HG2⟩
      case round =>
        obtain ⟨j, acc, hj1, hj2, rfl, rfl, HN, hfj, HRW, HGW⟩ := hrel
        have hv := digsN_val j f 0 acc HN.out
        have hvl := valL_lt _ hv.1
        have ha0 : 0 ≤ acc := by rw [hv.2.2.1]; omega
        have ha1 : acc ≤ 1000000000000 := by
          have h1 : (valL (piece T.data.toList f (f + j)) : Int) < (10 : Int) ^ 12 := by
            have : valL (piece T.data.toList f (f + j)) < 10 ^ 12 := Nat.lt_of_lt_of_le hvl (Nat.pow_le_pow_right (by decide) (by rw [hv.2.1]; omega))
            exact_mod_cast this
          have h3 : (10 : Int) ^ 12 = 1000000000000 := by decide
          rw [hv.2.2.1]; omega
        clear hv hvl
        obtain ⟨p, hp⟩ : ∃ p, f + j = p := ⟨_, rfl⟩
        have HP := hide hp
        rw [hp] at HRW hfj
        clear hp
        obtain ⟨c0, c1, c2, c3⟩ := HRW.out.cells
        by_cases h12 : j < 12
        · have t1 : decide ((j : Int) < 12) = true := by simp; omega
          have t2 : decide (j < 12) = true := by simpa using h12
          have t3 : (j : Int) < 12 := by omega
          have hp0 : (0 : Int) ≤ (p : Int) := by omega
          have hp1 : (p : Int) ≤ (T.size : Int) := by omega
          have HLP := hide (lead_pos hfj)
          have HDO : Hid (∀ W, Calls Tryz.prog 95 #[.string (T.extract p T.size)] W fun e w' => e = .returned (.int .i64 (((T.extract p T.size).data.toList.takeWhile digB).length : Int)) ∧ w' = W) := hide (fun W => (digitsOf_any (T.extract p T.size) W (by rw [ByteArray.size_extract]; omega)).mono fun e w' h => ⟨h.1, h.2.symm⟩)
          obtain ⟨L, hL⟩ : ∃ L, ((T.extract p T.size).data.toList.takeWhile digB).length = L := ⟨_, rfl⟩
          simp only [hL] at HDO HLP
          clear hL
          cases hd : isDg (T.data.toList.getD p 0)
          · have hL0 : L = 0 := by have h := HLP.out; rw [hd] at h; have := of_decide_eq_false h; omega
            have HS := hide (HYES.out j acc (by omega) hj2 HN.out (.inr (by rw [HP.out]; exact hd)))
            rw [HP.out] at HS
            subst hL0
            clear hd
            go_wp2_with fail
            go_quiet ((go_at_call 95; exact Calls.quiet_of_same (HDO.out _)))
            go_wp2_with fail
            go_ret
            exact ⟨by rw [HS.out]; rfl, by rw [HS.out]; exact HRW.out.drewN _, HGW.out.trans (only_drewN _ _ _)⟩
          · have hL0 : 0 < L := by have h := HLP.out; rw [hd] at h; exact of_decide_eq_true h
            have s1 : decide (0 < (L : Int)) = true := by simp; omega
            have s2 : decide (0 < L) = true := by simpa using hL0
            have s3 : 0 < (L : Int) := by omega
            have HNS := hide (digsN_snoc j f 0 acc HN.out (by rw [HP.out]; exact hd))
            rw [HP.out] at HNS
            have hpl : p + 1 ≤ T.size := by have := isDg_getD hd; rw [HLS.out] at this; omega
            have hdg := (isDg_iff _).1 hd
            have HD1 := hide (digits_one_yes hd)
            obtain ⟨x, hx⟩ : ∃ x, ((T.data.toList.getD p 0).toNat : Int) - 48 = x := ⟨_, rfl⟩
            rw [hx] at HNS HD1
            have hx0 : 0 ≤ x := by omega
            have hx1 : x ≤ 9 := by omega
            clear hd hdg hx
            go_wp2_with fail
            go_quiet ((go_at_call 95; exact Calls.quiet_of_same (HDO.out _)))
            have HR3 := hide (HRW.out.drewN nq)
            have HG3 := hide (HGW.out.trans (only_drewN wr b nq))
            obtain ⟨w3, hw3⟩ : ∃ w3, wr.drewN nq = w3 := ⟨_, rfl⟩
            rw [hw3] at HR3 HG3 ⊢
            clear hw3 c0 c1 c2 c3
            have HDG3 := hide (digits_go b T p 1 hv w3 HR3.out hfj hT (by omega))
            rw [HD1.out] at HDG3
            go_wp2_with fail
            refine HDG3.out.mono ?_
            rintro e w4 ⟨rfl, hr4, hg4⟩
            have HR4 : Hid (RdRow 47 b T (f + (j + 1)) false hv w4) := hide (by rw [show f + (j + 1) = p + 1 by have := HP.out; omega]; exact hr4)
            have HG4 := hide (HG3.out.trans hg4)
            clear hr4 hg4
            go_wp2_with fail
            go_roundw
            case rel => exact ⟨j + 1, _, by omega, by omega, by go_num, rfl, HNS, by have := HP.out; omega, HR4, HG4⟩
            case measure => simp [intOf]; omega
        · have t1 : decide ((j : Int) < 12) = false := by simp; omega
          have t2 : decide (j < 12) = false := by simpa using h12
          have t3 : ¬ (j : Int) < 12 := by omega
          have HS := hide (HYES.out j acc (by omega) hj2 HN.out (.inl (by omega)))
          rw [HP.out] at HS
          go_wp2_with fail
          go_quiet (fail)
          go_wp2_with fail
          go_ret
          exact ⟨by rw [HS.out]; rfl, by rw [HS.out]; exact HRW.out.drewN _, HGW.out.trans (only_drewN _ _ _)⟩
  · have hs : signOf T.data.toList at_ = 0 := by unfold signOf; rw [if_neg hm]
    simp only [hs, if_neg hm, Nat.add_zero] at HNO HYES
    rw [decide_eq_false hm] at HIS
    clear hm hs
    go_enter Tryz.func47, Tryz.ntmps47
    go_wp2_with fail
    refine HIS.out.mono ?_
    rintro e w1 ⟨rfl, n1, hw1⟩
    have HR1 : Hid (RdRow 47 b T at_ false hv w1) := hide (by rw [hw1]; exact HR.out.drewN n1)
    have HG1 : Hid (w.grownBy w1 (some b)) := hide (by rw [hw1]; exact only_drewN w b n1)
    clear hw1
    go_wp2_with fail
    obtain ⟨f, hf⟩ : ∃ f, at_ = f := ⟨_, rfl⟩
    rw [hf] at HR1 HNO HYES
    have hfT : f ≤ T.size := by omega
    clear hf
    have HDG := hide (digits_go b T f 1 hv w1 HR1.out hfT hT (by omega))
    cases hd : isDg (T.data.toList.getD f 0)
    · have HS := hide (HNO.out hd)
      rw [digits_one_no hd] at HDG
      clear hd
      refine HDG.out.mono ?_
      rintro e w2 ⟨rfl, hr2, hg2⟩
      have HR2 := hide hr2
      have HG2 := hide (HG1.out.trans hg2)
      clear hr2 hg2
      obtain ⟨c0, c1, c2, c3⟩ := HR2.out.cells
      go_wp2_with fail
      refine wp_loop_rounds 1 ?_
      rw [rounds_succ]
      go_wp2_with fail
      go_quiet (fail)
      go_wp2_with fail
      go_ret
      exact ⟨by rw [HS.out]; rfl, by rw [HS.out]; exact HR2.out.drewN _, HG2.out.trans (only_drewN _ _ _)⟩
    · rw [digits_one_yes hd] at HDG
      have HN1 : Hid (digsN T.data.toList f 1 0 = .inr (((T.data.toList.getD f 0).toNat : Int) - 48)) := hide (by rw [digsN, if_pos hd, digsN]; simp)
      have hfl : f + 1 ≤ T.size := by have := isDg_getD hd; rw [HLS.out] at this; omega
      obtain ⟨v1, hv1⟩ : ∃ v1, ((T.data.toList.getD f 0).toNat : Int) - 48 = v1 := ⟨_, rfl⟩
      rw [hv1] at HDG HN1
      clear hd hv1
      refine HDG.out.mono ?_
      rintro e w2 ⟨rfl, hr2, hg2⟩
      have HR2 := hide hr2
      have HG2 := hide (HG1.out.trans hg2)
      clear hr2 hg2
      go_wp2_with fail
      go_loopw [4, 5] (fun n i wr => ∃ (j : Nat) (acc : Int), 1 ≤ j ∧ j ≤ 12 ∧ i = .int .i64 (j : Int) ∧ n = .int .i64 acc ∧ Hid (digsN T.data.toList f j 0 = .inr acc) ∧ f + j ≤ T.size ∧ Hid (RdRow 47 b T (f + j) false hv wr) ∧ Hid (w.grownBy wr (some b))) (fun _ i _ => 12 - (intOf i).toNat)
      case atStart => exact ⟨1, v1, by omega, by omega, rfl, rfl, HN1, hfl, HR2, HG2⟩
      case round =>
        obtain ⟨j, acc, hj1, hj2, rfl, rfl, HN, hfj, HRW, HGW⟩ := hrel
        have hv := digsN_val j f 0 acc HN.out
        have hvl := valL_lt _ hv.1
        have ha0 : 0 ≤ acc := by rw [hv.2.2.1]; omega
        have ha1 : acc ≤ 1000000000000 := by
          have h1 : (valL (piece T.data.toList f (f + j)) : Int) < (10 : Int) ^ 12 := by
            have : valL (piece T.data.toList f (f + j)) < 10 ^ 12 := Nat.lt_of_lt_of_le hvl (Nat.pow_le_pow_right (by decide) (by rw [hv.2.1]; omega))
            exact_mod_cast this
          have h3 : (10 : Int) ^ 12 = 1000000000000 := by decide
          rw [hv.2.2.1]; omega
        clear hv hvl
        obtain ⟨p, hp⟩ : ∃ p, f + j = p := ⟨_, rfl⟩
        have HP := hide hp
        rw [hp] at HRW hfj
        clear hp
        obtain ⟨c0, c1, c2, c3⟩ := HRW.out.cells
        by_cases h12 : j < 12
        · have t1 : decide ((j : Int) < 12) = true := by simp; omega
          have t2 : decide (j < 12) = true := by simpa using h12
          have t3 : (j : Int) < 12 := by omega
          have hp0 : (0 : Int) ≤ (p : Int) := by omega
          have hp1 : (p : Int) ≤ (T.size : Int) := by omega
          have HLP := hide (lead_pos hfj)
          have HDO : Hid (∀ W, Calls Tryz.prog 95 #[.string (T.extract p T.size)] W fun e w' => e = .returned (.int .i64 (((T.extract p T.size).data.toList.takeWhile digB).length : Int)) ∧ w' = W) := hide (fun W => (digitsOf_any (T.extract p T.size) W (by rw [ByteArray.size_extract]; omega)).mono fun e w' h => ⟨h.1, h.2.symm⟩)
          obtain ⟨L, hL⟩ : ∃ L, ((T.extract p T.size).data.toList.takeWhile digB).length = L := ⟨_, rfl⟩
          simp only [hL] at HDO HLP
          clear hL
          cases hd : isDg (T.data.toList.getD p 0)
          · have hL0 : L = 0 := by have h := HLP.out; rw [hd] at h; have := of_decide_eq_false h; omega
            have HS := hide (HYES.out j acc (by omega) hj2 HN.out (.inr (by rw [HP.out]; exact hd)))
            rw [HP.out] at HS
            subst hL0
            clear hd
            go_wp2_with fail
            go_quiet ((go_at_call 95; exact Calls.quiet_of_same (HDO.out _)))
            go_wp2_with fail
            go_ret
            exact ⟨by rw [HS.out]; rfl, by rw [HS.out]; exact HRW.out.drewN _, HGW.out.trans (only_drewN _ _ _)⟩
          · have hL0 : 0 < L := by have h := HLP.out; rw [hd] at h; exact of_decide_eq_true h
            have s1 : decide (0 < (L : Int)) = true := by simp; omega
            have s2 : decide (0 < L) = true := by simpa using hL0
            have s3 : 0 < (L : Int) := by omega
            have HNS := hide (digsN_snoc j f 0 acc HN.out (by rw [HP.out]; exact hd))
            rw [HP.out] at HNS
            have hpl : p + 1 ≤ T.size := by have := isDg_getD hd; rw [HLS.out] at this; omega
            have hdg := (isDg_iff _).1 hd
            have HD1 := hide (digits_one_yes hd)
            obtain ⟨x, hx⟩ : ∃ x, ((T.data.toList.getD p 0).toNat : Int) - 48 = x := ⟨_, rfl⟩
            rw [hx] at HNS HD1
            have hx0 : 0 ≤ x := by omega
            have hx1 : x ≤ 9 := by omega
            clear hd hdg hx
            go_wp2_with fail
            go_quiet ((go_at_call 95; exact Calls.quiet_of_same (HDO.out _)))
            have HR3 := hide (HRW.out.drewN nq)
            have HG3 := hide (HGW.out.trans (only_drewN wr b nq))
            obtain ⟨w3, hw3⟩ : ∃ w3, wr.drewN nq = w3 := ⟨_, rfl⟩
            rw [hw3] at HR3 HG3 ⊢
            clear hw3 c0 c1 c2 c3
            have HDG3 := hide (digits_go b T p 1 hv w3 HR3.out hfj hT (by omega))
            rw [HD1.out] at HDG3
            go_wp2_with fail
            refine HDG3.out.mono ?_
            rintro e w4 ⟨rfl, hr4, hg4⟩
            have HR4 : Hid (RdRow 47 b T (f + (j + 1)) false hv w4) := hide (by rw [show f + (j + 1) = p + 1 by have := HP.out; omega]; exact hr4)
            have HG4 := hide (HG3.out.trans hg4)
            clear hr4 hg4
            go_wp2_with fail
            go_roundw
            case rel => exact ⟨j + 1, _, by omega, by omega, by go_num, rfl, HNS, by have := HP.out; omega, HR4, HG4⟩
            case measure => simp [intOf]; omega
        · have t1 : decide ((j : Int) < 12) = false := by simp; omega
          have t2 : decide (j < 12) = false := by simpa using h12
          have t3 : ¬ (j : Int) < 12 := by omega
          have HS := hide (HYES.out j acc (by omega) hj2 HN.out (.inl (by omega)))
          rw [HP.out] at HS
          go_wp2_with fail
          go_quiet (fail)
          go_wp2_with fail
          go_ret
          exact ⟨by rw [HS.out]; rfl, by rw [HS.out]; exact HRW.out.drewN _, HGW.out.trans (only_drewN _ _ _)⟩
end Go.Proofs.YtifpmigghplmoaaGreatDoor
