/- The walks of an order, fourth part: cmp.Compare of strings, cmp.Or, numbers compared. -/
import Derived.Test.YtifpmigghplmoaaGreatDoorZNum
set_option linter.unusedVariables false
set_option linter.unusedSimpArgs false
namespace Go.Pw
open Go.RowKit
theorem rd_three (w : World) (a b c : Int) (t : TypeId) : Rd (w.alloc (.cells #[.int .i64 a, .int .i64 b, .int .i64 c] t)) 1 (.slice (some ⟨w.heap.size, 0, none⟩) 3 3) [a, b, c].length ([a, b, c].map (Value.int .i64)) := by
  refine ⟨rfl, _, 3, rfl, Nat.le_refl _, by unfold maxLen; omega, fun _ => ⟨w.heap.size, 0, rfl, by simp, fun j u hu => ?_⟩⟩
  rw [World.cell?_alloc_new]
  simpa using hu
theorem Rd.drew {w : World} {n k : Nat} {v : Value} {l : List Value} (h : Rd w k v n l) : Rd w.drew k v n l := h
theorem size_alloc (w : World) (o : Obj) : (w.alloc o).heap.size = w.heap.size + 1 := by simp
theorem cb_same : ∀ l : List UInt8, Lib.compareBytes l l = 0
  | [] => rfl
  | c :: l => by simp [Lib.compareBytes, cb_same l]
theorem cb_less : ∀ {a b : List UInt8}, Op.bytesLess a b = true → Lib.compareBytes a b = -1
  | _, [], h => by simp [Op.bytesLess] at h
  | [], _ :: _, h => rfl
  | a :: x, b :: y, h => by
    rw [Lib.compareBytes]
    by_cases h1 : a < b
    · rw [if_pos h1]
    · simp [Op.bytesLess, h1] at h
      rw [if_neg h1, if_neg (by rw [h.1]; simp), cb_less h.2]
theorem cb_more : ∀ {a b : List UInt8}, Op.bytesLess a b = false → ¬ a = b → Lib.compareBytes a b = 1
  | [], [], _, h => absurd rfl h
  | _ :: _, [], _, _ => rfl
  | [], _ :: _, h, _ => by simp [Op.bytesLess] at h
  | a :: x, b :: y, h, hn => by
    rw [Lib.compareBytes]
    by_cases h1 : a < b
    · simp [Op.bytesLess, h1] at h
    · rw [if_neg h1]
      by_cases h2 : b < a
      · rw [if_pos h2]
      · rw [if_neg h2]
        have e : a = b := UInt8.le_antisymm (by simpa using h2) (by simpa using h1)
        subst e
        simp [Op.bytesLess] at h
        exact cb_more h (fun e => hn (by rw [e]))
theorem cb_range (a b : List UInt8) : -1 ≤ Lib.compareBytes a b ∧ Lib.compareBytes a b ≤ 1 := by
  by_cases e : a = b
  · subst e; rw [cb_same]; omega
  · cases h : Op.bytesLess a b
    · rw [cb_more h e]; omega
    · rw [cb_less h]; omega
theorem ci_range (a b : Int) : -1 ≤ Lib.compareInt a b ∧ Lib.compareInt a b ≤ 1 := by
  unfold Lib.compareInt; split
  · omega
  · split <;> omega
end Go.Pw
namespace Go.Proofs.YtifpmigghplmoaaGreatDoor
open Go.RowKit Go.Pw
theorem isNaNS_any (s : ByteArray) (w : World) : Calls Tryz.prog 146 #[.string s] w fun e w' => e = .returned (.bool false) ∧ w = w' := by
  go_enter Tryz.func146, Tryz.ntmps146
  go_wp2
  go_ret
  exact ⟨by simp, rfl⟩
set_option maxHeartbeats 1000000 in
theorem compareS_any (a b : ByteArray) (w : World) : Calls Tryz.prog 109 #[.string a, .string b] w fun e w' => e = .returned (.int .i64 (Lib.compareBytes a.data.toList b.data.toList)) ∧ w = w' := by
  go_enter Tryz.func109, Tryz.ntmps109
  go_wp2_with (go_at_call 146; refine (isNaNS_any _ _).mono ?_; rintro e w' ⟨rfl, rfl⟩)
  · have h : Op.bytesLess a.toList b.toList = true := by assumption
    rw [Lib.toList_data, Lib.toList_data] at h
    go_ret
    exact ⟨ret_int (cb_less h).symm, rfl⟩
  · have h : Op.bytesLess a.toList b.toList = false := by assumption
    have h2 : (!a.toList == b.toList) = true := by assumption
    rw [Lib.toList_data, Lib.toList_data] at h h2
    go_ret
    exact ⟨ret_int (cb_more h (by simpa using h2)).symm, rfl⟩
  · have h2 : (!a.toList == b.toList) = false := by assumption
    rw [Lib.toList_data, Lib.toList_data] at h2
    go_ret
    exact ⟨ret_int (by rw [show a.data.toList = b.data.toList by simpa using h2, cb_same]), rfl⟩
theorem or_any (v : Value) (l : List Int) (w : World) (h : Rd w 1 v l.length (l.map (Value.int .i64))) :
    Calls Tryz.prog 171 #[v] w fun e w' => e = .returned (.int .i64 (firstNZ l)) ∧ w = w' := by
  obtain ⟨_, A, cap, rfl, hcap, hmax, hx⟩ := h
  unfold maxLen at hmax
  have HX := hide hx
  clear hx
  go_enter Tryz.func171, Tryz.ntmps171
  go_wp2
  go_loop [8] (fun i => ∃ k : Nat, k ≤ l.length ∧ i = .int .i64 (k : Int) ∧ Hid (firstNZ l = firstNZ ((l.drop k).map id))) (fun i => l.length - (intOf i).toNat)
  case atStart => exact ⟨0, by omega, rfl, by show _ = _; simp⟩
  case round =>
    obtain ⟨k, hk, rfl, hf⟩ := hrel
    by_cases hlt : k < l.length
    · obtain ⟨b, o, rfl, hb, hj⟩ := HX.out (by omega)
      have hc : w.cell? ⟨b, o + k, none⟩ = some (.int .i64 l[k]) := hj k _ (by simp [hlt])
      clear hj
      go_wp2_with fail
      · have hne : (l[k] != 0) = true := by assumption
        go_ret
        exact ⟨ret_int (fnz_hit hf hlt rfl (by simpa using hne)), rfl⟩
      · have hne : (l[k] != 0) = false := by assumption
        go_round
        case rel => exact ⟨k + 1, by omega, by go_num, fnz_miss hf hlt (by simpa using hne)⟩
        case measure => simp [intOf]; omega
    · go_wp2_with fail
      go_ret
      exact ⟨ret_int (fnz_end hf hlt), rfl⟩

/-- numbers compared, over texts -/
def cmpB (n1 : Bool) (x p : ByteArray) (n2 : Bool) (y q : ByteArray) : Int :=
  if n1 ≠ n2 then (if n1 then -1 else 1)
  else if n1 then -firstNZ [Lib.compareInt (x.size : Int) (y.size : Int), Lib.compareBytes x.data.toList y.data.toList, Lib.compareBytes p.data.toList q.data.toList]
  else firstNZ [Lib.compareInt (x.size : Int) (y.size : Int), Lib.compareBytes x.data.toList y.data.toList, Lib.compareBytes p.data.toList q.data.toList]
set_option maxHeartbeats 2000000 in
set_option maxRecDepth 100000 in
theorem compareNumbersB_any (n1 n2 : Bool) (x p y q : ByteArray) (w : World) :
    Calls Tryz.prog 143 #[.agg #[.bool n1, .string x, .string p], .agg #[.bool n2, .string y, .string q]] w fun e w' => e = .returned (.int .i64 (cmpB n1 x p n2 y q)) ∧ Below w.heap.size w w' := by
  obtain ⟨A, hA⟩ : ∃ A, Lib.compareInt (x.size : Int) (y.size : Int) = A := ⟨_, rfl⟩
  obtain ⟨B, hB⟩ : ∃ B, Lib.compareBytes x.data.toList y.data.toList = B := ⟨_, rfl⟩
  obtain ⟨C, hC⟩ : ∃ C, Lib.compareBytes p.data.toList q.data.toList = C := ⟨_, rfl⟩
  have hR := rd_three ((w.alloc (.cells #[.bool n1, .string x, .string p] 183)).alloc (.cells #[.bool n2, .string y, .string q] 183)) A B C 3
  rw [size_alloc, size_alloc] at hR
  have HR := hide hR
  have HBL := hide (below_two w (.cells #[.bool n1, .string x, .string p] 183) (.cells #[.bool n2, .string y, .string q] 183))
  clear hR
  have HA := hide (fun W => Tryz.cmp_Compare_int (x.size : Int) (y.size : Int) W)
  have HB := hide (fun W => compareS_any x y W)
  have HC := hide (fun W => compareS_any p q W)
  simp only [hA] at HA
  simp only [hB] at HB
  simp only [hC] at HC
  have HV : Hid (cmpB n1 x p n2 y q = if n1 ≠ n2 then (if n1 then -1 else 1) else if n1 then -firstNZ [A, B, C] else firstNZ [A, B, C]) := by
    show _ = _
    unfold cmpB; rw [hA, hB, hC]
  have hrA := ci_range (x.size : Int) (y.size : Int)
  have hrB := cb_range x.data.toList y.data.toList
  have hrC := cb_range p.data.toList q.data.toList
  rw [hA] at hrA
  rw [hB] at hrB
  rw [hC] at hrC
  clear hA hB hC
  obtain ⟨F, hF⟩ : ∃ F, firstNZ [A, B, C] = F := ⟨_, rfl⟩
  have hFr : -1 ≤ F ∧ F ≤ 1 := by
    rw [← hF]; unfold firstNZ; split
    · unfold firstNZ; split
      · unfold firstNZ; split
        · simp [firstNZ]
        · exact hrC
      · exact hrB
    · exact hrA
  have HF := hide hF
  clear hF hrA hrB hrC
  cases n1
  · cases n2
    · have HE : Hid (cmpB false x p false y q = F) := by
        show _ = _
        rw [HV.out, HF.out]; simp
      go_enter Tryz.func143, Tryz.ntmps143
      go_wp2_with fail
      go_region_held3 (fun w' => w'.cell? ⟨w.heap.size, 1, none⟩ = some (.string x) ∧ w'.cell? ⟨w.heap.size, 2, none⟩ = some (.string p) ∧ w'.cell? ⟨w.heap.size + 1, 1, none⟩ = some (.string y) ∧ w'.cell? ⟨w.heap.size + 1, 2, none⟩ = some (.string q)) (go_keep) (first | (go_at_call 172; (with_reducible refine (HA.out _).mono ?_); rintro e w' ⟨rfl, rfl⟩) | (go_at_call 109; (with_reducible refine (HB.out _).mono ?_); rintro e w' ⟨rfl, rfl⟩) | (go_at_call 109; (with_reducible refine (HC.out _).mono ?_); rintro e w' ⟨rfl, rfl⟩) | (go_at_call 171; refine (or_any _ [A, B, C] _ (Rd.drew HR.out)).mono ?_; rintro e w' ⟨rfl, rfl⟩))
      rw [HF.out]
      go_wp2_with fail
      go_ret
      exact ⟨by rw [HE.out]; rfl, (HBL.out.alloc (by simp; omega) _).drew⟩
    · go_enter Tryz.func143, Tryz.ntmps143
      go_wp2_with fail
      go_ret
      exact ⟨rfl, HBL.out⟩
  · cases n2
    · go_enter Tryz.func143, Tryz.ntmps143
      go_wp2_with fail
      go_ret
      exact ⟨rfl, HBL.out⟩
    · have HE : Hid (cmpB true x p true y q = -F) := by
        show _ = _
        rw [HV.out, HF.out]; simp
      go_enter Tryz.func143, Tryz.ntmps143
      go_wp2_with fail
      go_region_held3 (fun w' => w'.cell? ⟨w.heap.size, 1, none⟩ = some (.string x) ∧ w'.cell? ⟨w.heap.size, 2, none⟩ = some (.string p) ∧ w'.cell? ⟨w.heap.size + 1, 1, none⟩ = some (.string y) ∧ w'.cell? ⟨w.heap.size + 1, 2, none⟩ = some (.string q)) (go_keep) (first | (go_at_call 172; (with_reducible refine (HA.out _).mono ?_); rintro e w' ⟨rfl, rfl⟩) | (go_at_call 109; (with_reducible refine (HB.out _).mono ?_); rintro e w' ⟨rfl, rfl⟩) | (go_at_call 109; (with_reducible refine (HC.out _).mono ?_); rintro e w' ⟨rfl, rfl⟩) | (go_at_call 171; refine (or_any _ [A, B, C] _ (Rd.drew HR.out)).mono ?_; rintro e w' ⟨rfl, rfl⟩))
      rw [HF.out]
      go_wp2_with fail
      go_ret
      exact ⟨by rw [HE.out]; rfl, (HBL.out.alloc (by simp; omega) _).drew⟩
theorem compareNumbers_any (a b : Nm) (w : World) : Calls Tryz.prog 143 #[nmV a, nmV b] w fun e w' => e = .returned (.int .i64 (cmpNum a b)) ∧ Below w.heap.size w w' := by
  have := compareNumbersB_any a.neg b.neg ⟨a.whole.toArray⟩ ⟨a.part.toArray⟩ ⟨b.whole.toArray⟩ ⟨b.part.toArray⟩ w
  have e : cmpB a.neg ⟨a.whole.toArray⟩ ⟨a.part.toArray⟩ b.neg ⟨b.whole.toArray⟩ ⟨b.part.toArray⟩ = cmpNum a b := rfl
  rw [e] at this
  exact this
end Go.Proofs.YtifpmigghplmoaaGreatDoor
