/- The reference's Passes. -/
import Derived.Test.YtkikbejpgfhfoaaDoorRunsD
import Derived.Test.YtkikbejpgfhfoaaDoorRefL
set_option linter.unusedVariables false
set_option linter.unusedSimpArgs false
namespace Go.Pw
open Go.RowKit
variable {α : Type}
def cntL (size : α → Nat) (memory : Int) (l : List α) : Nat × Int := l.foldl (cnt1 size memory) (0, 0)
theorem cntL_snoc (size : α → Nat) (memory : Int) (l : List α) (s : α) : cntL size memory (l ++ [s]) = cnt1 size memory (cntL size memory l) s := by simp [cntL]
theorem cntL_take (size : α → Nat) (memory : Int) (l : List α) (k : Nat) (h : k < l.length) : cntL size memory (l.take (k + 1)) = cnt1 size memory (cntL size memory (l.take k)) l[k] := by
  rw [List.take_succ_eq_append_getElem h, cntL_snoc]
theorem cntL_bound (size : α → Nat) (memory : Int) (h0 : 0 ≤ memory) (h1 : memory ≤ 1000000) : ∀ l : List α, (∀ s ∈ l, size s ≤ 1000000) → (cntL size memory l).1 ≤ l.length ∧ 0 ≤ (cntL size memory l).2 ∧ (cntL size memory l).2 ≤ 1000001 := by
  refine snoc_ind (fun _ => by simp [cntL]) fun l x ih => ?_
  intro hs
  have i1 := ih fun s hs' => hs s (by simp [hs'])
  have i2 := hs x (by simp)
  rw [cntL_snoc, cnt1]
  split
  · simp only [List.length_append, List.length_cons, List.length_nil]; omega
  · rename_i h
    rw [not_or] at h
    simp only [List.length_append, List.length_cons, List.length_nil]; omega
end Go.Pw
namespace Go.Proofs.YtkikbejpgfhfoaaDoor
open Go.RowKit Go.Pw
set_option maxHeartbeats 2000000 in
set_option maxRecDepth 100000 in
theorem passesR_any (v : Value) (l : List ByteArray) (mem : Int) (ways : Nat) (w : World) (h : Strs w v l) (hsz : ∀ s ∈ l, s.size ≤ 65536) (hlen : l.length ≤ 65536) (hm1 : 1 ≤ mem) (hm2 : mem ≤ 65536) (hw1 : 2 ≤ ways) (hw2 : ways ≤ 16) :
    Calls Tryd.prog 42 #[v, .int .i64 mem, .int .i64 (ways : Int)] w fun e w' => e = .returned (.int .i64 (pas ways (cntL ByteArray.size mem l).1 : Nat)) ∧ w = w' := by
  obtain ⟨⟨_, A, cap, rfl, hcap, hmax, hx⟩, _⟩ := h
  have HX := hide hx
  have HZ := hide hsz
  clear hx hsz
  go_enter Tryd.func42, Tryd.ntmps42
  go_wp2_with fail
  go_loopw [7, 8, 15] (fun rn us i wr => ∃ k : Nat, k ≤ l.length ∧ i = .int .i64 (k : Int) ∧ rn = .int .i64 ((cntL ByteArray.size mem (l.take k)).1 : Int) ∧ us = .int .i64 (cntL ByteArray.size mem (l.take k)).2 ∧ w = wr) (fun _ _ i _ => l.length - (intOf i).toNat)
  case atStart => exact ⟨0, Nat.zero_le _, rfl, rfl, rfl, rfl⟩
  case round =>
    obtain ⟨k, hk, rfl, rfl, rfl, rfl⟩ := hrel
    have hcb := cntL_bound ByteArray.size mem (by omega) (by omega) (l.take k) (fun s hs => by have := HZ.out s (List.mem_of_mem_take hs); omega)
    rw [List.length_take, Nat.min_eq_left hk] at hcb
    by_cases hlt : k < l.length
    · obtain ⟨bb, ob, rfl, hbb, hj⟩ := HX.out (by omega)
      have q1 : l[k]? = some l[k] := List.getElem?_eq_getElem hlt
      have c1 : w.cell? ⟨bb, ob + k, none⟩ = some (.string l[k]) := hj k _ (by rw [List.getElem?_map, q1]; rfl)
      have z1 := HZ.out _ (List.getElem_mem hlt)
      have HT := hide (cntL_take ByteArray.size mem l k hlt)
      obtain ⟨D, hD⟩ : ∃ D, cntL ByteArray.size mem (l.take k) = D := ⟨_, rfl⟩
      rw [hD] at HT hcb ⊢
      obtain ⟨rn, us⟩ := D
      simp only [] at hcb ⊢
      obtain ⟨x, hx⟩ : ∃ x, l[k] = x := ⟨_, rfl⟩
      rw [hx] at c1 z1 HT
      clear hj q1 hx hD
      have hd : (k : Int) < (l.length : Int) := by omega
      have hw1 : IntKind.i64.wrap ((x.size : Int) + 1) = (x.size : Int) + 1 := IntWalk.i64_in _ (by omega)
      have hw2 : IntKind.i64.wrap (us + ((x.size : Int) + 1)) = us + ((x.size : Int) + 1) := IntWalk.i64_in _ (by omega)
      have hw3 : IntKind.i64.wrap ((rn : Int) + 1) = (rn : Int) + 1 := IntWalk.i64_in _ (by omega)
      by_cases h0 : rn = 0
      · subst h0
        have HD : Hid (cntL ByteArray.size mem (l.take (k + 1)) = (1, (x.size : Int) + 1)) := hide (by rw [HT.out, cnt1, if_pos (.inl rfl)])
        go_wp2_with fail
        go_roundw
        case rel => exact ⟨k + 1, by omega, by go_num, by rw [HD.out]; rfl, by rw [HD.out], by first | trivial | rfl⟩
        case measure => simp [intOf]; omega
      · have hne0 : ((rn : Int) == 0) = false := by simp only [beq_eq_false_iff_ne, ne_eq]; omega
        by_cases hr : us + ((x.size : Int) + 1) > mem
        · have hr2 : mem < us + ((x.size : Int) + 1) := hr
          have HD : Hid (cntL ByteArray.size mem (l.take (k + 1)) = (rn + 1, (x.size : Int) + 1)) := hide (by rw [HT.out, cnt1, if_pos (.inr hr)])
          go_wp2_with fail
          go_roundw
          case rel => exact ⟨k + 1, by omega, by go_num, by rw [HD.out]; go_num, by rw [HD.out], by first | trivial | rfl⟩
          case measure => simp [intOf]; omega
        · have hr2 : ¬ (mem < us + ((x.size : Int) + 1)) := hr
          have HD : Hid (cntL ByteArray.size mem (l.take (k + 1)) = (rn, us + ((x.size : Int) + 1))) := hide (by rw [HT.out, cnt1, if_neg (fun q => q.elim (fun q => h0 q) (fun q => hr q))])
          go_wp2_with fail
          go_roundw
          case rel => exact ⟨k + 1, by omega, by go_num, by rw [HD.out], by rw [HD.out], by first | trivial | rfl⟩
          case measure => simp [intOf]; omega
    · obtain rfl : k = l.length := by omega
      have hd : ¬ ((l.length : Int) < (l.length : Int)) := by omega
      rw [List.take_length] at hcb ⊢
      obtain ⟨R, hR⟩ : ∃ R, (cntL ByteArray.size mem l).1 = R := ⟨_, rfl⟩
      have HR := hide hR
      rw [hR] at hcb ⊢
      clear hR
      go_wp2_with fail
      go_loopw [7, 12] (fun rn ps wr => ∃ r p : Nat, r ≤ R ∧ p ≤ R ∧ rn = .int .i64 (r : Int) ∧ ps = .int .i64 (p : Int) ∧ Hid (p + pas ways r = pas ways R) ∧ w = wr) (fun rn _ _ => (intOf rn).toNat)
      case atStart => exact ⟨R, 0, Nat.le_refl _, Nat.zero_le _, rfl, rfl, hide (by omega), rfl⟩
      case round =>
        obtain ⟨r, p, hr, hp, rfl, rfl, HP, rfl⟩ := hrel
        by_cases h1 : 1 < r
        · have hd2 : (1 : Int) < (r : Int) := by omega
          have e1 := pas_step (n := ways) (by omega) h1
          have e2 := less_div (n := ways) (by omega) h1
          have e3 := HP.out
          have e4 := pas_le (n := ways) (by omega) R R (Nat.le_refl _)
          have HP2 : Hid (p + 1 + pas ways ((r + ways - 1) / ways) = pas ways R) := hide (by omega)
          have hp2 : p + 1 ≤ R := by omega
          have hv0 : ¬ ((ways : Int) = 0) := by omega
          have hvb : ((ways : Int) == 0) = false := by simp only [beq_eq_false_iff_ne, ne_eq]; omega
          have hv1 : IntKind.i64.wrap ((r : Int) + (ways : Int)) = (r : Int) + (ways : Int) := IntWalk.i64_in _ (by omega)
          have hv2 : IntKind.i64.wrap ((r : Int) + (ways : Int) - 1) = (((r + ways - 1 : Nat)) : Int) := (IntWalk.i64_in _ (by omega)).trans (by omega)
          have hv3 : (((r + ways - 1 : Nat)) : Int).tdiv (ways : Int) = (((r + ways - 1) / ways : Nat) : Int) := by rw [← Int.ofNat_tdiv]
          obtain ⟨R2, hR2⟩ : ∃ R2, (r + ways - 1) / ways = R2 := ⟨_, rfl⟩
          rw [hR2] at hv3 HP2 e2
          have hv4 : IntKind.i64.wrap (R2 : Int) = (R2 : Int) := IntWalk.i64_in _ (by omega)
          obtain ⟨S, hS⟩ : ∃ S, r + ways - 1 = S := ⟨_, rfl⟩
          rw [hS] at hv2 hv3
          clear hR2 hS e1 e3 e4
          go_wp2_with fail
          go_roundw
          case rel => exact ⟨R2, p + 1, by omega, hp2, by go_num, by go_num, HP2, by first | trivial | rfl⟩
          case measure => simp [intOf]; omega
        · have hd2 : ¬ ((1 : Int) < (r : Int)) := by omega
          have e1 := pas_done (n := ways) (show r ≤ 1 by omega)
          have e2 := HP.out
          go_wp2_with fail
          go_ret
          exact ⟨by rw [HR.out]; simp; omega, by first | trivial | rfl⟩
end Go.Proofs.YtkikbejpgfhfoaaDoor
