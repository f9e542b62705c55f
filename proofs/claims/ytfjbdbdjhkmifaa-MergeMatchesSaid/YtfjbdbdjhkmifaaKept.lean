import Derived.Test.YtfjbdbdjhkmifaaStay
import Derived.Deep.OwnRows
import Derived.RegionTactic
import Derived.BigRegion
import Derived.Deep.QuietTactic
import Derived.BigQuiet
import Derived.StillTailTactics
set_option linter.unusedVariables false
set_option linter.unusedSimpArgs false
namespace Go.Proofs.Ytfjbdbdjhkmifaa
open Go.RowKit Go.Pw

set_option maxHeartbeats 2000000 in
set_option maxRecDepth 100000 in
theorem kept_any (va vb : Value) (a b : List ByteArray) (w : World) (ha : Strs w va a) (hb : Strs w vb b) (hla : a.length ≤ 1000) (hlb : b.length ≤ 1000) :
    Calls Try.prog 69 #[va, vb] w fun e w' => e = .returned (.slice (some ⟨w.heap.size, 0, none⟩) (a.length + 1) (a.length + 1)) ∧ Grid w' 52 3 w.heap.size (a.length + 1) (b.length + 1) (ell a b) ∧ Below w.heap.size w w' := by
  have HB := hide hb
  clear hb
  obtain ⟨⟨_, A, ca, rfl, hca, hma, hxa⟩, hsa⟩ := ha
  have hb := HB.out
  obtain ⟨⟨_, B, cb, rfl, hcb, hmb, hxb⟩, hsb⟩ := hb
  unfold maxLen at hma hmb
  have HXA := hide hxa
  have HXB := hide hxb
  have HSA := hide hsa
  have HSB := hide hsb
  clear hxa hxb hsa hsb
  have hmk1 := run_make_row' (P := Try.prog) 120 52 (.slice none 0 0) 24 Try.underlying120 info_ints rfl .i64 .i64 (a.length + 1) (by omega) (by omega)
  have hmk2 := run_make_row' (P := Try.prog) 52 3 (.int .i64 0) 8 Try.underlying52 info_int rfl .i64 .i64 (b.length + 1) (by omega) (by omega)
  have e1 : ((a.length + 1 : Nat) : Int) = (a.length : Int) + 1 := by omega
  have e2 : ((b.length + 1 : Nat) : Int) = (b.length : Int) + 1 := by omega
  rw [e1] at hmk1
  rw [e2] at hmk2
  clear e1 e2
  go_enter Try.func69, Try.ntmps69
  go_wp2
  go_loopw [15] (fun i wr => ∃ k : Nat, k ≤ a.length + 1 ∧ i = .int .i64 k ∧ Hid (GridTo wr 52 3 w.heap.size (a.length + 1) (b.length + 1) k) ∧ Below w.heap.size w wr) (fun i _ => a.length + 1 - (intOf i).toNat)
  case atStart => exact ⟨0, by omega, rfl, GridTo.start _ _ _ _ _, (Below.refl _ _).alloc (Nat.le_refl _) _⟩
  case round =>
    obtain ⟨k, hk, rfl, hg, hbl⟩ := hrel
    by_cases hlt : k < a.length + 1
    · have hlt' : (k : Int) < (a.length : Int) + 1 := by omega
      have hc := hg.out.cell hlt
      have hf := hg.out.frozen
      have hn := hg.out.lt
      go_wp2
      go_roundw
      case rel => exact ⟨k + 1, by omega, by go_num, hg.out.step, (hbl.setCell (by simp) _).alloc (by simp [World.setCell]; omega) _⟩
      case measure => simp [intOf]; omega
    · obtain rfl : k = a.length + 1 := by omega
      have HG := hide hg.out.done
      clear hg
      have hlt' : ¬ ((a.length : Int) + 1 < (a.length : Int) + 1) := by omega
      go_wp2
      have HG2 := hide (HG.out.congr (fun i j hi hj => tab_start a b i j hi hj))
      clear HG
      go_loopw [7] (fun i wr => ∃ z : Int, -1 ≤ z ∧ z < a.length ∧ i = .int .i64 z ∧ Hid (Grid wr 52 3 w.heap.size (a.length + 1) (b.length + 1) (tab a b z ((b.length : Int) - 1))) ∧ Below w.heap.size w wr) (fun i _ => (intOf i + 1).toNat)
      case atStart => exact ⟨_, by omega, by omega, rfl, HG2, hbl⟩
      case round =>
        clear HG2 hbl
        obtain ⟨z, hz0, hz1, rfl, hg, hbl⟩ := hrel
        by_cases hz : 0 ≤ z
        · obtain ⟨i, rfl⟩ := Int.eq_ofNat_of_zero_le hz
          --<DP
          go_wp2
          go_loopw [8] (fun j wr => ∃ z : Int, -1 ≤ z ∧ z < b.length ∧ j = .int .i64 z ∧ Hid (Grid wr 52 3 w.heap.size (a.length + 1) (b.length + 1) (tab a b i z)) ∧ Below w.heap.size w wr) (fun i _ => (intOf i + 1).toNat)
          case atStart => exact ⟨_, by omega, by omega, rfl, hg, hbl⟩
          case round =>
            clear hg hbl
            obtain ⟨z, hy0, hy1, rfl, hg, hbl⟩ := hrel
            by_cases hy : 0 ≤ z
            · obtain ⟨j, rfl⟩ := Int.eq_ofNat_of_zero_le hy
              have hia : i < a.length := by omega
              have hjb : j < b.length := by omega
              have c0 := hg.out.row (i := i) (by omega)
              have c1 := hg.out.row (i := i + 1) (by omega)
              have c2 := hg.out.cell (i := i + 1) (j := j) (by omega) (by omega)
              have c3 := hg.out.cell (i := i) (j := j + 1) (by omega) (by omega)
              have c4 := hg.out.cell (i := i) (j := j) (by omega) (by omega)
              have f4 := hg.out.frozen (i := i) (j := j) (by omega)
              rw [tab_at_down] at c2
              rw [tab_at_right] at c3
              go_wp2
              go_region
              have hg1 := hide (hg.out.set i j (max (ell a b (i + 1) j) (ell a b i (j + 1)))).drew
              have hbl1 := (hbl.setCell (p := ⟨w.heap.size + 1 + i, j, none⟩) (by simp; omega) (.int .i64 (max (ell a b (i + 1) j) (ell a b i (j + 1))))).drew
              clear c0 c1 c2 c3 c4 f4 hg hbl
              generalize (wr.setCell ⟨w.heap.size + 1 + i, j, none⟩ (.int .i64 (max (ell a b (i + 1) j) (ell a b i (j + 1))))).drew = w1 at *
              obtain ⟨ba, oa, rfl, hba, hja⟩ := HXA.out (by omega)
              have ca1 : w1.cell? ⟨ba, oa + i, none⟩ = some (.string a[i]) := (hbl1.cell hba).trans (hja i _ (by simp [hia]))
              obtain ⟨bb, ob, rfl, hbb, hjb2⟩ := HXB.out (by omega)
              have cb1 : w1.cell? ⟨bb, ob + j, none⟩ = some (.string b[j]) := (hbl1.cell hbb).trans (hjb2 j _ (by simp [hjb]))
              clear hja hjb2
              go_wp2
              go_quiet (fail)
              clear ca1 cb1
              go_wp2
              · have heq : a[i] = b[j] := bytes_eq (by assumption)
                have c0 := hg1.out.row (i := i) (by omega)
                have c1 := hg1.out.row (i := i + 1) (by omega)
                have c2 := hg1.out.cell (i := i + 1) (j := j + 1) (by omega) (by omega)
                have c4 := hg1.out.cell (i := i) (j := j) (by omega) (by omega)
                have f4 := hg1.out.frozen (i := i) (j := j) (by omega)
                rw [if_neg (by omega), tab_at_both] at c2
                rw [if_pos ⟨rfl, rfl⟩] at c4
                have bd2 := ell_bd a b (i + 1) j
                have bd3 := ell_bd a b i (j + 1)
                have bd := ell_bd a b (i + 1) (j + 1)
                go_region
                go_wp2
                go_roundw
                case rel => exact ⟨(j : Int) - 1, by omega, by omega, rfl, ((hg1.out.drewN _).set i j _).congr (fun r c _ _ => by rw [ell_max hia hjb]; exact tab_eq hia hjb heq _ r c), (below_drewN hbl1 _).setCell (by show w.heap.size ≤ w.heap.size + 1 + i; omega) _⟩
                case measure => simp [intOf]
              · have hne : ¬ a[i] = b[j] := bytes_ne (by assumption)
                go_roundw
                case rel => exact ⟨(j : Int) - 1, by omega, by omega, rfl, (hg1.out.drewN _).congr (fun r c _ _ => tab_ne hia hjb hne r c), below_drewN hbl1 _⟩
                case measure => simp [intOf]
            · obtain rfl : z = -1 := by omega
              go_wp2
              go_roundw
              case rel => exact ⟨(i : Int) - 1, by omega, by omega, rfl, hg.out.congr (fun r c _ hc => tab_row a b i r c hc), hbl⟩
              case measure => simp [intOf]
          --DP>
        · obtain rfl : z = -1 := by omega
          have HG := hide (hg.out.congr (fun r c _ _ => tab_done a b _ r c))
          clear hg hmk1 hmk2
          go_wp2
          go_ret
          exact ⟨rfl, HG.out, hbl⟩
end Go.Proofs.Ytfjbdbdjhkmifaa
