import Derived.Test.YtinpgnekjebipaaDoorLists
import Derived.Test.YtinpgnekjebipaaDoorLcs
import Derived.Deep.OwnRows
import Derived.RegionTactic
import Derived.BigRegion
import Derived.Deep.QuietTactic
import Derived.BigQuiet
import Derived.StillTailTactics
set_option linter.unusedVariables false
set_option linter.unusedSimpArgs false
namespace Go.Proofs.YtinpgnekjebipaaDoor
open Go.RowKit Go.Pw

theorem info_ints : (Tryd.prog.info? 120).map (fun i => (i.zero, i.size, i.bytes)) = some (some (.slice none 0 0), 1, 24) := by kernel_rfl
theorem info_int : (Tryd.prog.info? 3).map (fun i => (i.zero, i.size, i.bytes)) = some (some (.int .i64 0), 1, 8) := by kernel_rfl

theorem info_pair : (Tryd.prog.info? 92).map (fun i => (i.zero, i.size, i.bytes)) = some (some (.agg #[.int .i64 0, .int .i64 0]), 2, 16) := by kernel_rfl

set_option maxHeartbeats 2000000 in
set_option maxRecDepth 100000 in
theorem stay_any (va vb : Value) (a b : List ByteArray) (w : World) (ha : Strs w va a) (hb : Strs w vb b) (hla : a.length ≤ 1000) (hlb : b.length ≤ 1000) :
    Calls Tryd.prog 58 #[va, vb] w fun e w' => ∃ v, e = .returned v ∧ w'.ownsRow w.heap.size 92 2 v (stayAt a b 0 0).length (pairCells (stayAt a b 0 0)) ∧ Below w.heap.size w w' := by
  have HB := hide hb
  clear hb
  obtain ⟨⟨_, A, ca, rfl, hca, hma, hxa⟩, hsa⟩ := ha
  have hb := HB.out
  obtain ⟨⟨_, B, cb, rfl, hcb, hmb, hxb⟩, hsb⟩ := hb
  unfold maxLen at hma hmb
  have HXA := hide hxa
  have HXB := hide hxb
  have HSA := hide hsa
  have HSB := hide hsb
  clear hxa hxb hsa hsb
  have hmk1 := run_make_row' (P := Tryd.prog) 119 120 (.slice none 0 0) 24 Tryd.underlying119 info_ints rfl .i64 .i64 (a.length + 1) (by omega) (by omega)
  have hmk2 := run_make_row' (P := Tryd.prog) 120 3 (.int .i64 0) 8 Tryd.underlying120 info_int rfl .i64 .i64 (b.length + 1) (by omega) (by omega)
  have e1 : ((a.length + 1 : Nat) : Int) = (a.length : Int) + 1 := by omega
  have e2 : ((b.length + 1 : Nat) : Int) = (b.length : Int) + 1 := by omega
  rw [e1] at hmk1
  rw [e2] at hmk2
  clear e1 e2
  obtain ⟨ip, hip, hpz, hps, hpb⟩ := info_parts info_pair
  go_enter Tryd.func58, Tryd.ntmps58
  go_wp2
  go_loopw [19] (fun i wr => ∃ k : Nat, k ≤ a.length + 1 ∧ i = .int .i64 k ∧ Hid (GridTo wr 120 3 w.heap.size (a.length + 1) (b.length + 1) k) ∧ Below w.heap.size w wr) (fun i _ => a.length + 1 - (intOf i).toNat)
  case atStart => exact ⟨0, by omega, rfl, GridTo.start _ _ _ _ _, (Below.refl _ _).alloc (Nat.le_refl _) _⟩
  case round =>
    obtain ⟨k, hk, rfl, hg, hbl⟩ := hrel
    by_cases hlt : k < a.length + 1
    · have hlt' : (k : Int) < (a.length : Int) + 1 := by omega
      have hc := hg.out.cell hlt
      have hf := hg.out.frozen
      have hn := hg.out.lt
      go_wp2
      go_roundw
      case rel => exact ⟨k + 1, by omega, by go_num, hg.out.step, (hbl.setCell (by simp) _).alloc (by simp [World.setCell]; omega) _⟩
      case measure => simp [intOf]; omega
    · obtain rfl : k = a.length + 1 := by omega
      have HG := hide hg.out.done
      clear hg
      have hlt' : ¬ ((a.length : Int) + 1 < (a.length : Int) + 1) := by omega
      go_wp2
      have HG2 := hide (HG.out.congr (fun i j hi hj => tab_start a b i j hi hj))
      clear HG
      go_loopw [7] (fun i wr => ∃ z : Int, -1 ≤ z ∧ z < a.length ∧ i = .int .i64 z ∧ Hid (Grid wr 120 3 w.heap.size (a.length + 1) (b.length + 1) (tab a b z ((b.length : Int) - 1))) ∧ Below w.heap.size w wr) (fun i _ => (intOf i + 1).toNat)
      case atStart => exact ⟨_, by omega, by omega, rfl, HG2, hbl⟩
      case round =>
        clear HG2 hbl
        obtain ⟨z, hz0, hz1, rfl, hg, hbl⟩ := hrel
        by_cases hz : 0 ≤ z
        · obtain ⟨i, rfl⟩ := Int.eq_ofNat_of_zero_le hz
          --<DP
          go_wp2
          go_loopw [8] (fun j wr => ∃ z : Int, -1 ≤ z ∧ z < b.length ∧ j = .int .i64 z ∧ Hid (Grid wr 120 3 w.heap.size (a.length + 1) (b.length + 1) (tab a b i z)) ∧ Below w.heap.size w wr) (fun i _ => (intOf i + 1).toNat)
          case atStart => exact ⟨_, by omega, by omega, rfl, hg, hbl⟩
          case round =>
            clear hg hbl
            obtain ⟨z, hy0, hy1, rfl, hg, hbl⟩ := hrel
            by_cases hy : 0 ≤ z
            · obtain ⟨j, rfl⟩ := Int.eq_ofNat_of_zero_le hy
              have hia : i < a.length := by omega
              have hjb : j < b.length := by omega
              have c0 := hg.out.row (i := i) (by omega)
              have c1 := hg.out.row (i := i + 1) (by omega)
              have c2 := hg.out.cell (i := i + 1) (j := j) (by omega) (by omega)
              have c3 := hg.out.cell (i := i) (j := j + 1) (by omega) (by omega)
              have c4 := hg.out.cell (i := i) (j := j) (by omega) (by omega)
              have f4 := hg.out.frozen (i := i) (j := j) (by omega)
              rw [tab_at_down] at c2
              rw [tab_at_right] at c3
              go_wp2
              go_region
              have hg1 := hide (hg.out.set i j (max (ell a b (i + 1) j) (ell a b i (j + 1)))).drew
              have hbl1 := (hbl.setCell (p := ⟨w.heap.size + 1 + i, j, none⟩) (by simp; omega) (.int .i64 (max (ell a b (i + 1) j) (ell a b i (j + 1))))).drew
              clear c0 c1 c2 c3 c4 f4 hg hbl
              generalize (wr.setCell ⟨w.heap.size + 1 + i, j, none⟩ (.int .i64 (max (ell a b (i + 1) j) (ell a b i (j + 1))))).drew = w1 at *
              obtain ⟨ba, oa, rfl, hba, hja⟩ := HXA.out (by omega)
              have ca1 : w1.cell? ⟨ba, oa + i, none⟩ = some (.string a[i]) := (hbl1.cell hba).trans (hja i _ (by simp [hia]))
              obtain ⟨bb, ob, rfl, hbb, hjb2⟩ := HXB.out (by omega)
              have cb1 : w1.cell? ⟨bb, ob + j, none⟩ = some (.string b[j]) := (hbl1.cell hbb).trans (hjb2 j _ (by simp [hjb]))
              clear hja hjb2
              go_wp2
              go_quiet (fail)
              clear ca1 cb1
              go_wp2
              · have heq : a[i] = b[j] := bytes_eq (by assumption)
                have c0 := hg1.out.row (i := i) (by omega)
                have c1 := hg1.out.row (i := i + 1) (by omega)
                have c2 := hg1.out.cell (i := i + 1) (j := j + 1) (by omega) (by omega)
                have c4 := hg1.out.cell (i := i) (j := j) (by omega) (by omega)
                have f4 := hg1.out.frozen (i := i) (j := j) (by omega)
                rw [if_neg (by omega), tab_at_both] at c2
                have bd := ell_bd a b (i + 1) (j + 1)
                go_region
                go_wp2
                go_roundw
                case rel => exact ⟨(j : Int) - 1, by omega, by omega, rfl, ((hg1.out.drewN _).set i j _).congr (fun r c _ _ => tab_eq hia hjb heq _ r c), (below_drewN hbl1 _).setCell (by show w.heap.size ≤ w.heap.size + 1 + i; omega) _⟩
                case measure => simp [intOf]
              · have hne : ¬ a[i] = b[j] := bytes_ne (by assumption)
                go_roundw
                case rel => exact ⟨(j : Int) - 1, by omega, by omega, rfl, (hg1.out.drewN _).congr (fun r c _ _ => tab_ne hia hjb hne r c), below_drewN hbl1 _⟩
                case measure => simp [intOf]
            · obtain rfl : z = -1 := by omega
              go_wp2
              go_roundw
              case rel => exact ⟨(i : Int) - 1, by omega, by omega, rfl, hg.out.congr (fun r c _ hc => tab_row a b i r c hc), hbl⟩
              case measure => simp [intOf]
          --DP>
        · obtain rfl : z = -1 := by omega
          have HG := hide (hg.out.congr (fun r c _ _ => tab_done a b _ r c))
          clear hg hmk1 hmk2
          have hsz := HG.out.lt (i := a.length) (by omega)
          go_wp2
          go_loopw [9, 10, 11] (fun v x y wr => ∃ (i k : Nat) (done : List (Nat × Nat)), i ≤ a.length ∧ k ≤ b.length ∧ x = .int .i64 i ∧ y = .int .i64 k ∧ done.length ≤ i ∧ Hid (done ++ stayAt a b i k = stayAt a b 0 0) ∧
              wr.ownsRow (w.heap.size + a.length + 2) 92 2 v done.length (pairCells done) ∧ Hid (Grid wr 120 3 w.heap.size (a.length + 1) (b.length + 1) (ell a b)) ∧ Below w.heap.size w wr)
            (fun _ x _ _ => a.length - (intOf x).toNat)
          case atStart => exact ⟨0, 0, [], by omega, by omega, rfl, rfl, by simp, rfl, World.ownsRow_nil _ _ _ _, HG, hbl⟩
          case round =>
            clear HG hbl hsz
            obtain ⟨i, k, done, hi, hk, rfl, rfl, hdl, hst, hown, hg, hbl⟩ := hrel
            by_cases hia : i < a.length
            · have c0 := hg.out.row (i := i) (by omega)
              have c1 := hg.out.cell (i := i) (j := k) (by omega) (by omega)
              by_cases hpos : 0 < ell a b i k
              · have hpos' : decide (0 < ell a b i k) = true := by simpa using hpos
                obtain ⟨ba, oa, rfl, hba, hja⟩ := HXA.out (by omega)
                have ca1 : wr.cell? ⟨ba, oa + i, none⟩ = some (.string a[i]) := (hbl.cell hba).trans (hja i _ (by simp [hia]))
                clear hja
                obtain ⟨vk, hvk, hsk⟩ := cut_from (HB.out.below hbl) hk
                have HSK := hide hsk
                clear hsk
                rcases hp : place a[i] (b.drop k) with _ | n
                · have HP := hide hp
                  clear hp
                  go_wp2
                  go_quiet ((go_at_call 76; exact Calls.quiet_of_same (index_miss vk (b.drop k) a[i] _ (HSK.out.drewN _) HP.out)))
                  clear hvk ca1
                  obtain ⟨w1, hw1⟩ : ∃ w1, w1 = wr.drewN nq := ⟨_, rfl⟩
                  have hgn : Hid (Grid w1 120 3 w.heap.size (a.length + 1) (b.length + 1) (ell a b)) := by rw [hw1]; exact hg
                  have hbn : Below w.heap.size w w1 := by rw [hw1]; exact below_drewN hbl nq
                  have hon : w1.ownsRow (w.heap.size + a.length + 2) 92 2 u9 done.length (pairCells done) := by rw [hw1]; exact hown
                  rw [← hw1]
                  clear hw1 hg hbl hown c0 c1 HSK
                  go_wp2
                  go_quiet (fail)
                  go_wp2
                  go_roundw
                  case rel => exact ⟨i + 1, k, done, by omega, by omega, by go_num, rfl, by omega, by rw [← stay_none hia hpos HP.out]; exact hst, hon, hgn, below_drewN hbn _⟩
                  case measure => simp [intOf]; omega
                · have HP := hide hp
                  have hlt := place_lt hp
                  rw [List.length_drop] at hlt
                  clear hp
                  go_wp2
                  go_quiet ((go_at_call 76; exact Calls.quiet_of_same (index_hit vk (b.drop k) a[i] n _ (HSK.out.drewN _) HP.out)))
                  clear hvk ca1
                  obtain ⟨w1, hw1⟩ : ∃ w1, w1 = wr.drewN nq := ⟨_, rfl⟩
                  have hgn : Hid (Grid w1 120 3 w.heap.size (a.length + 1) (b.length + 1) (ell a b)) := by rw [hw1]; exact hg
                  have hbn : Below w.heap.size w w1 := by rw [hw1]; exact below_drewN hbl nq
                  have hon : w1.ownsRow (w.heap.size + a.length + 2) 92 2 u9 done.length (pairCells done) := by rw [hw1]; exact hown
                  rw [← hw1]
                  clear hw1 hg hbl hown c0 c1 HSK
                  have c0 := hgn.out.row (i := i) (by omega)
                  have c1 := hgn.out.row (i := i + 1) (by omega)
                  have c2 := hgn.out.cell (i := i) (j := k) (by omega) (by omega)
                  have c3 := hgn.out.cell (i := i + 1) (j := k + n + 1) (by omega) (by omega)
                  have bd := ell_bd a b (i + 1) (k + n + 1)
                  by_cases he : ell a b (i + 1) (k + n + 1) + 1 = ell a b i k
                  · have he' : (ell a b (i + 1) (k + n + 1) + 1 == ell a b i k) = true := by simpa using he
                    have HEE := hide he
                    clear he
                    go_wp2
                    go_quiet (fail)
                    clear c0 c1 c2 c3
                    obtain ⟨w2, hw2⟩ : ∃ w2, w2 = w1.drewN nq := ⟨_, rfl⟩
                    have hg2 : Hid (Grid w2 120 3 w.heap.size (a.length + 1) (b.length + 1) (ell a b)) := by rw [hw2]; exact hgn
                    have hb2 : Below w.heap.size w w2 := by rw [hw2]; exact below_drewN hbn _
                    have ho2 : w2.ownsRow (w.heap.size + a.length + 2) 92 2 u9 done.length (pairCells done) := by rw [hw2]; exact hon
                    rw [← hw2]
                    clear hw2 hgn hbn hon
                    go_wp2_with (at_builtin; go_loud (refine wpList_append_own _ rfl _ _ 95 rfl (w.heap.size + a.length + 2) 92 ip _ 2 16 Tryd.underlying95 hip hpz hps hpb rfl (by decide) _ _ _ rfl (ho2.alloc _) ⟨w2.heap.size, 0, none⟩ 1 1 [.int .i64 (i : Int), .int .i64 ((k : Int) + n)] rfl rfl ?c1 ?c2 ?c3 ?c4 ?c5 ?_))
                    case c1 => exact two_new _ _ _ _
                    case c2 => intro u hu; simp at hu; rcases hu with rfl | rfl <;> rfl
                    case c3 => unfold maxLen; omega
                    case c4 => omega
                    case c5 => have := hg2.out.lt (i := a.length) (by omega); simp; omega
                    · intro v' w3 hown' hgrow _
                      have hlt3 := hg2.out.lt (i := a.length) (by omega)
                      have h23 : Below (w.heap.size + a.length + 2) w2 w3 := below_append ho2 (by omega) hgrow
                      have hb3 : Below w.heap.size w w3 := hb2.trans (h23.mono (by omega))
                      have hg3 : Hid (Grid w3 120 3 w.heap.size (a.length + 1) (b.length + 1) (ell a b)) := hg2.out.below h23 (by omega)
                      have ho3 : w3.ownsRow (w.heap.size + a.length + 2) 92 2 v' (done ++ [(i, k + n)]).length (pairCells (done ++ [(i, k + n)])) := by rw [pairCells_snoc]; simpa using hown'
                      clear hown' hgrow ho2 hg2 hb2 hip hpz hps hpb h23
                      go_wp2
                      go_roundw
                      case rel => exact ⟨i + 1, k + n + 1, done ++ [(i, k + n)], by omega, by omega, by go_num, by go_num, by simp; omega, by rw [List.append_assoc, List.singleton_append, ← stay_take hia hpos HP.out HEE.out]; exact hst, ho3, hg3, hb3⟩
                      case measure => simp [intOf]; omega
                  · have he' : (ell a b (i + 1) (k + n + 1) + 1 == ell a b i k) = false := by simpa using he
                    have HEE := hide he
                    clear he
                    go_wp2
                    go_quiet (fail)
                    go_wp2
                    go_roundw
                    case rel => exact ⟨i + 1, k, done, by omega, by omega, by go_num, rfl, by omega, by rw [← stay_skip hia hpos HP.out HEE.out]; exact hst, hon, hgn, below_drewN hbn _⟩
                    case measure => simp [intOf]; omega
              · have hpos' : decide (0 < ell a b i k) = false := by simpa using hpos
                have hfin : done = stayAt a b 0 0 := by rw [← hst.out, stay_end (fun h => hpos h.2), List.append_nil]
                have HF := hide hfin
                clear hfin
                go_wp2
                go_ret
                exact ⟨u9, rfl, by rw [← HF.out]; exact own_mono hown (by omega), hbl⟩
            · have hfin : done = stayAt a b 0 0 := by rw [← hst.out, stay_end (fun h => hia h.1), List.append_nil]
              have HF := hide hfin
              clear hfin
              go_wp2
              go_ret
              exact ⟨u9, rfl, by rw [← HF.out]; exact own_mono hown (by omega), hbl⟩
end Go.Proofs.YtinpgnekjebipaaDoor
