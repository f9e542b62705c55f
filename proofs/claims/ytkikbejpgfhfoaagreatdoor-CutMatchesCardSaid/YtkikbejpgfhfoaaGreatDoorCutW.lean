/- Is a number taken: the program's and the reference's walks. -/
import Derived.Test.YtkikbejpgfhfoaaGreatDoorCutP
import Derived.Test.YtkikbejpgfhfoaaGreatDoorRefL
set_option linter.unusedVariables false
set_option linter.unusedSimpArgs false
namespace Go.Pw
open Go.RowKit
/-- a slice of pairs of numbers that reads as the ranges -/
def RngIn (w : World) (v : Value) (rs : List (Int × Int)) : Prop := Rd w 2 v rs.length (rngCells rs)
theorem RngIn.below {w w' : World} {v : Value} {rs : List (Int × Int)} (h : RngIn w v rs) (hb : Below w.heap.size w w') : RngIn w' v rs := Rd.below h hb
def ctV (c : Ct) (rv : Value) : Value := .agg #[.bool c.fields, rv, .bool c.compl, .string c.sep, .bool c.only, .string c.betw]
def CtIn (w : World) (b : Nat) (T : TypeId) (c : Ct) (rv : Value) : Prop := w.heap[b]? = some (.cells #[.bool c.fields, rv, .bool c.compl, .string c.sep, .bool c.only, .string c.betw] T (0, 0))
theorem CtIn.lt {w : World} {b : Nat} {T : TypeId} {c : Ct} {rv : Value} (h : CtIn w b T c rv) : b < w.heap.size := by
  rcases Nat.lt_or_ge b w.heap.size with h' | h'
  · exact h'
  · simp [CtIn, Array.getElem?_eq_none h'] at h
theorem CtIn.below {w w' : World} {b M : Nat} {T : TypeId} {c : Ct} {rv : Value} (h : CtIn w b T c rv) (hb : Below M w w') (hM : b < M) : CtIn w' b T c rv := (hb.block b hM).trans h
theorem CtIn.cells {w : World} {b : Nat} {T : TypeId} {c : Ct} {rv : Value} (h : CtIn w b T c rv) : w.cell? ⟨b, 0, none⟩ = some (.bool c.fields) ∧ w.cell? ⟨b, 1, none⟩ = some rv ∧ w.cell? ⟨b, 2, none⟩ = some (.bool c.compl) ∧ w.cell? ⟨b, 3, none⟩ = some (.string c.sep) ∧ w.cell? ⟨b, 4, none⟩ = some (.bool c.only) ∧ w.cell? ⟨b, 5, none⟩ = some (.string c.betw) := by
  refine ⟨?_, ?_, ?_, ?_, ?_, ?_⟩ <;> (rw [Lib.cell_of_heap h]; rfl)
end Go.Pw
namespace Go.Proofs.YtkikbejpgfhfoaaGreatDoor
open Go.RowKit Go.Pw
set_option maxHeartbeats 1000000 in
set_option maxRecDepth 100000 in
theorem hit_any (r1 r2 n : Int) (G : Nat) (w : World) (hG : w.cell? ⟨G, 0, none⟩ = some (.int .i64 n)) :
    Calls Tryz.prog 65 #[.agg #[.int .i64 r1, .int .i64 r2], .pointer (some ⟨G, 0, none⟩)] w fun e w' => e = .returned (.bool (rngHit n (r1, r2))) ∧ Below w.heap.size w w' := by
  have hlt : G < w.heap.size := World.block_lt_of_cell? w ⟨G, 0, none⟩ hG
  have HB := hide ((Below.refl w.heap.size w).alloc (Nat.le_refl _) (.cells #[.int .i64 r1, .int .i64 r2] 69))
  have g0 : (w.alloc (.cells #[.int .i64 r1, .int .i64 r2] 69)).cell? ⟨G, 0, none⟩ = some (.int .i64 n) := (HB.out.cell (p := ⟨G, 0, none⟩) hlt).trans hG
  have c0 : (w.alloc (.cells #[.int .i64 r1, .int .i64 r2] 69)).cell? ⟨w.heap.size, 0, none⟩ = some (.int .i64 r1) := by rw [World.cell?_alloc_new]; rfl
  have c1 : (w.alloc (.cells #[.int .i64 r1, .int .i64 r2] 69)).cell? ⟨w.heap.size, 1, none⟩ = some (.int .i64 r2) := by rw [World.cell?_alloc_new]; rfl
  have hv : rngHit n (r1, r2) = (decide (r1 ≤ n) && (r2 == 0 || decide (n ≤ r2))) := rfl
  rw [hv]
  by_cases h1 : r1 ≤ n
  · by_cases h2 : r2 = 0
    · have e2 : (r2 == 0) = true := by simpa using h2
      have HV : Hid ((decide (r1 ≤ n) && (r2 == 0 || decide (n ≤ r2))) = true) := hide (by simp [h1, h2])
      clear h2
      go_enter Tryz.func65, Tryz.ntmps65
      go_wp2_with fail
      go_ret
      exact ⟨by first | rfl | (rw [HV.out]; rfl) | (rw [HV.out]; simp; done) | (simp; done) | (simp; omega), HB.out⟩
    · have e2 : (r2 == 0) = false := by simpa using h2
      clear h2
      by_cases h3 : n ≤ r2
      · have HV : Hid ((decide (r1 ≤ n) && (r2 == 0 || decide (n ≤ r2))) = true) := hide (by simp [h1, h3])
        go_enter Tryz.func65, Tryz.ntmps65
        go_wp2_with fail
        go_ret
        exact ⟨by first | rfl | (rw [HV.out]; rfl) | (rw [HV.out]; simp; done) | (simp; done) | (simp; omega), HB.out⟩
      · have HV : Hid ((decide (r1 ≤ n) && (r2 == 0 || decide (n ≤ r2))) = false) := hide (by simp [h3, e2])
        go_enter Tryz.func65, Tryz.ntmps65
        go_wp2_with fail
        go_ret
        exact ⟨by first | rfl | (rw [HV.out]; rfl) | (rw [HV.out]; simp; done) | (simp; done) | (simp; omega), HB.out⟩
  · have HV : Hid ((decide (r1 ≤ n) && (r2 == 0 || decide (n ≤ r2))) = false) := hide (by simp [h1])
    go_enter Tryz.func65, Tryz.ntmps65
    go_wp2_with fail
    go_ret
    exact ⟨by first | rfl | (rw [HV.out]; rfl) | (rw [HV.out]; simp; done) | (simp; done) | (simp; omega), HB.out⟩
set_option maxHeartbeats 1000000 in
set_option maxRecDepth 100000 in
theorem indexRng_any (v : Value) (rs : List (Int × Int)) (n : Int) (G : Nat) (w : World) (h : RngIn w v rs) (hG : w.cell? ⟨G, 0, none⟩ = some (.int .i64 n)) (hn : rs.length ≤ 1000000) :
    Calls Tryz.prog 81 #[v, .func (.func 65) #[] #[.pointer (some ⟨G, 0, none⟩)]] w fun e w' => ∃ m : Int, e = .returned (.int .i64 m) ∧ (decide ((0 : Int) ≤ m) = rs.any (rngHit n)) ∧ Below w.heap.size w w' := by
  obtain ⟨_, A, cap, rfl, hcap, hmax, hx⟩ := h
  unfold maxLen at hmax
  have HX := hide hx
  have hlt0 : G < w.heap.size := World.block_lt_of_cell? w ⟨G, 0, none⟩ hG
  have HG := hide hG
  clear hx hG
  go_enter Tryz.func81, Tryz.ntmps81
  go_wp2_with fail
  go_loopw [8] (fun i wr => ∃ k : Nat, k ≤ rs.length ∧ i = .int .i64 (k : Int) ∧ Hid ((rs.take k).any (rngHit n) = false) ∧ Hid (Below w.heap.size w wr)) (fun i _ => rs.length - (intOf i).toNat)
  case atStart => exact ⟨0, by omega, rfl, hide rfl, Below.refl _ _⟩
  case round =>
    obtain ⟨k, hk, rfl, HS, HB⟩ := hrel
    by_cases hlt : k < rs.length
    · obtain ⟨b, o, rfl, hb, hj⟩ := HX.out (by omega)
      obtain ⟨a1, a2⟩ := rngCells_at rs k rs[k] (List.getElem?_eq_getElem hlt)
      have c0 : wr.cell? ⟨b, o + k * 2, none⟩ = some (.int .i64 rs[k].1) := (HB.out.cell (p := ⟨b, o + k * 2, none⟩) hb).trans (hj _ _ a1)
      have c1 : wr.cell? ⟨b, o + k * 2 + 1, none⟩ = some (.int .i64 rs[k].2) := (HB.out.cell (p := ⟨b, o + k * 2 + 1, none⟩) hb).trans (hj (k * 2 + 1) _ a2)
      have HN : Hid ((rs.take (k + 1)).any (rngHit n) = rngHit n rs[k]) := hide (by rw [List.take_succ_eq_append_getElem hlt, List.any_append, HS.out]; simp)
      have HA : Hid (rngHit n rs[k] = true → rs.any (rngHit n) = true) := hide (fun h => List.any_eq_true.2 ⟨_, List.getElem_mem hlt, h⟩)
      obtain ⟨r1, hr1⟩ : ∃ x, rs[k].1 = x := ⟨_, rfl⟩
      obtain ⟨r2, hr2⟩ : ∃ x, rs[k].2 = x := ⟨_, rfl⟩
      have he : rs[k] = (r1, r2) := by rw [← hr1, ← hr2]
      rw [hr1] at c0
      rw [hr2] at c1
      rw [he] at HN HA
      have HI := hide (hit_any r1 r2 n G wr ((HB.out.cell (p := ⟨G, 0, none⟩) hlt0).trans HG.out))
      obtain ⟨t, ht⟩ : ∃ t, rngHit n (r1, r2) = t := ⟨_, rfl⟩
      rw [ht] at HN HA HI
      clear hj a1 a2 hr1 hr2 he ht
      have hd : (k : Int) < (rs.length : Int) := by omega
      go_wp2_with fail
      refine HI.out.mono ?_
      rintro e w1 ⟨rfl, hb1⟩
      have HB1 := hide (HB.out.trans (hb1.mono HB.out.size))
      clear hb1 c0 c1
      cases t
      · go_wp2_with fail
        go_roundw
        case rel => exact ⟨k + 1, by omega, by go_num, HN, HB1⟩
        case measure => simp [intOf]; omega
      · go_wp2_with fail
        go_ret
        exact ⟨_, rfl, by rw [HA.out (by first | rfl | trivial)]; simp, HB1.out⟩
    · obtain rfl : k = rs.length := by omega
      have hd : ¬ ((rs.length : Int) < (rs.length : Int)) := by omega
      rw [List.take_length] at HS
      go_wp2_with fail
      go_ret
      exact ⟨_, rfl, by rw [HS.out]; rfl, HB.out⟩
theorem containsRng_any (v : Value) (rs : List (Int × Int)) (n : Int) (G : Nat) (w : World) (h : RngIn w v rs) (hG : w.cell? ⟨G, 0, none⟩ = some (.int .i64 n)) (hn : rs.length ≤ 1000000) :
    Calls Tryz.prog 64 #[v, .func (.func 65) #[] #[.pointer (some ⟨G, 0, none⟩)]] w fun e w' => e = .returned (.bool (rs.any (rngHit n))) ∧ Below w.heap.size w w' := by
  have HI := hide (indexRng_any v rs n G w h hG hn)
  clear h hG hn
  go_enter Tryz.func64, Tryz.ntmps64
  go_wp2_with fail
  refine HI.out.mono ?_
  rintro e w1 ⟨m, rfl, hb, hbl⟩
  go_wp2_with fail
  go_ret
  exact ⟨ret_bool (by first | exact hb | (simp; done) | simpa using hb), hbl⟩
set_option maxHeartbeats 1000000 in
set_option maxRecDepth 100000 in
theorem taken_any (c : Ct) (rv : Value) (n : Int) (w : World) (h : RngIn w rv c.ranges) (hn : c.ranges.length ≤ 1000000) :
    Calls Tryz.prog 39 #[ctV c rv, .int .i64 n] w fun e w' => e = .returned (.bool (tkn c n)) ∧ Below w.heap.size w w' := by
  have hb1 := (Below.refl w.heap.size w).alloc (Nat.le_refl _) (.cells #[.bool c.fields, rv, .bool c.compl, .string c.sep, .bool c.only, .string c.betw] 43)
  have n1 : CtIn (w.alloc (.cells #[.bool c.fields, rv, .bool c.compl, .string c.sep, .bool c.only, .string c.betw] 43)) w.heap.size 43 c rv := heap_alloc_new _ _
  obtain ⟨A, cap, rfl⟩ : ∃ A cap, rv = .slice A c.ranges.length cap := by
    obtain ⟨_, A, cap, h, _⟩ := h
    exact ⟨A, cap, h⟩
  obtain ⟨W1, hW1⟩ : ∃ W1, w.alloc (.cells #[.bool c.fields, .slice A c.ranges.length cap, .bool c.compl, .string c.sep, .bool c.only, .string c.betw] 43) = W1 := ⟨_, rfl⟩
  have hz1 : W1.heap.size = w.heap.size + 1 := by rw [← hW1]; simp
  rw [hW1] at hb1 n1
  have hb2 := (Below.refl W1.heap.size W1).alloc (Nat.le_refl _) (.cells #[.int .i64 n] 3)
  have n2 := n1.below hb2 n1.lt
  have g2 : (W1.alloc (.cells #[.int .i64 n] 3)).cell? ⟨w.heap.size + 1, 0, none⟩ = some (.int .i64 n) := by rw [← hz1, World.cell?_alloc_new]; rfl
  obtain ⟨W2, hW2⟩ : ∃ W2, W1.alloc (.cells #[.int .i64 n] 3) = W2 := ⟨_, rfl⟩
  rw [hW2] at hb2 n2 g2
  have HB2 := hide (hb1.trans (hb2.mono hb1.size))
  have HC := hide (containsRng_any (.slice A c.ranges.length cap) c.ranges n (w.heap.size + 1) W2 (h.below HB2.out) g2 hn)
  have HW1 := hide hW1
  have HW2 := hide hW2
  have HN2 := hide n2
  obtain ⟨d0, d1, d2, d3, d4, d5⟩ := n2.cells
  have HT : Hid (tkn c n = (c.ranges.any (rngHit n) != c.compl)) := hide rfl
  obtain ⟨t, ht⟩ : ∃ t, c.ranges.any (rngHit n) = t := ⟨_, rfl⟩
  rw [ht] at HC HT
  clear hb1 hb2 n1 hW1 hW2 g2 ht h
  unfold ctV
  go_enter Tryz.func39, Tryz.ntmps39
  go_wp2_with fail
  rw [HW1.out, HW2.out]
  refine HC.out.mono ?_
  rintro e w3 ⟨rfl, hb3⟩
  have HB3 := hide (HB2.out.trans (hb3.mono HB2.out.size))
  have n3 := HN2.out.below hb3 HN2.out.lt
  obtain ⟨f0, f1, f2, f3, f4, f5⟩ := n3.cells
  clear hb3 n3 d0 d1 d2 d3 d4 d5
  go_wp2_with fail
  go_ret
  exact ⟨by rw [HT.out]; first | rfl | simp, HB3.out⟩
set_option maxHeartbeats 2000000 in
set_option maxRecDepth 100000 in
theorem takenR_any (c : Ct) (rv : Value) (n : Int) (G : Nat) (w : World) (hC : CtIn w G 43 c rv) (h : RngIn w rv c.ranges) (hn : c.ranges.length ≤ 1000000) :
    Calls Tryz.prog 43 #[.int .i64 n, .pointer (some ⟨G, 0, none⟩)] w fun e w' => e = .returned (.bool (tkn c n)) ∧ Below w.heap.size w w' := by
  obtain ⟨_, A, cap, rfl, hcap, hmax, hx⟩ := h
  unfold maxLen at hmax
  have HX := hide hx
  have HC := hide hC
  have hG := hC.lt
  have HT : Hid (tkn c n = (c.ranges.any (rngHit n) != c.compl)) := hide rfl
  obtain ⟨rs, hrs⟩ : ∃ rs, c.ranges = rs := ⟨_, rfl⟩
  rw [hrs] at HX HC HT hcap hn
  obtain ⟨d0, d1, d2, d3, d4, d5⟩ := hC.cells
  rw [hrs] at d1
  clear hx hC
  go_enter Tryz.func43, Tryz.ntmps43
  go_wp2_with fail
  go_loopw [4, 10] (fun is i wr => ∃ k : Nat, k ≤ rs.length ∧ i = .int .i64 (k : Int) ∧ is = .bool ((rs.take k).any (rngHit n)) ∧ Hid (CtIn wr G 43 c (.slice A rs.length cap)) ∧ Hid (Below w.heap.size w wr)) (fun _ i _ => rs.length - (intOf i).toNat)
  case atStart => exact ⟨0, by omega, rfl, rfl, HC, Below.refl _ _⟩
  case round =>
    clear d0 d1 d2 d3 d4 d5
    obtain ⟨k, hk, rfl, rfl, HCW, HB⟩ := hrel
    by_cases hlt : k < rs.length
    · obtain ⟨b, o, rfl, hb, hj⟩ := HX.out (by omega)
      obtain ⟨a1, a2⟩ := rngCells_at rs k rs[k] (List.getElem?_eq_getElem hlt)
      have c0 : wr.cell? ⟨b, o + k * 2, none⟩ = some (.int .i64 rs[k].1) := (HB.out.cell (p := ⟨b, o + k * 2, none⟩) hb).trans (hj _ _ a1)
      have c1 : wr.cell? ⟨b, o + k * 2 + 1, none⟩ = some (.int .i64 rs[k].2) := (HB.out.cell (p := ⟨b, o + k * 2 + 1, none⟩) hb).trans (hj (k * 2 + 1) _ a2)
      obtain ⟨t, ht⟩ : ∃ t, (rs.take k).any (rngHit n) = t := ⟨_, rfl⟩
      have HN : Hid ((rs.take (k + 1)).any (rngHit n) = (t || rngHit n rs[k])) := hide (by rw [List.take_succ_eq_append_getElem hlt, List.any_append, ht]; simp)
      obtain ⟨r1, hr1⟩ : ∃ x, rs[k].1 = x := ⟨_, rfl⟩
      obtain ⟨r2, hr2⟩ : ∃ x, rs[k].2 = x := ⟨_, rfl⟩
      have he : rs[k] = (r1, r2) := by rw [← hr1, ← hr2]
      rw [hr1] at c0
      rw [hr2] at c1
      rw [he] at HN
      rw [ht]
      have hal := (Below.refl wr.heap.size wr).alloc (Nat.le_refl _) (.cells #[.int .i64 r1, .int .i64 r2] 69)
      have HB1 := hide (HB.out.trans (hal.mono HB.out.size))
      have HC1 := hide (HCW.out.below hal HCW.out.lt)
      clear hj a1 a2 hr1 hr2 he ht hal
      have hd : (k : Int) < (rs.length : Int) := by omega
      have e0 : (wr.alloc (.cells #[.int .i64 r1, .int .i64 r2] 69)).cell? ⟨wr.heap.size, 0, none⟩ = some (.int .i64 r1) := by rw [World.cell?_alloc_new]; rfl
      have e1 : (wr.alloc (.cells #[.int .i64 r1, .int .i64 r2] 69)).cell? ⟨wr.heap.size, 1, none⟩ = some (.int .i64 r2) := by rw [World.cell?_alloc_new]; rfl
      by_cases h1 : r1 ≤ n
      · by_cases h2 : r2 = 0
        · have e2 : (r2 == 0) = true := by simpa using h2
          subst h2
          have HN' : Hid ((rs.take (k + 1)).any (rngHit n) = true) := hide (by rw [HN.out]; simp [rngHit, h1])
          clear HN
          go_wp2_with fail
          go_roundw
          case rel => exact ⟨k + 1, by omega, by go_num, by rw [HN'.out], HC1, HB1⟩
          case measure => simp [intOf]; omega
        · have e2 : (r2 == 0) = false := by simpa using h2
          by_cases h3 : n ≤ r2
          · skip
            have HN' : Hid ((rs.take (k + 1)).any (rngHit n) = true) := hide (by rw [HN.out]; simp [rngHit, h1, h3])
            clear HN
            go_wp2_with fail
            go_roundw
            case rel => exact ⟨k + 1, by omega, by go_num, by rw [HN'.out], HC1, HB1⟩
            case measure => simp [intOf]; omega
          · skip
            have HN' : Hid ((rs.take (k + 1)).any (rngHit n) = t) := hide (by rw [HN.out]; simp [rngHit, h3, e2])
            clear HN
            go_wp2_with fail
            go_roundw
            case rel => exact ⟨k + 1, by omega, by go_num, by rw [HN'.out], HC1, HB1⟩
            case measure => simp [intOf]; omega
      · skip
        have HN' : Hid ((rs.take (k + 1)).any (rngHit n) = t) := hide (by rw [HN.out]; simp [rngHit, h1])
        clear HN
        go_wp2_with fail
        go_roundw
        case rel => exact ⟨k + 1, by omega, by go_num, by rw [HN'.out], HC1, HB1⟩
        case measure => simp [intOf]; omega
    · obtain rfl : k = rs.length := by omega
      have hd : ¬ ((rs.length : Int) < (rs.length : Int)) := by omega
      rw [List.take_length]
      obtain ⟨d0, d1, d2, d3, d4, d5⟩ := HCW.out.cells
      obtain ⟨t, ht⟩ : ∃ t, rs.any (rngHit n) = t := ⟨_, rfl⟩
      rw [ht] at HT ⊢
      clear ht
      go_wp2_with fail
      go_ret
      exact ⟨by rw [HT.out]; first | rfl | simp, HB.out⟩
end Go.Proofs.YtkikbejpgfhfoaaGreatDoor
