/- Printf, the reference: padded (printed by gen_pfrc.py). -/
import Derived.Test.YtifpmigghplmoaaGreatDoorZPrK
set_option linter.unusedVariables false
set_option linter.unusedSimpArgs false
namespace Go.Pw
open Go.RowKit
def szPad (v : Value) : Nat := match v with | .string b => b.size | _ => 0
theorem pad_m1 {wd : Nat} {h q : ByteArray} {x : UInt8} (hlt : h.size + q.size < wd) : wd - (szPad (.string h) + szPad (.string (q ++ ⟨#[x]⟩))) < wd - (szPad (.string h) + szPad (.string q)) := by
  show wd - (h.size + (q ++ (⟨#[x]⟩ : ByteArray)).size) < wd - (h.size + q.size)
  rw [ByteArray.size_append]
  show wd - (h.size + (q.size + 1)) < wd - (h.size + q.size)
  omega
theorem pad_m2 {wd : Nat} {h q : ByteArray} {x : UInt8} (hlt : h.size + q.size < wd) : wd - (szPad (.string h) + szPad (.string (⟨#[x]⟩ ++ q))) < wd - (szPad (.string h) + szPad (.string q)) := by
  show wd - (h.size + ((⟨#[x]⟩ : ByteArray) ++ q).size) < wd - (h.size + q.size)
  rw [ByteArray.size_append]
  show wd - (h.size + (1 + q.size)) < wd - (h.size + q.size)
  omega
theorem pad_m3 {wd : Nat} {h q : ByteArray} {x : UInt8} (hlt : h.size + q.size < wd) : wd - (szPad (.string (⟨#[x]⟩ ++ h)) + szPad (.string q)) < wd - (szPad (.string h) + szPad (.string q)) := by
  show wd - (((⟨#[x]⟩ : ByteArray) ++ h).size + q.size) < wd - (h.size + q.size)
  rw [ByteArray.size_append]
  show wd - ((1 + h.size) + q.size) < wd - (h.size + q.size)
  omega
theorem rep_snoc (x : UInt8) (n : Nat) : List.replicate n x ++ [x] = List.replicate (n + 1) x := by rw [List.replicate_succ']
theorem app_byte_r (s : ByteArray) (l : List UInt8) (x : UInt8) : (s ++ mkB l) ++ (⟨#[x]⟩ : ByteArray) = s ++ mkB (l ++ [x]) := by
  rw [← mkB_list (s ++ mkB (l ++ [x])), ← mkB_list ((s ++ mkB l) ++ (⟨#[x]⟩ : ByteArray))]; simp [mkB]
theorem app_byte_l (s : ByteArray) (l : List UInt8) (x : UInt8) : (⟨#[x]⟩ : ByteArray) ++ (mkB l ++ s) = mkB (x :: l) ++ s := by
  rw [← mkB_list (mkB (x :: l) ++ s), ← mkB_list ((⟨#[x]⟩ : ByteArray) ++ (mkB l ++ s))]; simp [mkB]
theorem app_nil_r (s : ByteArray) : s ++ mkB [] = s := by
  rw [← mkB_list (s ++ mkB [])]; simp [mkB]
theorem app_nil_l (s : ByteArray) : mkB [] ++ s = s := by
  rw [← mkB_list (mkB [] ++ s)]; simp [mkB]
end Go.Pw
namespace Go.Proofs.YtifpmigghplmoaaGreatDoor
open Go.RowKit Go.Pw Go.Shelf
set_option maxHeartbeats 8000000 in
set_option maxRecDepth 100000 in
theorem padded_minus (f1 f2 f3 z num : Bool) (wd : Nat) (p lt k : Int) (head s : ByteArray) (hwd : wd ≤ 999) (hh : head.size ≤ 100000) (hs : s.size ≤ 100000) (w : World) :
    Calls Tryz.prog 90 #[.agg #[.bool true, .bool f1, .bool f2, .bool z, .bool f3, .int .i64 (wd : Int), .int .i64 p, .int .u8 lt, .int .i64 k], .string head, .string s, .bool num] w fun e w' => e = .returned (.string (head ++ (s ++ mkB (List.replicate (wd - (head.size + s.size)) 32)))) ∧ Below w.heap.size w w' := by
  have hR : (w.alloc (.cells #[.bool true, .bool f1, .bool f2, .bool z, .bool f3, .int .i64 (wd : Int), .int .i64 p, .int .u8 lt, .int .i64 k] 97)).heap[w.heap.size]? = some (.cells #[.bool true, .bool f1, .bool f2, .bool z, .bool f3, .int .i64 (wd : Int), .int .i64 p, .int .u8 lt, .int .i64 k] 97 (0, 0)) := heap_alloc_new w _
  have y0 : (w.alloc (.cells #[.bool true, .bool f1, .bool f2, .bool z, .bool f3, .int .i64 (wd : Int), .int .i64 p, .int .u8 lt, .int .i64 k] 97)).cell? ⟨w.heap.size, 0, none⟩ = some (.bool true) := by rw [Lib.cell_of_heap hR]; rfl
  have y3 : (w.alloc (.cells #[.bool true, .bool f1, .bool f2, .bool z, .bool f3, .int .i64 (wd : Int), .int .i64 p, .int .u8 lt, .int .i64 k] 97)).cell? ⟨w.heap.size, 3, none⟩ = some (.bool z) := by rw [Lib.cell_of_heap hR]; rfl
  have y5 : (w.alloc (.cells #[.bool true, .bool f1, .bool f2, .bool z, .bool f3, .int .i64 (wd : Int), .int .i64 p, .int .u8 lt, .int .i64 k] 97)).cell? ⟨w.heap.size, 5, none⟩ = some (.int .i64 (wd : Int)) := by rw [Lib.cell_of_heap hR]; rfl
  have y6 : (w.alloc (.cells #[.bool true, .bool f1, .bool f2, .bool z, .bool f3, .int .i64 (wd : Int), .int .i64 p, .int .u8 lt, .int .i64 k] 97)).cell? ⟨w.heap.size, 6, none⟩ = some (.int .i64 p) := by rw [Lib.cell_of_heap hR]; rfl
  have HB := hide ((Below.refl w.heap.size w).alloc (Nat.le_refl _) (.cells #[.bool true, .bool f1, .bool f2, .bool z, .bool f3, .int .i64 (wd : Int), .int .i64 p, .int .u8 lt, .int .i64 k] 97))
  obtain ⟨W, hW⟩ : ∃ W, w.alloc (.cells #[.bool true, .bool f1, .bool f2, .bool z, .bool f3, .int .i64 (wd : Int), .int .i64 p, .int .u8 lt, .int .i64 k] 97) = W := ⟨_, rfl⟩
  rw [hW] at y0 y3 y5 y6 HB
  have HWW := hide hW
  clear hR hW
  ·
    go_enter Tryz.func90, Tryz.ntmps90
    go_wp2_with fail
    rw [HWW.out]
    go_loopw [1, 2] (fun hv sv wr => ∃ i : Nat, hv = .string head ∧ ∃ q : ByteArray, sv = .string q ∧ q.size = s.size + i ∧ Hid (q = s ++ mkB (List.replicate i 32)) ∧ (i = 0 ∨ head.size + s.size + i ≤ wd) ∧ wr = W) (fun hv sv _ => wd - (szPad hv + szPad sv))
    case atStart => exact ⟨0, rfl, s, rfl, by omega, hide (app_nil_r s).symm, Or.inl rfl, rfl⟩
    case round =>
      obtain ⟨i, rfl, q, rfl, hq, HQ, hi, rfl⟩ := hrel
      by_cases h : head.size + s.size + i < wd
      · have h1 : (head.size : Int) + (s.size : Int) + (i : Int) < (wd : Int) := by omega
        have h2 : (head.size : Int) + (q.size : Int) < (wd : Int) := by omega
        go_wp2_with fail
        go_roundw
        case rel => exact ⟨i + 1, rfl, _, rfl, by first | (rw [ByteArray.size_append, hq]; show _ + 1 = _; omega) | (simp; omega), hide (by rw [HQ.out, app_byte_r, rep_snoc]), Or.inr (by omega), by first | rfl | trivial⟩
        case measure => first | exact pad_m1 (by omega) | exact pad_m2 (by omega) | exact pad_m3 (by omega)
      · have hn : i = wd - (head.size + s.size) := by omega
        have h1 : ¬ (head.size : Int) + (s.size : Int) + (i : Int) < (wd : Int) := by omega
        have h2 : ¬ (head.size : Int) + (q.size : Int) < (wd : Int) := by omega
        have HN := hide hn
        clear hn
        go_wp2_with fail
        go_ret
        exact ⟨by rw [← HN.out, ← HQ.out]; rfl, HB.out⟩
set_option maxHeartbeats 8000000 in
set_option maxRecDepth 100000 in
theorem padded_zero (f1 f2 f3 : Bool) (wd : Nat) (p lt k : Int) (head s : ByteArray) (hp : p < 0) (hwd : wd ≤ 999) (hh : head.size ≤ 100000) (hs : s.size ≤ 100000) (w : World) :
    Calls Tryz.prog 90 #[.agg #[.bool false, .bool f1, .bool f2, .bool true, .bool f3, .int .i64 (wd : Int), .int .i64 p, .int .u8 lt, .int .i64 k], .string head, .string s, .bool true] w fun e w' => e = .returned (.string (head ++ (mkB (List.replicate (wd - (head.size + s.size)) 48) ++ s))) ∧ Below w.heap.size w w' := by
  have hR : (w.alloc (.cells #[.bool false, .bool f1, .bool f2, .bool true, .bool f3, .int .i64 (wd : Int), .int .i64 p, .int .u8 lt, .int .i64 k] 97)).heap[w.heap.size]? = some (.cells #[.bool false, .bool f1, .bool f2, .bool true, .bool f3, .int .i64 (wd : Int), .int .i64 p, .int .u8 lt, .int .i64 k] 97 (0, 0)) := heap_alloc_new w _
  have y0 : (w.alloc (.cells #[.bool false, .bool f1, .bool f2, .bool true, .bool f3, .int .i64 (wd : Int), .int .i64 p, .int .u8 lt, .int .i64 k] 97)).cell? ⟨w.heap.size, 0, none⟩ = some (.bool false) := by rw [Lib.cell_of_heap hR]; rfl
  have y3 : (w.alloc (.cells #[.bool false, .bool f1, .bool f2, .bool true, .bool f3, .int .i64 (wd : Int), .int .i64 p, .int .u8 lt, .int .i64 k] 97)).cell? ⟨w.heap.size, 3, none⟩ = some (.bool true) := by rw [Lib.cell_of_heap hR]; rfl
  have y5 : (w.alloc (.cells #[.bool false, .bool f1, .bool f2, .bool true, .bool f3, .int .i64 (wd : Int), .int .i64 p, .int .u8 lt, .int .i64 k] 97)).cell? ⟨w.heap.size, 5, none⟩ = some (.int .i64 (wd : Int)) := by rw [Lib.cell_of_heap hR]; rfl
  have y6 : (w.alloc (.cells #[.bool false, .bool f1, .bool f2, .bool true, .bool f3, .int .i64 (wd : Int), .int .i64 p, .int .u8 lt, .int .i64 k] 97)).cell? ⟨w.heap.size, 6, none⟩ = some (.int .i64 p) := by rw [Lib.cell_of_heap hR]; rfl
  have HB := hide ((Below.refl w.heap.size w).alloc (Nat.le_refl _) (.cells #[.bool false, .bool f1, .bool f2, .bool true, .bool f3, .int .i64 (wd : Int), .int .i64 p, .int .u8 lt, .int .i64 k] 97))
  obtain ⟨W, hW⟩ : ∃ W, w.alloc (.cells #[.bool false, .bool f1, .bool f2, .bool true, .bool f3, .int .i64 (wd : Int), .int .i64 p, .int .u8 lt, .int .i64 k] 97) = W := ⟨_, rfl⟩
  rw [hW] at y0 y3 y5 y6 HB
  have HWW := hide hW
  clear hR hW
  ·
    go_enter Tryz.func90, Tryz.ntmps90
    go_wp2_with fail
    rw [HWW.out]
    go_loopw [1, 2] (fun hv sv wr => ∃ i : Nat, hv = .string head ∧ ∃ q : ByteArray, sv = .string q ∧ q.size = s.size + i ∧ Hid (q = mkB (List.replicate i 48) ++ s) ∧ (i = 0 ∨ head.size + s.size + i ≤ wd) ∧ wr = W) (fun hv sv _ => wd - (szPad hv + szPad sv))
    case atStart => exact ⟨0, rfl, s, rfl, by omega, hide (app_nil_l s).symm, Or.inl rfl, rfl⟩
    case round =>
      obtain ⟨i, rfl, q, rfl, hq, HQ, hi, rfl⟩ := hrel
      by_cases h : head.size + s.size + i < wd
      · have h1 : (head.size : Int) + (s.size : Int) + (i : Int) < (wd : Int) := by omega
        have h2 : (head.size : Int) + (q.size : Int) < (wd : Int) := by omega
        go_wp2_with fail
        go_roundw
        case rel => exact ⟨i + 1, rfl, _, rfl, by first | (rw [ByteArray.size_append, hq]; show 1 + _ = _; omega) | (simp; omega), hide (by rw [HQ.out, app_byte_l, List.replicate_succ]), Or.inr (by omega), by first | rfl | trivial⟩
        case measure => first | exact pad_m1 (by omega) | exact pad_m2 (by omega) | exact pad_m3 (by omega)
      · have hn : i = wd - (head.size + s.size) := by omega
        have h1 : ¬ (head.size : Int) + (s.size : Int) + (i : Int) < (wd : Int) := by omega
        have h2 : ¬ (head.size : Int) + (q.size : Int) < (wd : Int) := by omega
        have HN := hide hn
        clear hn
        go_wp2_with fail
        go_ret
        exact ⟨by rw [← HN.out, ← HQ.out]; rfl, HB.out⟩
set_option maxHeartbeats 8000000 in
set_option maxRecDepth 100000 in
theorem padded_blank (f1 f2 f3 z num : Bool) (wd : Nat) (p lt k : Int) (head s : ByteArray) (hz : ¬ (z = true ∧ num = true ∧ p < 0)) (hwd : wd ≤ 999) (hh : head.size ≤ 100000) (hs : s.size ≤ 100000) (w : World) :
    Calls Tryz.prog 90 #[.agg #[.bool false, .bool f1, .bool f2, .bool z, .bool f3, .int .i64 (wd : Int), .int .i64 p, .int .u8 lt, .int .i64 k], .string head, .string s, .bool num] w fun e w' => e = .returned (.string ((mkB (List.replicate (wd - (head.size + s.size)) 32) ++ head) ++ s)) ∧ Below w.heap.size w w' := by
  have hR : (w.alloc (.cells #[.bool false, .bool f1, .bool f2, .bool z, .bool f3, .int .i64 (wd : Int), .int .i64 p, .int .u8 lt, .int .i64 k] 97)).heap[w.heap.size]? = some (.cells #[.bool false, .bool f1, .bool f2, .bool z, .bool f3, .int .i64 (wd : Int), .int .i64 p, .int .u8 lt, .int .i64 k] 97 (0, 0)) := heap_alloc_new w _
  have y0 : (w.alloc (.cells #[.bool false, .bool f1, .bool f2, .bool z, .bool f3, .int .i64 (wd : Int), .int .i64 p, .int .u8 lt, .int .i64 k] 97)).cell? ⟨w.heap.size, 0, none⟩ = some (.bool false) := by rw [Lib.cell_of_heap hR]; rfl
  have y3 : (w.alloc (.cells #[.bool false, .bool f1, .bool f2, .bool z, .bool f3, .int .i64 (wd : Int), .int .i64 p, .int .u8 lt, .int .i64 k] 97)).cell? ⟨w.heap.size, 3, none⟩ = some (.bool z) := by rw [Lib.cell_of_heap hR]; rfl
  have y5 : (w.alloc (.cells #[.bool false, .bool f1, .bool f2, .bool z, .bool f3, .int .i64 (wd : Int), .int .i64 p, .int .u8 lt, .int .i64 k] 97)).cell? ⟨w.heap.size, 5, none⟩ = some (.int .i64 (wd : Int)) := by rw [Lib.cell_of_heap hR]; rfl
  have y6 : (w.alloc (.cells #[.bool false, .bool f1, .bool f2, .bool z, .bool f3, .int .i64 (wd : Int), .int .i64 p, .int .u8 lt, .int .i64 k] 97)).cell? ⟨w.heap.size, 6, none⟩ = some (.int .i64 p) := by rw [Lib.cell_of_heap hR]; rfl
  have HB := hide ((Below.refl w.heap.size w).alloc (Nat.le_refl _) (.cells #[.bool false, .bool f1, .bool f2, .bool z, .bool f3, .int .i64 (wd : Int), .int .i64 p, .int .u8 lt, .int .i64 k] 97))
  obtain ⟨W, hW⟩ : ∃ W, w.alloc (.cells #[.bool false, .bool f1, .bool f2, .bool z, .bool f3, .int .i64 (wd : Int), .int .i64 p, .int .u8 lt, .int .i64 k] 97) = W := ⟨_, rfl⟩
  rw [hW] at y0 y3 y5 y6 HB
  have HWW := hide hW
  clear hR hW
  have hc : z = false ∨ (z = true ∧ num = false) ∨ (z = true ∧ num = true ∧ ¬ p < 0) := by
    cases z
    · exact Or.inl rfl
    · cases num
      · exact Or.inr (Or.inl ⟨rfl, rfl⟩)
      · exact Or.inr (Or.inr ⟨rfl, rfl, fun h => hz ⟨rfl, rfl, h⟩⟩)
  clear hz
  rcases hc with rfl | ⟨rfl, rfl⟩ | ⟨rfl, rfl, hp⟩
  all_goals
    go_enter Tryz.func90, Tryz.ntmps90
    go_wp2_with fail
    rw [HWW.out]
    go_loopw [1, 2] (fun hv sv wr => ∃ i : Nat, sv = .string s ∧ ∃ q : ByteArray, hv = .string q ∧ q.size = head.size + i ∧ Hid (q = mkB (List.replicate i 32) ++ head) ∧ (i = 0 ∨ head.size + s.size + i ≤ wd) ∧ wr = W) (fun hv sv _ => wd - (szPad hv + szPad sv))
    case atStart => exact ⟨0, rfl, head, rfl, by omega, hide (app_nil_l head).symm, Or.inl rfl, rfl⟩
    case round =>
      obtain ⟨i, rfl, q, rfl, hq, HQ, hi, rfl⟩ := hrel
      by_cases h : head.size + s.size + i < wd
      · have h1 : (head.size : Int) + (s.size : Int) + (i : Int) < (wd : Int) := by omega
        have h2 : (q.size : Int) + (s.size : Int) < (wd : Int) := by omega
        go_wp2_with fail
        go_roundw
        case rel => exact ⟨i + 1, rfl, _, rfl, by first | (rw [ByteArray.size_append, hq]; show 1 + _ = _; omega) | (simp; omega), hide (by rw [HQ.out, app_byte_l, List.replicate_succ]), Or.inr (by omega), by first | rfl | trivial⟩
        case measure => first | exact pad_m1 (by omega) | exact pad_m2 (by omega) | exact pad_m3 (by omega)
      · have hn : i = wd - (head.size + s.size) := by omega
        have h1 : ¬ (head.size : Int) + (s.size : Int) + (i : Int) < (wd : Int) := by omega
        have h2 : ¬ (q.size : Int) + (s.size : Int) < (wd : Int) := by omega
        have HN := hide hn
        clear hn
        go_wp2_with fail
        go_ret
        exact ⟨by rw [← HN.out, ← HQ.out]; rfl, HB.out⟩
end Go.Proofs.YtifpmigghplmoaaGreatDoor
