/- delta.block: a block of 64 bytes is taken into the digest. -/
import Derived.Test.YtinpgnekjebipaaDoorSmK
import Derived.Test.YtinpgnekjebipaaDoorSmT
import Derived.BigQuiet
import Derived.Deep.QuietTactic
import Derived.StillTailTactics
set_option linter.unusedVariables false
set_option linter.unusedSimpArgs false
namespace Go.Pw
open Go.RowKit
theorem wi_notM (x : W32) : bits .xor .u32 IntKind.u32.max ((x.toNat : Nat) : Int) = (((~~~x).toNat : Nat) : Int) := wi_not x
/-- the words so far, and zeros -/
def wRow (m : List UInt8) (i : Nat) : List W32 := words m i ++ List.replicate (64 - i) 0#32
/-- the words so far, a word that is being made, and zeros -/
def wRowK (m : List UInt8) (i k : Nat) : List W32 := words m i ++ wordAt m i k :: List.replicate (63 - i) 0#32
theorem wRowK_zero (m : List UInt8) {i : Nat} (h : i < 64) : wRow m i = wRowK m i 0 := by
  unfold wRow wRowK
  rw [show 64 - i = (63 - i) + 1 by omega, List.replicate_succ]; rfl
theorem wRowK_at (m : List UInt8) {i k : Nat} : (wRowK m i k)[i]? = some (wordAt m i k) := by
  unfold wRowK
  rw [List.getElem?_append_right (by rw [words_len]; exact Nat.le_refl _), words_len, Nat.sub_self]; rfl
theorem wRowK_set (m : List UInt8) {i k : Nat} : (wRowK m i k).set i (wordAt m i (k + 1)) = wRowK m i (k + 1) := by
  unfold wRowK
  rw [List.set_append_right _ _ (by rw [words_len]; exact Nat.le_refl _), words_len, Nat.sub_self]; rfl
theorem wRowK_four (m : List UInt8) {i : Nat} (h : i < 16) : wRowK m i 4 = wRow m (i + 1) := by
  unfold wRowK wRow
  rw [words, nextW, words_len, if_pos h, List.append_assoc, show 64 - (i + 1) = 63 - i by omega]; rfl
theorem wRow_at (m : List UInt8) {i j : Nat} (h : j < i) : (wRow m i)[j]? = some ((words m i).getD j 0) := by
  unfold wRow
  have hj : j < (words m i).length := by rw [words_len]; exact h
  rw [List.getElem?_append_left hj, List.getD_eq_getElem?_getD, List.getElem?_eq_getElem hj]; rfl
theorem wRow_zero (m : List UInt8) {i : Nat} (h : i < 64) : (wRow m i)[i]? = some 0#32 := by
  unfold wRow
  rw [List.getElem?_append_right (by rw [words_len]; exact Nat.le_refl _), words_len, Nat.sub_self, show 64 - i = (63 - i) + 1 by omega, List.replicate_succ]; rfl
theorem wRow_set (m : List UInt8) {i : Nat} (h : i < 64) : (wRow m i).set i (nextW m (words m i)) = wRow m (i + 1) := by
  unfold wRow
  rw [List.set_append_right _ _ (by rw [words_len]; exact Nat.le_refl _), words_len, Nat.sub_self, show 64 - i = (63 - i) + 1 by omega, List.replicate_succ, List.set_cons_zero, words, List.append_assoc, show 64 - (i + 1) = 63 - i by omega]; rfl
theorem wRow_end (m : List UInt8) : wRow m 64 = words m 64 := by unfold wRow; simp
theorem nextW_late (m : List UInt8) {i : Nat} (h : 16 ≤ i) : nextW m (words m i) = (words m i).getD (i - 16) 0 + sg0 ((words m i).getD (i - 15) 0) + (words m i).getD (i - 7) 0 + sg1 ((words m i).getD (i - 2) 0) := by
  unfold nextW
  rw [words_len, if_neg (by omega)]
/-- the first words added, the others as they were -/
def mixL (a b : List W32) (j : Nat) : List W32 := (List.zipWith (· + ·) a b).take j ++ a.drop j
theorem mixL_len {a b : List W32} (h : b.length = a.length) (j : Nat) (hj : j ≤ a.length) : (mixL a b j).length = a.length := by
  unfold mixL
  rw [List.length_append, List.length_take, List.length_zipWith, List.length_drop]; omega
theorem mixL_at {a b : List W32} (h : b.length = a.length) {j : Nat} {x : W32} (hx : a[j]? = some x) : (mixL a b j)[j]? = some x := by
  obtain ⟨hj, rfl⟩ := List.getElem?_eq_some_iff.1 hx
  unfold mixL
  rw [List.getElem?_append_right (by rw [List.length_take, List.length_zipWith]; omega), List.length_take, List.length_zipWith, List.getElem?_drop]
  rw [show j + (j - min j (min a.length b.length)) = j by omega, List.getElem?_eq_getElem hj]
theorem mixL_set {a b : List W32} (h : b.length = a.length) {j : Nat} {x y : W32} (hx : a[j]? = some x) (hy : b[j]? = some y) : (mixL a b j).set j (x + y) = mixL a b (j + 1) := by
  obtain ⟨hj, rfl⟩ := List.getElem?_eq_some_iff.1 hx
  obtain ⟨hjb, rfl⟩ := List.getElem?_eq_some_iff.1 hy
  have hz : j < (List.zipWith (· + ·) a b).length := by rw [List.length_zipWith]; omega
  unfold mixL
  rw [List.set_append_right _ _ (by rw [List.length_take]; omega), List.length_take, show j - min j (List.zipWith (· + ·) a b).length = 0 by omega, List.drop_eq_getElem_cons hj, List.set_cons_zero, List.take_succ_eq_append_getElem hz, List.append_assoc, List.getElem_zipWith]
  rfl
theorem V8.list_len (v : V8) : v.list.length = 8 := rfl
theorem mixL_end (v u : V8) : mixL v.list u.list 8 = (v.add u).list := rfl
theorem RowW.set8 {w : World} {b : Nat} {T : TypeId} {l : List W32} (h : RowW w b T l) (hl : l.length = 8) (x0 x1 x2 x3 x4 x5 x6 x7 : W32) :
    RowW ((((((((w.setCell ⟨b, 0, none⟩ (.int .u32 ((x0.toNat : Nat) : Int))).setCell ⟨b, 1, none⟩ (.int .u32 ((x1.toNat : Nat) : Int))).setCell ⟨b, 2, none⟩ (.int .u32 ((x2.toNat : Nat) : Int))).setCell ⟨b, 3, none⟩ (.int .u32 ((x3.toNat : Nat) : Int))).setCell ⟨b, 4, none⟩ (.int .u32 ((x4.toNat : Nat) : Int))).setCell ⟨b, 5, none⟩ (.int .u32 ((x5.toNat : Nat) : Int))).setCell ⟨b, 6, none⟩ (.int .u32 ((x6.toNat : Nat) : Int))).setCell ⟨b, 7, none⟩ (.int .u32 ((x7.toNat : Nat) : Int))) b T [x0, x1, x2, x3, x4, x5, x6, x7] := by
  have h2 := (((((((h.set 0 x0).set 1 x1).set 2 x2).set 3 x3).set 4 x4).set 5 x5).set 6 x6).set 7 x7
  match l, hl with
  | [_, _, _, _, _, _, _, _], _ => exact h2
theorem below_set8 {a w : World} {B b : Nat} (h : Below B a w) (hb : B ≤ b) (v0 v1 v2 v3 v4 v5 v6 v7 : Value) :
    Below B a ((((((((w.setCell ⟨b, 0, none⟩ v0).setCell ⟨b, 1, none⟩ v1).setCell ⟨b, 2, none⟩ v2).setCell ⟨b, 3, none⟩ v3).setCell ⟨b, 4, none⟩ v4).setCell ⟨b, 5, none⟩ v5).setCell ⟨b, 6, none⟩ v6).setCell ⟨b, 7, none⟩ v7) :=
  (((((((h.setCell (p := ⟨b, 0, none⟩) hb v0).setCell (p := ⟨b, 1, none⟩) hb v1).setCell (p := ⟨b, 2, none⟩) hb v2).setCell (p := ⟨b, 3, none⟩) hb v3).setCell (p := ⟨b, 4, none⟩) hb v4).setCell (p := ⟨b, 5, none⟩) hb v5).setCell (p := ⟨b, 6, none⟩) hb v6).setCell (p := ⟨b, 7, none⟩) hb v7
theorem heap_set8 {w : World} {k b : Nat} (h : k ≠ b) (v0 v1 v2 v3 v4 v5 v6 v7 : Value) :
    ((((((((w.setCell ⟨b, 0, none⟩ v0).setCell ⟨b, 1, none⟩ v1).setCell ⟨b, 2, none⟩ v2).setCell ⟨b, 3, none⟩ v3).setCell ⟨b, 4, none⟩ v4).setCell ⟨b, 5, none⟩ v5).setCell ⟨b, 6, none⟩ v6).setCell ⟨b, 7, none⟩ v7).heap[k]? = w.heap[k]? := by
  rw [heap_setCell_other _ _ _ _ h, heap_setCell_other _ _ _ _ h, heap_setCell_other _ _ _ _ h, heap_setCell_other _ _ _ _ h, heap_setCell_other _ _ _ _ h, heap_setCell_other _ _ _ _ h, heap_setCell_other _ _ _ _ h, heap_setCell_other _ _ _ _ h]
end Go.Pw
namespace Go.Proofs.YtinpgnekjebipaaDoor
open Go.RowKit Go.Pw
theorem keys_len : shaK.length = 64 := by decide
def zeros64 : Array Value := #[Value.int .u32 0, Value.int .u32 0, Value.int .u32 0, Value.int .u32 0, Value.int .u32 0, Value.int .u32 0, Value.int .u32 0, Value.int .u32 0, Value.int .u32 0, Value.int .u32 0, Value.int .u32 0, Value.int .u32 0, Value.int .u32 0, Value.int .u32 0, Value.int .u32 0, Value.int .u32 0, Value.int .u32 0, Value.int .u32 0, Value.int .u32 0, Value.int .u32 0, Value.int .u32 0, Value.int .u32 0, Value.int .u32 0, Value.int .u32 0, Value.int .u32 0, Value.int .u32 0, Value.int .u32 0, Value.int .u32 0, Value.int .u32 0, Value.int .u32 0, Value.int .u32 0, Value.int .u32 0, Value.int .u32 0, Value.int .u32 0, Value.int .u32 0, Value.int .u32 0, Value.int .u32 0, Value.int .u32 0, Value.int .u32 0, Value.int .u32 0, Value.int .u32 0, Value.int .u32 0, Value.int .u32 0, Value.int .u32 0, Value.int .u32 0, Value.int .u32 0, Value.int .u32 0, Value.int .u32 0, Value.int .u32 0, Value.int .u32 0, Value.int .u32 0, Value.int .u32 0, Value.int .u32 0, Value.int .u32 0, Value.int .u32 0, Value.int .u32 0, Value.int .u32 0, Value.int .u32 0, Value.int .u32 0, Value.int .u32 0, Value.int .u32 0, Value.int .u32 0, Value.int .u32 0, Value.int .u32 0]
theorem zero64 : zeros64 = (wVs (List.replicate 64 0#32)).toArray := by
  first | kernel_rfl | rfl | decide
def keysL : List W32 := shaK.map fun n : Nat => BitVec.ofNat 32 n
set_option maxHeartbeats 16000000 in
set_option maxRecDepth 100000 in
theorem block_any (v : V8) (s : ByteArray) (S KB : Nat) (w : World) (hs : 64 ≤ s.size) (hs2 : s.size ≤ 4398046511104) (hS : RowW w S 68 v.list) (hK : RowW w KB 69 keysL) (hne : KB ≠ S) :
    Calls Tryd.prog 39 #[.pointer (some ⟨S, 0, none⟩), .pointer (some ⟨KB, 0, none⟩), .string s] w fun e w' => e = .returned (.tuple #[]) ∧ RowW w' S 68 (block8 v s.data.toList).list ∧ RowW w' KB 69 keysL ∧ Below S w w' := by
  have HR0 : Hid (RowW (w.alloc (.cells zeros64 69)) w.heap.size 69 (wRow s.data.toList 0)) := hide (by
    rw [zero64]; exact heap_alloc_new _ _)
  have HB0 := hide ((Below.refl w.heap.size w).alloc (Nat.le_refl _) (.cells zeros64 69))
  have HS := hide hS
  have HK := hide hK
  obtain ⟨m, hm⟩ : ∃ m, s.data.toList = m := ⟨_, rfl⟩
  have HM := hide hm
  rw [hm] at HR0 ⊢
  clear hS hK hm
  go_enter Tryd.func39, Tryd.ntmps39
  go_wp2_with fail
  go_loopw [21] (fun iv wr => ∃ i : Nat, i ≤ 16 ∧ iv = .int .i64 (i : Int) ∧ Hid (RowW wr w.heap.size 69 (wRow m i)) ∧ Hid (Below w.heap.size w wr)) (fun iv _ => 16 - (intOf iv).toNat)
  case atStart => exact ⟨0, by omega, rfl, HR0, HB0⟩
  case round =>
    clear HR0 HB0
    obtain ⟨i, hi, rfl, HR, HB⟩ := hrel
    by_cases hi16 : i < 16
    · have h1 : (i : Int) < 16 := by omega
      have HR1 : Hid (RowW wr w.heap.size 69 (wRowK m i 0)) := hide (by rw [← wRowK_zero m (by omega)]; exact HR.out)
      go_wp2_with fail
      go_loopw [24] (fun kv wx => ∃ k : Nat, k ≤ 4 ∧ kv = .int .i64 (k : Int) ∧ Hid (RowW wx w.heap.size 69 (wRowK m i k)) ∧ Hid (Below w.heap.size w wx)) (fun kv _ => 4 - (intOf kv).toNat)
      case atStart => exact ⟨0, by omega, rfl, HR1, HB⟩
      case round =>
        clear HR1 HR HB
        obtain ⟨k, hk, rfl, HR, HB⟩ := hrel
        by_cases hk4 : k < 4
        · have h2 : (k : Int) < 4 := by omega
          obtain ⟨c0, f0⟩ := HR.out.cells (wRowK_at m)
          obtain ⟨x, hx⟩ : ∃ x, wordAt m i k = x := ⟨_, rfl⟩
          have hat : 4 * i + k < s.size := by omega
          obtain ⟨p, hp⟩ : ∃ p, 4 * i + k = p := ⟨_, rfl⟩
          have hpm : m.getD p 0 = s[p]'(by omega) := by
            rw [← HM.out, List.getD_eq_getElem?_getD, List.getElem?_eq_getElem (by rw [len_size]; omega)]; rfl
          have hps : p < s.size := by omega
          obtain ⟨b, hb⟩ : ∃ b, s[p] = b := ⟨_, rfl⟩
          rw [hb] at hpm
          have hnx : wordAt m i (k + 1) = x <<< 8 ||| BitVec.ofNat 32 b.toNat := by rw [wordAt, hx, hp, hpm]
          rw [hx] at c0
          have hlb := b.toNat_lt
          have w1 : IntKind.i64.wrap (4 * (i : Int)) = 4 * (i : Int) := IntWalk.i64_in _ (by omega)
          have w2 : IntKind.i64.wrap (4 * (i : Int) + (k : Int)) = (p : Int) := by rw [IntWalk.i64_in _ (by omega)]; omega
          have w3 : IntKind.u32.wrap ((b.toNat : Nat) : Int) = (((BitVec.ofNat 32 b.toNat).toNat : Nat) : Int) := by rw [← wi_byte, IntKind.wrap_u32']; omega
          obtain ⟨bw, hbw⟩ : ∃ z, BitVec.ofNat 32 b.toNat = z := ⟨_, rfl⟩
          rw [hbw] at w3 hnx
          have f8 := wi_shl x 8 256 rfl
          obtain ⟨x8, d8⟩ : ∃ z, x <<< 8 = z := ⟨_, rfl⟩
          rw [d8] at f8 hnx
          have fo := wi_or x8 bw
          obtain ⟨y, dy⟩ : ∃ z, x8 ||| bw = z := ⟨_, rfl⟩
          rw [dy] at fo hnx
          have HRN : Hid (RowW (wr.setCell ⟨w.heap.size, i, none⟩ (.int .u32 ((y.toNat : Nat) : Int))) w.heap.size 69 (wRowK m i (k + 1))) := hide (by
            have h := HR.out.set i y
            rw [← hnx, wRowK_set] at h
            rw [← hnx]; exact h)
          have HBN := hide (HB.out.setCell (p := ⟨w.heap.size, i, none⟩) (Nat.le_refl _) (.int .u32 ((y.toNat : Nat) : Int)))
          have i0 : (0 : Int) ≤ (i : Int) := by omega
          have i1 : (i : Int) < 64 := by omega
          have p0 : (0 : Int) ≤ (p : Int) := by omega
          have p1 : (p : Int) < (s.size : Int) := by omega
          clear hx hat hp hpm hnx hbw d8 dy
          go_wp2_with fail
          go_region
          all_goals
            go_wp2_with fail
            go_roundw
            case rel => exact ⟨k + 1, by omega, by go_num, hide HRN.out.drew, hide HBN.out.drew⟩
            case measure => simp [intOf]; omega
        · obtain rfl : k = 4 := by omega
          have HR2 : Hid (RowW wr w.heap.size 69 (wRow m (i + 1))) := hide (by rw [← wRowK_four m hi16]; exact HR.out)
          go_wp2_with fail
          go_roundw
          case rel => exact ⟨i + 1, by omega, by go_num, HR2, HB⟩
          case measure => simp [intOf]; omega
    · have hng : ¬ (i : Int) < 16 := by omega
      have HRa : Hid (RowW wr w.heap.size 69 (wRow m 16)) := hide (by have h := HR.out; rw [show i = 16 by omega] at h; exact h)
      obtain ⟨i0, hi0⟩ : ∃ z : Int, (i : Int) = z := ⟨_, rfl⟩
      rw [hi0] at hng ⊢
      clear hi0 HR
      go_wp2_with fail
      go_loopw [9] (fun iv wx => ∃ i : Nat, 16 ≤ i ∧ i ≤ 64 ∧ iv = .int .i64 (i : Int) ∧ Hid (RowW wx w.heap.size 69 (wRow m i)) ∧ Hid (Below w.heap.size w wx)) (fun iv _ => 64 - (intOf iv).toNat)
      case atStart => exact ⟨16, by omega, by omega, rfl, HRa, HB⟩
      case round =>
        clear HRa HB
        obtain ⟨i, hi16, hi, rfl, HR, HB⟩ := hrel
        by_cases hi64 : i < 64
        · have h1 : (i : Int) < 64 := by omega
          have hnx := nextW_late m hi16
          have hset := wRow_set m hi64
          obtain ⟨j2, hj2⟩ : ∃ j, i - 2 = j := ⟨_, rfl⟩
          obtain ⟨j7, hj7⟩ : ∃ j, i - 7 = j := ⟨_, rfl⟩
          obtain ⟨j15, hj15⟩ : ∃ j, i - 15 = j := ⟨_, rfl⟩
          obtain ⟨j16, hj16⟩ : ∃ j, i - 16 = j := ⟨_, rfl⟩
          rw [hj2, hj7, hj15, hj16] at hnx
          obtain ⟨c2, g2⟩ := HR.out.cells (wRow_at m (i := i) (j := j2) (by omega))
          obtain ⟨c7, g7⟩ := HR.out.cells (wRow_at m (i := i) (j := j7) (by omega))
          obtain ⟨c15, g15⟩ := HR.out.cells (wRow_at m (i := i) (j := j15) (by omega))
          obtain ⟨c16, g16⟩ := HR.out.cells (wRow_at m (i := i) (j := j16) (by omega))
          obtain ⟨c0, g0⟩ := HR.out.cells (wRow_zero m hi64)
          obtain ⟨y, dy⟩ : ∃ z, (words m i).getD j2 0 = z := ⟨_, rfl⟩
          obtain ⟨q, dq⟩ : ∃ z, (words m i).getD j7 0 = z := ⟨_, rfl⟩
          obtain ⟨x, dx⟩ : ∃ z, (words m i).getD j15 0 = z := ⟨_, rfl⟩
          obtain ⟨u, du⟩ : ∃ z, (words m i).getD j16 0 = z := ⟨_, rfl⟩
          rw [dy] at c2 hnx
          rw [dq] at c7 hnx
          rw [dx] at c15 hnx
          rw [du] at c16 hnx
          unfold sg0 sg1 at hnx
          obtain ⟨a7, d_a7⟩ : ∃ z, rotr x 7 = z := ⟨_, rfl⟩
          obtain ⟨a18, d_a18⟩ : ∃ z, rotr x 18 = z := ⟨_, rfl⟩
          obtain ⟨b17, d_b17⟩ : ∃ z, rotr y 17 = z := ⟨_, rfl⟩
          obtain ⟨b19, d_b19⟩ : ∃ z, rotr y 19 = z := ⟨_, rfl⟩
          rw [d_a7, d_a18, d_b17, d_b19] at hnx
          have f_A := wi_xor a7 a18
          obtain ⟨A, d_A⟩ : ∃ z, a7 ^^^ a18 = z := ⟨_, rfl⟩
          rw [d_A] at f_A
          have f_x3 := wi_shr x 3 8 rfl
          obtain ⟨x3, d_x3⟩ : ∃ z, x >>> 3 = z := ⟨_, rfl⟩
          rw [d_x3] at f_x3
          have f_S0 := wi_xor A x3
          obtain ⟨S0, d_S0⟩ : ∃ z, A ^^^ x3 = z := ⟨_, rfl⟩
          rw [d_S0] at f_S0
          have f_t1 := wi_add u S0
          obtain ⟨t1, d_t1⟩ : ∃ z, u + S0 = z := ⟨_, rfl⟩
          rw [d_t1] at f_t1
          have f_t2 := wi_add t1 q
          obtain ⟨t2, d_t2⟩ : ∃ z, t1 + q = z := ⟨_, rfl⟩
          rw [d_t2] at f_t2
          have f_B := wi_xor b17 b19
          obtain ⟨B, d_B⟩ : ∃ z, b17 ^^^ b19 = z := ⟨_, rfl⟩
          rw [d_B] at f_B
          have f_y10 := wi_shr y 10 1024 rfl
          obtain ⟨y10, d_y10⟩ : ∃ z, y >>> 10 = z := ⟨_, rfl⟩
          rw [d_y10] at f_y10
          have f_S1 := wi_xor B y10
          obtain ⟨S1, d_S1⟩ : ∃ z, B ^^^ y10 = z := ⟨_, rfl⟩
          rw [d_S1] at f_S1
          have f_t3 := wi_add t2 S1
          obtain ⟨t3, d_t3⟩ : ∃ z, t2 + S1 = z := ⟨_, rfl⟩
          rw [d_t3] at f_t3
          rw [d_A, d_x3, d_S0, d_t1, d_t2, d_B, d_y10, d_S1, d_t3] at hnx
          rw [hnx] at hset
          have HA7 := hide d_a7
          have HA18 := hide d_a18
          have HB17 := hide d_b17
          have HB19 := hide d_b19
          have w2 : IntKind.i64.wrap ((i : Int) - 2) = (j2 : Int) := by rw [IntWalk.i64_in _ (by omega)]; omega
          have w7 : IntKind.i64.wrap ((i : Int) - 7) = (j7 : Int) := by rw [IntWalk.i64_in _ (by omega)]; omega
          have w15 : IntKind.i64.wrap ((i : Int) - 15) = (j15 : Int) := by rw [IntWalk.i64_in _ (by omega)]; omega
          have w16 : IntKind.i64.wrap ((i : Int) - 16) = (j16 : Int) := by rw [IntWalk.i64_in _ (by omega)]; omega
          have l2 : (j2 : Int) < 64 := by omega
          have l7 : (j7 : Int) < 64 := by omega
          have l15 : (j15 : Int) < 64 := by omega
          have l16 : (j16 : Int) < 64 := by omega
          have n2 : (0 : Int) ≤ (j2 : Int) := by omega
          have n7 : (0 : Int) ≤ (j7 : Int) := by omega
          have n15 : (0 : Int) ≤ (j15 : Int) := by omega
          have n16 : (0 : Int) ≤ (j16 : Int) := by omega
          have n0 : (0 : Int) ≤ (i : Int) := by omega
          have HSET := hide hset
          clear hnx hset hj2 hj7 hj15 hj16 dy dq dx du d_a7 d_a18 d_b17 d_b19 d_A d_x3 d_S0 d_t1 d_t2 d_B d_y10 d_S1 d_t3 g2 g7 g15 g16
          go_wp2_with fail
          go_quiet (fail)
          go_wp2_with fail
          obtain ⟨w4, hw4⟩ : ∃ w4, wr.drewN nq = w4 := ⟨_, rfl⟩
          rw [hw4]
          replace c0 := (show w4.cell? ⟨w.heap.size, i, none⟩ = wr.cell? ⟨w.heap.size, i, none⟩ by rw [← hw4]; rfl).trans c0
          replace g0 := (show w4.frozen? ⟨w.heap.size, i, none⟩ = wr.frozen? ⟨w.heap.size, i, none⟩ by rw [← hw4]; rfl).trans g0
          replace c2 := (show w4.cell? ⟨w.heap.size, j2, none⟩ = wr.cell? ⟨w.heap.size, j2, none⟩ by rw [← hw4]; rfl).trans c2
          replace c7 := (show w4.cell? ⟨w.heap.size, j7, none⟩ = wr.cell? ⟨w.heap.size, j7, none⟩ by rw [← hw4]; rfl).trans c7
          replace c15 := (show w4.cell? ⟨w.heap.size, j15, none⟩ = wr.cell? ⟨w.heap.size, j15, none⟩ by rw [← hw4]; rfl).trans c15
          replace c16 := (show w4.cell? ⟨w.heap.size, j16, none⟩ = wr.cell? ⟨w.heap.size, j16, none⟩ by rw [← hw4]; rfl).trans c16
          have HRN : Hid (RowW (w4.drew.setCell ⟨w.heap.size, i, none⟩ (.int .u32 ((t3.toNat : Nat) : Int))) w.heap.size 69 (wRow m (i + 1))) := hide (by
            have h0 : RowW w4.drew w.heap.size 69 (wRow m i) := by rw [← hw4]; exact HR.out
            have h := h0.set i t3
            rw [HSET.out] at h
            exact h)
          have HBN : Hid (Below w.heap.size w (w4.drew.setCell ⟨w.heap.size, i, none⟩ (.int .u32 ((t3.toNat : Nat) : Int)))) := hide (by
            have h0 : Below w.heap.size w w4.drew := by rw [← hw4]; exact (below_drewN HB.out nq).drew
            exact h0.setCell (p := ⟨w.heap.size, i, none⟩) (Nat.le_refl _) (.int .u32 ((t3.toNat : Nat) : Int)))
          clear hw4
          go_still_tail 29, (by kernel_rfl)
          still_call (turnedE_7 x a7 HA7.out _)
          repeat still_step
          still_call (turnedE_18 x a18 HA18.out _)
          repeat still_step
          still_call (turnedE_17 y b17 HB17.out _)
          repeat still_step
          still_call (turnedE_19 y b19 HB19.out _)
          repeat still_step
          refine wpStill_nil ?_
          go_wp2_with fail
          go_roundw
          case rel => exact ⟨i + 1, by omega, by omega, by go_num, HRN, HBN⟩
          case measure => simp [intOf]; omega
        · have hng : ¬ (i : Int) < 64 := by omega
          have HRa : Hid (RowW wr w.heap.size 69 (words m 64)) := hide (by have h := HR.out; rw [show i = 64 by omega, wRow_end] at h; exact h)
          obtain ⟨i1, hi1⟩ : ∃ z : Int, (i : Int) = z := ⟨_, rfl⟩
          rw [hi1] at hng ⊢
          clear hi1 HR
          have hSl := HS.out.lt
          have hKl := HK.out.lt
          have HSr := hide (HS.out.below HB.out)
          have HKr := hide (HK.out.below HB.out)
          obtain ⟨s0, _⟩ := HSr.out.cells (s := 0) (x := v.a) rfl
          obtain ⟨s1, _⟩ := HSr.out.cells (s := 1) (x := v.b) rfl
          obtain ⟨s2, _⟩ := HSr.out.cells (s := 2) (x := v.c) rfl
          obtain ⟨s3, _⟩ := HSr.out.cells (s := 3) (x := v.d) rfl
          obtain ⟨s4, _⟩ := HSr.out.cells (s := 4) (x := v.e) rfl
          obtain ⟨s5, _⟩ := HSr.out.cells (s := 5) (x := v.f) rfl
          obtain ⟨s6, _⟩ := HSr.out.cells (s := 6) (x := v.g) rfl
          obtain ⟨s7, _⟩ := HSr.out.cells (s := 7) (x := v.h) rfl
          obtain ⟨VB, hVB⟩ : ∃ VB, wr.heap.size = VB := ⟨_, rfl⟩
          have hWV : w.heap.size < VB := by rw [← hVB]; exact HRa.out.lt
          obtain ⟨WB, hWB⟩ : ∃ WB, w.heap.size = WB := ⟨_, rfl⟩
          have hal := (Below.refl wr.heap.size wr).alloc (Nat.le_refl _) (.cells #[.int .u32 ((v.a.toNat : Nat) : Int), .int .u32 ((v.b.toNat : Nat) : Int), .int .u32 ((v.c.toNat : Nat) : Int), .int .u32 ((v.d.toNat : Nat) : Int), .int .u32 ((v.e.toNat : Nat) : Int), .int .u32 ((v.f.toNat : Nat) : Int), .int .u32 ((v.g.toNat : Nat) : Int), .int .u32 ((v.h.toNat : Nat) : Int)] 68)
          have HV0 : Hid (RowW (wr.alloc (.cells #[.int .u32 ((v.a.toNat : Nat) : Int), .int .u32 ((v.b.toNat : Nat) : Int), .int .u32 ((v.c.toNat : Nat) : Int), .int .u32 ((v.d.toNat : Nat) : Int), .int .u32 ((v.e.toNat : Nat) : Int), .int .u32 ((v.f.toNat : Nat) : Int), .int .u32 ((v.g.toNat : Nat) : Int), .int .u32 ((v.h.toNat : Nat) : Int)] 68)) VB 68 v.list) := hide (by rw [← hVB]; exact heap_alloc_new _ _)
          have HW0 := hide (HRa.out.below hal)
          have HS0 := hide (HSr.out.below hal)
          have HK0 := hide (HKr.out.below hal)
          have HB0 := hide (HB.out.trans (hal.mono HB.out.size))
          rw [hWB] at HW0 HB0 hWV hSl hKl
          clear hal HSr HKr HB HRa
          go_wp2_with fail
          try rw [hVB]
          try rw [hWB]
          clear s0 s1 s2 s3 s4 s5 s6 s7 hVB
          go_loopw [87] (fun jv wx => ∃ (j : Nat) (u : V8), j ≤ 64 ∧ jv = .int .i64 (j : Int) ∧ Hid (u = rounds8 v m j) ∧ Hid (RowW wx VB 68 u.list) ∧ Hid (RowW wx WB 69 (words m 64)) ∧ Hid (RowW wx S 68 v.list) ∧ Hid (RowW wx KB 69 keysL) ∧ Hid (Below WB w wx)) (fun jv _ => 64 - (intOf jv).toNat)
          case atStart => exact ⟨0, v, by omega, rfl, hide rfl, HV0, HW0, HS0, HK0, HB0⟩
          case round =>
            clear HV0 HW0 HS0 HK0 HB0
            obtain ⟨j, u, hj, rfl, HU, HV, HW, HSx, HKx, HB⟩ := hrel
            by_cases hj64 : j < 64
            · have h1 : (j : Int) < 64 := by omega
              have j0 : (0 : Int) ≤ (j : Int) := by omega
              have hnext : rounds8 v m (j + 1) = u.next (BitVec.ofNat 32 (shaK.getD j 0)) ((words m 64).getD j 0) := by rw [rounds8, HU.out]
              have hkj : keysL[j]? = some (BitVec.ofNat 32 (shaK.getD j 0)) := by
                unfold keysL
                rw [List.getElem?_map, List.getD_eq_getElem?_getD, List.getElem?_eq_getElem (by rw [keys_len]; exact hj64)]; rfl
              have hwj : (words m 64)[j]? = some ((words m 64).getD j 0) := by
                rw [List.getD_eq_getElem?_getD, List.getElem?_eq_getElem (by rw [words_len]; exact hj64)]; rfl
              obtain ⟨ck, _⟩ := HKx.out.cells hkj
              obtain ⟨cw, _⟩ := HW.out.cells hwj
              obtain ⟨kj, dkj⟩ : ∃ z, BitVec.ofNat 32 (shaK.getD j 0) = z := ⟨_, rfl⟩
              obtain ⟨wj, dwj⟩ : ∃ z, (words m 64).getD j 0 = z := ⟨_, rfl⟩
              rw [dkj] at ck hnext
              rw [dwj] at cw hnext
              clear HU dkj dwj hkj hwj
              obtain ⟨ua, ub, uc, ud, ue, uf, ug, uh⟩ := u
              obtain ⟨v0, g0⟩ := HV.out.cells (s := 0) (x := ua) rfl
              obtain ⟨v1, g1⟩ := HV.out.cells (s := 1) (x := ub) rfl
              obtain ⟨v2, g2⟩ := HV.out.cells (s := 2) (x := uc) rfl
              obtain ⟨v3, g3⟩ := HV.out.cells (s := 3) (x := ud) rfl
              obtain ⟨v4, g4⟩ := HV.out.cells (s := 4) (x := ue) rfl
              obtain ⟨v5, g5⟩ := HV.out.cells (s := 5) (x := uf) rfl
              obtain ⟨v6, g6⟩ := HV.out.cells (s := 6) (x := ug) rfl
              obtain ⟨v7, g7⟩ := HV.out.cells (s := 7) (x := uh) rfl
              unfold V8.next V8.one V8.two sS0 sS1 chS mjS at hnext
              simp only at hnext
              obtain ⟨r6, d_r6⟩ : ∃ z, rotr ue 6 = z := ⟨_, rfl⟩
              obtain ⟨r11, d_r11⟩ : ∃ z, rotr ue 11 = z := ⟨_, rfl⟩
              obtain ⟨r25, d_r25⟩ : ∃ z, rotr ue 25 = z := ⟨_, rfl⟩
              obtain ⟨r2, d_r2⟩ : ∃ z, rotr ua 2 = z := ⟨_, rfl⟩
              obtain ⟨r13, d_r13⟩ : ∃ z, rotr ua 13 = z := ⟨_, rfl⟩
              obtain ⟨r22, d_r22⟩ : ∃ z, rotr ua 22 = z := ⟨_, rfl⟩
              rw [d_r6, d_r11, d_r25, d_r2, d_r13, d_r22] at hnext
              have f_e1 := wi_and ue uf
              obtain ⟨e1, d_e1⟩ : ∃ z, ue &&& uf = z := ⟨_, rfl⟩
              rw [d_e1] at f_e1
              have f_ne := wi_notM ue
              obtain ⟨ne, d_ne⟩ : ∃ z, ~~~ue = z := ⟨_, rfl⟩
              rw [d_ne] at f_ne
              have f_e2 := wi_and ne ug
              obtain ⟨e2, d_e2⟩ : ∃ z, ne &&& ug = z := ⟨_, rfl⟩
              rw [d_e2] at f_e2
              have f_ch := wi_xor e1 e2
              obtain ⟨ch, d_ch⟩ : ∃ z, e1 ^^^ e2 = z := ⟨_, rfl⟩
              rw [d_ch] at f_ch
              have f_m1 := wi_and ua ub
              obtain ⟨m1, d_m1⟩ : ∃ z, ua &&& ub = z := ⟨_, rfl⟩
              rw [d_m1] at f_m1
              have f_m2 := wi_and ua uc
              obtain ⟨m2, d_m2⟩ : ∃ z, ua &&& uc = z := ⟨_, rfl⟩
              rw [d_m2] at f_m2
              have f_m3 := wi_xor m1 m2
              obtain ⟨m3, d_m3⟩ : ∃ z, m1 ^^^ m2 = z := ⟨_, rfl⟩
              rw [d_m3] at f_m3
              have f_m4 := wi_and ub uc
              obtain ⟨m4, d_m4⟩ : ∃ z, ub &&& uc = z := ⟨_, rfl⟩
              rw [d_m4] at f_m4
              have f_mj := wi_xor m3 m4
              obtain ⟨mj, d_mj⟩ : ∃ z, m3 ^^^ m4 = z := ⟨_, rfl⟩
              rw [d_mj] at f_mj
              have f_x1 := wi_xor r6 r11
              obtain ⟨x1, d_x1⟩ : ∃ z, r6 ^^^ r11 = z := ⟨_, rfl⟩
              rw [d_x1] at f_x1
              have f_x2 := wi_xor x1 r25
              obtain ⟨x2, d_x2⟩ : ∃ z, x1 ^^^ r25 = z := ⟨_, rfl⟩
              rw [d_x2] at f_x2
              have f_t1 := wi_add uh x2
              obtain ⟨t1, d_t1⟩ : ∃ z, uh + x2 = z := ⟨_, rfl⟩
              rw [d_t1] at f_t1
              have f_t2 := wi_add t1 ch
              obtain ⟨t2, d_t2⟩ : ∃ z, t1 + ch = z := ⟨_, rfl⟩
              rw [d_t2] at f_t2
              have f_t3 := wi_add t2 kj
              obtain ⟨t3, d_t3⟩ : ∃ z, t2 + kj = z := ⟨_, rfl⟩
              rw [d_t3] at f_t3
              have f_X := wi_add t3 wj
              obtain ⟨X, d_X⟩ : ∃ z, t3 + wj = z := ⟨_, rfl⟩
              rw [d_X] at f_X
              have f_y1 := wi_xor r2 r13
              obtain ⟨y1, d_y1⟩ : ∃ z, r2 ^^^ r13 = z := ⟨_, rfl⟩
              rw [d_y1] at f_y1
              have f_y2 := wi_xor y1 r22
              obtain ⟨y2, d_y2⟩ : ∃ z, y1 ^^^ r22 = z := ⟨_, rfl⟩
              rw [d_y2] at f_y2
              have f_Y := wi_add y2 mj
              obtain ⟨Y, d_Y⟩ : ∃ z, y2 + mj = z := ⟨_, rfl⟩
              rw [d_Y] at f_Y
              have f_XY := wi_add X Y
              obtain ⟨XY, d_XY⟩ : ∃ z, X + Y = z := ⟨_, rfl⟩
              rw [d_XY] at f_XY
              have f_DX := wi_add ud X
              obtain ⟨DX, d_DX⟩ : ∃ z, ud + X = z := ⟨_, rfl⟩
              rw [d_DX] at f_DX
              rw [d_e1, d_ne, d_e2, d_ch, d_m1, d_m2, d_m3, d_m4, d_mj, d_x1, d_x2, d_t1, d_t2, d_t3, d_X, d_y1, d_y2, d_Y, d_XY, d_DX] at hnext
              have HR6 := hide d_r6
              have HR11 := hide d_r11
              have HR25 := hide d_r25
              have HR2 := hide d_r2
              have HR13 := hide d_r13
              have HR22 := hide d_r22
              have HNX := hide hnext
              clear hnext d_r6 d_r11 d_r25 d_r2 d_r13 d_r22 d_e1 d_ne d_e2 d_ch d_m1 d_m2 d_m3 d_m4 d_mj d_x1 d_x2 d_t1 d_t2 d_t3 d_X d_y1 d_y2 d_Y d_XY d_DX
              go_wp2_with fail
              go_quiet (fail)
              go_wp2_with fail
              obtain ⟨w4, hw4⟩ : ∃ z, wr.drewN nq = z := ⟨_, rfl⟩
              rw [hw4]
              replace ck := (show w4.cell? ⟨KB, j, none⟩ = wr.cell? ⟨KB, j, none⟩ by rw [← hw4]; rfl).trans ck
              replace cw := (show w4.cell? ⟨WB, j, none⟩ = wr.cell? ⟨WB, j, none⟩ by rw [← hw4]; rfl).trans cw
              have HV4 : Hid (RowW w4 VB 68 (V8.mk ua ub uc ud ue uf ug uh).list) := hide (by rw [← hw4]; exact HV.out)
              have HW4 : Hid (RowW w4 WB 69 (words m 64)) := hide (by rw [← hw4]; exact HW.out)
              have HSx4 : Hid (RowW w4 S 68 v.list) := hide (by rw [← hw4]; exact HSx.out)
              have HKx4 : Hid (RowW w4 KB 69 keysL) := hide (by rw [← hw4]; exact HKx.out)
              have HB4 : Hid (Below WB w w4) := hide (by rw [← hw4]; exact below_drewN HB.out _)
              clear v0 v1 v2 v3 v4 v5 v6 v7 g0 g1 g2 g3 g4 g5 g6 g7 hw4 HV HW HSx HKx HB
              obtain ⟨v0, g0⟩ := HV4.out.cells (s := 0) (x := ua) rfl
              obtain ⟨v1, g1⟩ := HV4.out.cells (s := 1) (x := ub) rfl
              obtain ⟨v2, g2⟩ := HV4.out.cells (s := 2) (x := uc) rfl
              obtain ⟨v3, g3⟩ := HV4.out.cells (s := 3) (x := ud) rfl
              obtain ⟨v4, g4⟩ := HV4.out.cells (s := 4) (x := ue) rfl
              obtain ⟨v5, g5⟩ := HV4.out.cells (s := 5) (x := uf) rfl
              obtain ⟨v6, g6⟩ := HV4.out.cells (s := 6) (x := ug) rfl
              obtain ⟨v7, g7⟩ := HV4.out.cells (s := 7) (x := uh) rfl
              go_loud (refine wp_region_still_lit (by kernel_rfl) (by kernel_rfl) ?_)
              repeat still_step
              still_call (turnedE_6 ue r6 HR6.out _)
              repeat still_step
              still_call (turnedE_11 ue r11 HR11.out _)
              repeat still_step
              still_call (turnedE_25 ue r25 HR25.out _)
              repeat still_step
              refine wpStill_nil ?_
              obtain ⟨w5, hw5⟩ : ∃ z, ({ heap := w4.heap, tape := w4.tape, drawn := w4.drawn + 1, os := w4.os, output := w4.output } : World) = z := ⟨_, rfl⟩
              rw [hw5]
              have HV5 : Hid (RowW w5 VB 68 (V8.mk ua ub uc ud ue uf ug uh).list) := hide (by rw [← hw5]; exact HV4.out)
              have HW5 : Hid (RowW w5 WB 69 (words m 64)) := hide (by rw [← hw5]; exact HW4.out)
              have HSx5 : Hid (RowW w5 S 68 v.list) := hide (by rw [← hw5]; exact HSx4.out)
              have HKx5 : Hid (RowW w5 KB 69 keysL) := hide (by rw [← hw5]; exact HKx4.out)
              have HB5 : Hid (Below WB w w5) := hide (by rw [← hw5]; exact HB4.out.drew)
              clear v0 v1 v2 v3 v4 v5 v6 v7 g0 g1 g2 g3 g4 g5 g6 g7 hw5 HV4 HW4 HSx4 HKx4 HB4
              obtain ⟨v0, g0⟩ := HV5.out.cells (s := 0) (x := ua) rfl
              obtain ⟨v1, g1⟩ := HV5.out.cells (s := 1) (x := ub) rfl
              obtain ⟨v2, g2⟩ := HV5.out.cells (s := 2) (x := uc) rfl
              obtain ⟨v3, g3⟩ := HV5.out.cells (s := 3) (x := ud) rfl
              obtain ⟨v4, g4⟩ := HV5.out.cells (s := 4) (x := ue) rfl
              obtain ⟨v5, g5⟩ := HV5.out.cells (s := 5) (x := uf) rfl
              obtain ⟨v6, g6⟩ := HV5.out.cells (s := 6) (x := ug) rfl
              obtain ⟨v7, g7⟩ := HV5.out.cells (s := 7) (x := uh) rfl
              go_wp2_with fail
              refine (turnedE_2 ua r2 HR2.out _).mono ?_
              rintro e w9 ⟨rfl, rfl⟩
              go_wp2_with fail
              refine (turnedE_13 ua r13 HR13.out _).mono ?_
              rintro e w9 ⟨rfl, rfl⟩
              go_wp2_with fail
              refine (turnedE_22 ua r22 HR22.out _).mono ?_
              rintro e w9 ⟨rfl, rfl⟩
              go_wp2_with fail
              go_roundw
              case rel =>
                refine ⟨j + 1, ⟨XY, ua, ub, uc, DX, ue, uf, ug⟩, by omega, by go_num, hide HNX.out.symm, hide (HV5.out.set8 rfl XY ua ub uc DX ue uf ug), hide ?_, hide ?_, hide ?_, hide (below_set8 HB5.out (by omega) _ _ _ _ _ _ _ _)⟩
                · exact (heap_set8 (by omega) _ _ _ _ _ _ _ _).trans HW5.out
                · exact (heap_set8 (by omega) _ _ _ _ _ _ _ _).trans HSx5.out
                · exact (heap_set8 (by omega) _ _ _ _ _ _ _ _).trans HKx5.out
              case measure => simp [intOf]; omega
            · have hng2 : ¬ (j : Int) < 64 := by omega
              have HUE : Hid (block8 v m = v.add u) := hide (by have h := HU.out; rw [show j = 64 by omega] at h; rw [h]; rfl)
              obtain ⟨i2, hi2⟩ : ∃ z : Int, (j : Int) = z := ⟨_, rfl⟩
              rw [hi2] at hng2 ⊢
              clear hi2 HU HW
              have HB2 : Hid (Below S w wr) := hide (HB.out.mono (by omega))
              have HM0 : Hid (RowW wr S 68 (mixL v.list u.list 0)) := HSx
              clear HB HSx
              go_wp2_with fail
              go_loopw [173] (fun iv wx => ∃ i : Nat, i ≤ 8 ∧ iv = .int .i64 (i : Int) ∧ Hid (RowW wx S 68 (mixL v.list u.list i)) ∧ Hid (RowW wx VB 68 u.list) ∧ Hid (RowW wx KB 69 keysL) ∧ Hid (Below S w wx)) (fun iv _ => 8 - (intOf iv).toNat)
              case atStart => exact ⟨0, by omega, rfl, HM0, HV, HKx, HB2⟩
              case round =>
                clear HM0 HV HKx HB2
                obtain ⟨i, hi, rfl, HX, HV, HKx, HB⟩ := hrel
                by_cases hi8 : i < 8
                · have h1 : (i : Int) < 8 := by omega
                  have n0 : (0 : Int) ≤ (i : Int) := by omega
                  obtain ⟨x, hx⟩ : ∃ x, v.list[i]? = some x := ⟨_, List.getElem?_eq_getElem (by rw [V8.list_len]; exact hi8)⟩
                  obtain ⟨y, hy⟩ : ∃ y, u.list[i]? = some y := ⟨_, List.getElem?_eq_getElem (by rw [V8.list_len]; exact hi8)⟩
                  obtain ⟨cx, gx⟩ := HX.out.cells (mixL_at (a := v.list) (b := u.list) rfl hx)
                  obtain ⟨cy, gy⟩ := HV.out.cells hy
                  have f1 := wi_add x y
                  obtain ⟨z, dz⟩ : ∃ z, x + y = z := ⟨_, rfl⟩
                  rw [dz] at f1
                  have HXN : Hid (RowW (wr.setCell ⟨S, i, none⟩ (.int .u32 ((z.toNat : Nat) : Int))) S 68 (mixL v.list u.list (i + 1))) := hide (by
                    have h := HX.out.set i z
                    rw [← dz, mixL_set (a := v.list) (b := u.list) rfl hx hy] at h
                    rw [← dz]; exact h)
                  have HVN : Hid (RowW (wr.setCell ⟨S, i, none⟩ (.int .u32 ((z.toNat : Nat) : Int))) VB 68 u.list) := hide (HV.out.other (p := ⟨S, i, none⟩) (by show VB ≠ S; omega) _)
                  have HKN : Hid (RowW (wr.setCell ⟨S, i, none⟩ (.int .u32 ((z.toNat : Nat) : Int))) KB 69 keysL) := hide (HKx.out.other (p := ⟨S, i, none⟩) hne _)
                  have HBN := hide (HB.out.setCell (p := ⟨S, i, none⟩) (Nat.le_refl _) (.int .u32 ((z.toNat : Nat) : Int)))
                  clear hx hy dz gy
                  go_wp2_with fail
                  go_region
                  all_goals
                    go_wp2_with fail
                    go_roundw
                    case rel => exact ⟨i + 1, by omega, by go_num, hide HXN.out.drew, hide HVN.out.drew, hide HKN.out.drew, hide HBN.out.drew⟩
                    case measure => simp [intOf]; omega
                · have hng3 : ¬ (i : Int) < 8 := by omega
                  have HF : Hid (RowW wr S 68 (block8 v m).list) := hide (by have h := HX.out; rw [show i = 8 by omega, mixL_end, ← HUE.out] at h; exact h)
                  go_wp2_with fail
                  go_end0
                  exact ⟨rfl, HF.out, HKx.out, HB.out⟩
end Go.Proofs.YtinpgnekjebipaaDoor
