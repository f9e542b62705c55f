/- delta.digest. -/
import Derived.Test.YtinpgnekjebipaaDoorSmB
import Derived.Laws.Tables
set_option linter.unusedVariables false
set_option linter.unusedSimpArgs false
namespace Go.Pw
open Go.RowKit
theorem blocks8_next : ∀ (b : Nat) (v : V8) (m : List UInt8), blocks8 v (b + 1) m = block8 (blocks8 v b m) (m.drop (64 * b))
  | 0, v, m => by simp [blocks8]
  | b + 1, v, m => by
    have h := blocks8_next b (block8 v m) (m.drop 64)
    rw [blocks8, h, blocks8, List.drop_drop, show 64 + 64 * b = 64 * (b + 1) by omega]
theorem below_setRow {a w : World} {B g : Nat} (h : Below B a w) (hg : B ≤ g) (cs : Array Value) : Below B a (w.setRow g cs) :=
  ⟨h.os, h.tape, h.output, by rw [size_setRow]; exact h.size, fun k hk => (setRow_other w g k cs (by omega)).trans (h.block k hk)⟩
end Go.Pw
namespace Go.Proofs.YtinpgnekjebipaaDoor
open Go.RowKit Go.Pw
theorem info_a8 : (Tryd.prog.info? 68).map (·.size) = some 8 := by kernel_rfl
theorem info_a64 : (Tryd.prog.info? 69).map (·.size) = some 64 := by kernel_rfl
theorem wpList_built {P : Program} {ops : Array Oper} {rest : List Oper} {o : Oper} {a : Act} {w : World} {Q : Exit → Act → World → Prop} (cells : Array Value) (hg : o.guard = none) (t : TypeId) (parts : Array (Nat × Operand)) (ho : o.op = .build t parts)
    (hb : P.built t (parts.map fun (i, x) => (i, a.eval x)).toList = some cells) (h : wpList P ops Q rest (a.put o.dst (.agg cells)) w) : wpList P ops Q (o :: rest) a w :=
  wpList_build hg t parts ho (by rw [hb]; rfl) (by rw [hb]; exact h)
def keysV : Array Value := (wVs keysL).toArray
set_option maxHeartbeats 4000000 in
set_option maxRecDepth 100000 in
theorem digestKeys_any (w : World) : Calls Tryd.prog 37 #[] w fun e w' => e = .returned (.agg keysV) ∧ Below w.heap.size w w' := by
  go_enter Tryd.func37, Tryd.ntmps37
  apply wp_seq_k
  intro K0 hK0
  have HK0 := hide hK0
  clear hK0
  go_wp2_with fail
  refine HK0.out _ _ ?_
  clear HK0 K0
  apply wp_seq_k
  intro K1 hK1
  apply wp_region_lit
  refine wpList_built keysV (by rfl) 69 _ (by rfl) (by kernel_rfl) ?_
  have hg : (w.alloc (.cells zeros64 69)).heap[w.heap.size]? = some (.cells zeros64 69 (0, 0)) := heap_alloc_new _ _
  refine wpList_store_row (by rfl) 69 _ _ (by rfl) w.heap.size keysV (by rfl) (by rfl) 69 zeros64 hg (by kernel_rfl) (by kernel_rfl) (by kernel_rfl) ?_
  refine wpList_nil ?_
  refine hK1 _ _ ?_
  refine wp_ret ?_
  have hb := below_setRow ((Below.refl w.heap.size w).alloc (Nat.le_refl _) (.cells zeros64 69)) (g := w.heap.size) (Nat.le_refl _) keysV
  exact bodyPost_ret (results_cell_row rfl _ _ w.heap.size 69 keysV (0, 0) _ (by rfl) (setRow_heap _ _ _ keysV _ _ hg) Tryd.underlying69 rfl info_a64) (by rfl) ⟨rfl, hb⟩
set_option maxHeartbeats 4000000 in
set_option maxRecDepth 100000 in
theorem four_any (n : Nat) (w : World) (hn : n < 4294967296) : Calls Tryd.prog 38 #[.int .u32 (n : Int)] w fun e w' => e = .returned (.string (mkB (four8 n))) ∧ Below w.heap.size w w' := by
  have f : ∀ m : Nat, ((UInt8.ofNat m).toNat : Int) = ((m % 256 : Nat) : Int) := fun m => by rw [UInt8.toNat_ofNat']
  have w1 : IntKind.u8.wrap ((n : Int) / 16777216) = ((UInt8.ofNat (n / 16777216)).toNat : Int) := by rw [f, IntKind.wrap_u8']; omega
  have w2 : IntKind.u8.wrap ((n : Int) / 65536) = ((UInt8.ofNat (n / 65536)).toNat : Int) := by rw [f, IntKind.wrap_u8']; omega
  have w3 : IntKind.u8.wrap ((n : Int) / 256) = ((UInt8.ofNat (n / 256)).toNat : Int) := by rw [f, IntKind.wrap_u8']; omega
  have w4 : IntKind.u8.wrap (n : Int) = ((UInt8.ofNat n).toNat : Int) := by rw [f, IntKind.wrap_u8']; omega
  obtain ⟨a, ha⟩ : ∃ a, UInt8.ofNat (n / 16777216) = a := ⟨_, rfl⟩
  obtain ⟨b, hb⟩ : ∃ b, UInt8.ofNat (n / 65536) = b := ⟨_, rfl⟩
  obtain ⟨c, hc⟩ : ∃ c, UInt8.ofNat (n / 256) = c := ⟨_, rfl⟩
  obtain ⟨d, hd⟩ : ∃ d, UInt8.ofNat n = d := ⟨_, rfl⟩
  rw [ha] at w1
  rw [hb] at w2
  rw [hc] at w3
  rw [hd] at w4
  have HF : Hid (four8 n = [a, b, c, d]) := hide (by unfold four8; rw [ha, hb, hc, hd])
  have hcv : (convert 78 9 (.slice (some ⟨w.heap.size, 0, none⟩) 4 4)).run Tryd.prog (w.alloc (.cells #[.int .u8 (a.toNat : Int), .int .u8 (b.toNat : Int), .int .u8 (c.toNat : Int), .int .u8 (d.toNat : Int)] 5)) = .ok (.string (mkB [a, b, c, d])) (w.alloc (.cells #[.int .u8 (a.toNat : Int), .int .u8 (b.toNat : Int), .int .u8 (c.toNat : Int), .int .u8 (d.toNat : Int)] 5)) := by
    exact run_convert_bytes_back (P := Tryd.prog) (w.alloc (.cells #[.int .u8 (a.toNat : Int), .int .u8 (b.toNat : Int), .int .u8 (c.toNat : Int), .int .u8 (d.toNat : Int)] 5)) 78 9 5 ⟨w.heap.size, 0, none⟩ 4 [a, b, c, d] Tryd.underlying78 Tryd.underlying5 Tryd.underlying9 (fun j hj => by
      match j, hj with
      | 0, _ => simp [Addr.add, World.cell?_alloc_new]
      | 1, _ => simp [Addr.add, World.cell?_alloc_new]
      | 2, _ => simp [Addr.add, World.cell?_alloc_new]
      | 3, _ => simp [Addr.add, World.cell?_alloc_new])
  have HB := hide ((Below.refl w.heap.size w).alloc (Nat.le_refl _) (.cells #[.int .u8 (a.toNat : Int), .int .u8 (b.toNat : Int), .int .u8 (c.toNat : Int), .int .u8 (d.toNat : Int)] 5))
  clear ha hb hc hd f
  go_enter Tryd.func38, Tryd.ntmps38
  go_wp2_with fail
  go_ret
  exact ⟨by rw [HF.out]; rfl, HB.out⟩
theorem start_row (w : World) : RowW (w.alloc (.cells #[.int .u32 1779033703, .int .u32 3144134277, .int .u32 1013904242, .int .u32 2773480762, .int .u32 1359893119, .int .u32 2600822924, .int .u32 528734635, .int .u32 1541459225] 68)) w.heap.size 68 start8.list := heap_alloc_new _ _
set_option maxHeartbeats 8000000 in
set_option maxRecDepth 100000 in
theorem digest_any (s : ByteArray) (w : World) (hs : s.size ≤ 262144) (hT : TzT w) : Calls Tryd.prog 20 #[.string s] w fun e w' => e = .returned (.string (mkB (sha8 s.data.toList))) ∧ Below w.heap.size w w' := by
  have HT := hide hT
  clear hT
  go_enter Tryd.func20, Tryd.ntmps20
  go_wp2_with fail
  refine (digestKeys_any _).mono ?_
  rintro e w1 ⟨rfl, hb1⟩
  dsimp only
  rename_i K1 hK1 K0 hK0
  refine hK0 _ _ ?_
  clear hK0 K0
  have HK1 := hide hK1
  clear hK1
  refine wpList_step (fun K hK => ?_)
  go_simp
  refine hK _ _ ?_
  clear hK K
  have hg : (w1.alloc (.cells zeros64 69)).heap[w1.heap.size]? = some (.cells zeros64 69 (0, 0)) := heap_alloc_new _ _
  refine wpList_store_row (by rfl) 69 _ _ (by rfl) w1.heap.size keysV (by rfl) (by rfl) 69 zeros64 hg (by kernel_rfl) (by kernel_rfl) (by kernel_rfl) ?_
  refine wpList_nil ?_
  refine HK1.out _ _ ?_
  clear HK1 K1
  have hb2 : Below w.heap.size w ((w1.alloc (.cells zeros64 69)).setRow w1.heap.size keysV) := by
    have h0 := (Below.refl w.heap.size w).alloc (Nat.le_refl _) (.cells #[.int .u32 1779033703, .int .u32 3144134277, .int .u32 1013904242, .int .u32 2773480762, .int .u32 1359893119, .int .u32 2600822924, .int .u32 528734635, .int .u32 1541459225] 68)
    have h1 := h0.trans (hb1.mono h0.size)
    exact below_setRow (h1.alloc h1.size _) h1.size _
  have hSz : w.heap.size < w1.heap.size := by have := hb1.size; simp at this; omega
  have hS2 : RowW ((w1.alloc (.cells zeros64 69)).setRow w1.heap.size keysV) w.heap.size 68 start8.list := by
    exact (setRow_other _ _ _ _ (by omega)).trans ((heap_alloc_old _ _ hSz).trans ((start_row w).below hb1))
  have hK2 : RowW ((w1.alloc (.cells zeros64 69)).setRow w1.heap.size keysV) w1.heap.size 69 keysL := setRow_heap _ _ _ keysV _ _ hg
  change Code.wp _ _ _ _ ((w1.alloc (.cells zeros64 69)).setRow w1.heap.size keysV)
  obtain ⟨w2, hw2⟩ : ∃ z, (w1.alloc (.cells zeros64 69)).setRow w1.heap.size keysV = z := ⟨_, rfl⟩
  rw [hw2] at hb2 hS2 hK2 ⊢
  obtain ⟨KB, hKB⟩ : ∃ z, w1.heap.size = z := ⟨_, rfl⟩
  rw [hKB] at hK2 hSz ⊢
  obtain ⟨S, hSS⟩ : ∃ z, w.heap.size = z := ⟨_, rfl⟩
  rw [hSS] at hS2 hSz hb2 ⊢
  have HB2 := hide hb2
  have HS2 := hide hS2
  have HK2 := hide hK2
  have HSS := hide hSS
  obtain ⟨kv, hkv⟩ : ∃ kv, keysV = kv := ⟨_, rfl⟩
  rw [hkv]
  clear hw2 hb1 hg hb2 hS2 hK2 hKB hSS hkv
  have w1' : IntKind.u64.wrap (s.size : Int) = (s.size : Int) := IntWalk.u64_in _ (by omega)
  have w2' : IntKind.u64.wrap ((s.size : Int) * 8) = (s.size : Int) * 8 := IntWalk.u64_in _ (by omega)
  have hcat0 : ¬ (9223372036854775807 < s.size + (⟨#[128]⟩ : ByteArray).size) := by
    have : (⟨#[128]⟩ : ByteArray).size = 1 := rfl
    omega
  obtain ⟨s1, hs1⟩ : ∃ z, s ++ ⟨#[128]⟩ = z := ⟨_, rfl⟩
  have HS1 : Hid (s1.data.toList = s.data.toList ++ 128 :: List.replicate 0 0) := hide (by rw [← hs1, ByteArray.data_append, Array.toList_append]; rfl)
  go_wp2_with fail
  clear hs1 hcat0 w1' w2'
  obtain ⟨Z, hZ⟩ : ∃ Z, (119 - s.size % 64) % 64 = Z := ⟨_, rfl⟩
  have hZe : (s.size + 1 + Z) % 64 = 56 := by omega
  have hZl : ∀ z, z < Z → (s.size + 1 + z) % 64 ≠ 56 := fun z hz => by omega
  have hZ64 : Z < 64 := by omega
  have HZ := hide hZ
  have HZE := hide hZe
  have HZL := hide hZl
  clear hZ hZe hZl
  go_loopw [0] (fun sv wx => ∃ (z : Nat) (t : ByteArray), sv = .string t ∧ z ≤ Z ∧ Hid (t.data.toList = s.data.toList ++ 128 :: List.replicate z 0) ∧ wx = w2) (fun sv _ => match sv with | .string t => s.size + 70 - t.size | _ => 0)
  case atStart => exact ⟨0, s1, rfl, by omega, HS1, rfl⟩
  case round =>
    clear HS1
    obtain ⟨z, t, rfl, hz, HT1, rfl⟩ := hrel
    have hts : t.size = s.size + 1 + z := by
      rw [← len_size, HT1.out, List.length_append, List.length_cons, List.length_replicate, len_size]; omega
    by_cases hzZ : z < Z
    · have hm : ((t.size : Int) % 64 != 56) = true := by
        have := HZL.out z hzZ
        simp; omega
      have hcat : ¬ (9223372036854775807 < t.size + (⟨#[0]⟩ : ByteArray).size) := by
        have : (⟨#[0]⟩ : ByteArray).size = 1 := rfl
        omega
      obtain ⟨t2, ht2⟩ : ∃ z, t ++ ⟨#[0]⟩ = z := ⟨_, rfl⟩
      have HT2 : Hid (t2.data.toList = s.data.toList ++ 128 :: List.replicate (z + 1) 0) := hide (by
        rw [← ht2, ByteArray.data_append, Array.toList_append, HT1.out, List.replicate_succ', List.append_assoc]; rfl)
      have HSZ2 : Hid (t2.size = t.size + 1) := hide (by rw [← ht2, ByteArray.size_append]; rfl)
      have HTS := hide hts
      clear hts
      go_wp2_with fail
      go_roundw
      case rel => exact ⟨z + 1, t2, rfl, by omega, HT2, by trivial⟩
      case measure => have h1 := HSZ2.out; have h2 := HTS.out; simp; omega
    · obtain rfl : z = Z := by omega
      have hm : ((t.size : Int) % 64 != 56) = false := by
        have := HZE.out
        simp; omega
      have HTS := hide hts
      clear hts
      go_wp2_with fail
      rw [show (s.size : Int) * 8 / 4294967296 = ((s.size * 8 / 4294967296 : Nat) : Int) by omega]
      refine (four_any _ _ (by omega)).mono ?_
      rintro e w3 ⟨rfl, hb3⟩
      have HB3 := hide hb3
      clear hb3
      have w5 : IntKind.u32.wrap ((s.size : Int) * 8) = ((s.size * 8 % 4294967296 : Nat) : Int) := by rw [IntKind.wrap_u32']; omega
      obtain ⟨L2, hL2⟩ : ∃ L, s.size * 8 % 4294967296 = L := ⟨_, rfl⟩
      obtain ⟨L1, hL1⟩ : ∃ L, s.size * 8 / 4294967296 = L := ⟨_, rfl⟩
      have hL2l : L2 < 4294967296 := by omega
      rw [hL2] at w5
      rw [hL1]
      have f4 : ∀ n, (mkB (four8 n)).size = 4 := fun n => by rw [mkB_size]; rfl
      obtain ⟨q1, hq1⟩ : ∃ q, mkB (four8 L1) = q := ⟨_, rfl⟩
      obtain ⟨q2, hq2⟩ : ∃ q, mkB (four8 L2) = q := ⟨_, rfl⟩
      have g1 : q1.size = 4 := by rw [← hq1]; exact f4 _
      have g2 : q2.size = 4 := by rw [← hq2]; exact f4 _
      have hts := HTS.out
      have hcat1 : ¬ (9223372036854775807 < q1.size + q2.size) := by omega
      have hcat2 : ¬ (9223372036854775807 < t.size + (q1 ++ q2).size) := by rw [ByteArray.size_append]; omega
      obtain ⟨M, hM⟩ : ∃ M, t ++ (q1 ++ q2) = M := ⟨_, rfl⟩
      have HM : Hid (M.data.toList = padM s.data.toList) := hide (by
        rw [← hM, ByteArray.data_append, Array.toList_append, ByteArray.data_append, Array.toList_append, HT1.out, ← hq1, ← hq2]
        unfold padM
        rw [len_size, HZ.out, hL1, hL2]
        rfl)
      rw [hq1]
      have HQ2 := hide hq2
      have hF2 := four_any L2 w3 hL2l
      rw [hq2] at hF2
      have HF2 := hide hF2
      clear hL1 hL2 hq1 hq2 f4 g1 g2 hF2 hts HQ2
      go_wp2_with fail
      refine HF2.out.mono ?_
      rintro e w4 ⟨rfl, hb4⟩
      have HBw := hide (HB2.out.trans ((HB3.out.trans (hb4.mono HB3.out.size)).mono (by have h1 := HB2.out.size; have h2 := HSS.out; omega)))
      have HS4 := hide (HS2.out.below (HB3.out.trans (hb4.mono HB3.out.size)))
      have HK4 := hide (HK2.out.below (HB3.out.trans (hb4.mono HB3.out.size)))
      clear hb4 HB3 HB2 HS2 HK2 HF2 w5
      go_wp2_with fail
      clear hM hcat1 hcat2
      have hPl := padM_len s.data.toList
      rw [← HM.out, len_size] at hPl
      obtain ⟨nb, hnb⟩ : ∃ nb, M.size = 64 * nb := ⟨M.size / 64, by omega⟩
      have HNB := hide hnb
      clear hPl hnb
      have hMs : M.size ≤ 300000 := by
        have h1 : M.size = s.size + 1 + z + 8 := by
          rw [← len_size, HM.out]
          unfold padM four8
          simp only [List.length_append, List.length_cons, List.length_replicate, List.length_nil, len_size]
          have := HZ.out
          omega
        omega
      go_loopw [0] (fun sv wx => ∃ (b : Nat) (t : ByteArray), sv = .string t ∧ b ≤ nb ∧ Hid (t.data.toList = M.data.toList.drop (64 * b)) ∧ Hid (RowW wx S 68 (blocks8 start8 b M.data.toList).list) ∧ Hid (RowW wx KB 69 keysL) ∧ Hid (Below S w wx)) (fun sv _ => match sv with | .string t => t.size | _ => 0)
      case atStart => exact ⟨0, M, rfl, by omega, hide (by simp), HS4, HK4, HBw⟩
      case round =>
        clear HS4 HK4 HBw
        obtain ⟨b, t3, rfl, hb, HTD, HS5, HK5, HB5⟩ := hrel
        have hts3 : t3.size = 64 * (nb - b) := by
          have h1 := HNB.out
          rw [← len_size, HTD.out, List.length_drop, len_size]
          omega
        by_cases hbn : b < nb
        · have hpos : 0 < t3.size := by omega
          have hem := isEmpty_of hpos
          have hnbM := HNB.out
          have HBL := hide (fun W h1 h2 => block_any (blocks8 start8 b M.data.toList) t3 S KB W (by omega) (by omega) h1 h2 (by omega))
          obtain ⟨t4, ht4⟩ : ∃ z, t3.extract 64 t3.size = z := ⟨_, rfl⟩
          have HT4 : Hid (t4.data.toList = M.data.toList.drop (64 * (b + 1))) := hide (by
            rw [← ht4, Lib.extract_to_end, HTD.out, List.drop_drop, show 64 * b + 64 = 64 * (b + 1) by omega])
          have HLT : Hid (t4.size < t3.size) := hide (by rw [← ht4, ByteArray.size_extract]; omega)
          have h64 : (64 : Int) ≤ (t3.size : Int) := by omega
          have HTS3 := hide hts3
          clear hts3 hnbM
          go_wp2_with fail
          refine (HBL.out _ HS5.out HK5.out).mono ?_
          rintro e w6 ⟨rfl, h1, h2, h3⟩
          have HS6 : Hid (RowW w6 S 68 (blocks8 start8 (b + 1) M.data.toList).list) := hide (by rw [blocks8_next, ← HTD.out]; exact h1)
          have HK6 := hide h2
          have HB6 : Hid (Below S w w6) := hide (HB5.out.trans h3)
          clear h1 h2 h3
          go_wp2_with fail
          go_roundw
          case rel => exact ⟨b + 1, t4, by trivial, by omega, HT4, HS6, HK6, HB6⟩
          case measure => exact HLT.out
        · have hem : t3.size = 0 := by rw [hts3]; omega
          obtain rfl := empty_of (s := t3) hem
          clear hts3 hem
          have HD : Hid (blocks8 start8 b M.data.toList = dig8 s.data.toList) := hide (by
            unfold dig8
            rw [← HM.out, len_size, HNB.out, show 64 * nb / 64 = b by omega])
          rw [HD.out] at HS5
          have HSHA : Hid (sha8 s.data.toList = (dig8 s.data.toList).list.flatMap fun x => hexN 8 x.toNat) := hide rfl
          obtain ⟨V, hV⟩ : ∃ V, dig8 s.data.toList = V := ⟨_, rfl⟩
          rw [hV] at HS5 HSHA
          clear HD hV
          have HT5 : Hid (TzT wr) := hide (HT.out.below (HB5.out.mono (by rw [HSS.out]; exact Nat.le_refl _)))
          obtain ⟨s0, _⟩ := HS5.out.cells (s := 0) (x := V.a) rfl
          obtain ⟨s1, _⟩ := HS5.out.cells (s := 1) (x := V.b) rfl
          obtain ⟨s2, _⟩ := HS5.out.cells (s := 2) (x := V.c) rfl
          obtain ⟨s3, _⟩ := HS5.out.cells (s := 3) (x := V.d) rfl
          obtain ⟨s4, _⟩ := HS5.out.cells (s := 4) (x := V.e) rfl
          obtain ⟨s5, _⟩ := HS5.out.cells (s := 5) (x := V.f) rfl
          obtain ⟨s6, _⟩ := HS5.out.cells (s := 6) (x := V.g) rfl
          obtain ⟨s7, _⟩ := HS5.out.cells (s := 7) (x := V.h) rfl
          clear HS5 HK5 HTD
          go_wp2_with fail
          clear s0 s1 s2 s3 s4 s5 s6 s7
          go_loopw [6, 40] (fun ov iv wx => ∃ (j : Nat) (o : ByteArray), j ≤ 8 ∧ ov = .string o ∧ iv = .int .i64 (j : Int) ∧ Hid (o.data.toList = (V.list.take j).flatMap fun x => hexN 8 x.toNat) ∧ o.size ≤ 8 * j ∧ Hid (Below S w wx) ∧ Hid (TzT wx)) (fun _ iv _ => 8 - (intOf iv).toNat)
          case atStart => exact ⟨0, ⟨#[]⟩, by omega, rfl, rfl, hide rfl, by decide, HB5, HT5⟩
          case round =>
            clear HB5 HT5
            obtain ⟨j, o, hj, rfl, rfl, HO, hos, HB6, HT6⟩ := hrel
            by_cases hj8 : j < 8
            · have h1 : (j : Int) < 8 := by omega
              have hix : ∃ x, V.list[j]? = some x ∧ ∀ W, (Instr.index 68 (.agg #[.int .u32 ((V.a.toNat : Nat) : Int), .int .u32 ((V.b.toNat : Nat) : Int), .int .u32 ((V.c.toNat : Nat) : Int), .int .u32 ((V.d.toNat : Nat) : Int), .int .u32 ((V.e.toNat : Nat) : Int), .int .u32 ((V.f.toNat : Nat) : Int), .int .u32 ((V.g.toNat : Nat) : Int), .int .u32 ((V.h.toNat : Nat) : Int)]) (.int .i64 (j : Int))).run Tryd.prog W = .ok (.int .u32 ((x.toNat : Nat) : Int)) W := by
                rcases (show j = 0 ∨ j = 1 ∨ j = 2 ∨ j = 3 ∨ j = 4 ∨ j = 5 ∨ j = 6 ∨ j = 7 by omega) with rfl | rfl | rfl | rfl | rfl | rfl | rfl | rfl
                · exact ⟨V.a, rfl, fun W => by kernel_rfl⟩
                · exact ⟨V.b, rfl, fun W => by kernel_rfl⟩
                · exact ⟨V.c, rfl, fun W => by kernel_rfl⟩
                · exact ⟨V.d, rfl, fun W => by kernel_rfl⟩
                · exact ⟨V.e, rfl, fun W => by kernel_rfl⟩
                · exact ⟨V.f, rfl, fun W => by kernel_rfl⟩
                · exact ⟨V.g, rfl, fun W => by kernel_rfl⟩
                · exact ⟨V.h, rfl, fun W => by kernel_rfl⟩
              obtain ⟨x, hx, hix⟩ := hix
              have hxl := wi_lt x
              have hcr := fun W h => crcText_any x.toNat W hxl h
              obtain ⟨q, hq⟩ : ∃ q, mkB (hexN 8 x.toNat) = q := ⟨_, rfl⟩
              have hqs : q.size = 8 := by rw [← hq, mkB_size, hexN_len]
              have hcat : ¬ (9223372036854775807 < o.size + q.size) := by omega
              obtain ⟨o2, ho2⟩ : ∃ z, o ++ q = z := ⟨_, rfl⟩
              have HO2 : Hid (o2.data.toList = (V.list.take (j + 1)).flatMap fun x => hexN 8 x.toNat) := hide (by
                have hjl := (List.getElem?_eq_some_iff.1 hx).1
                have hje := (List.getElem?_eq_some_iff.1 hx).2
                rw [← ho2, ByteArray.data_append, Array.toList_append, HO.out, List.take_succ_eq_append_getElem hjl, List.flatMap_append, hje, ← hq]
                simp [mkB])
              have hos2 : o2.size ≤ 8 * (j + 1) := by rw [← ho2, ByteArray.size_append]; omega
              rw [hq] at hcr
              have HCR := hide hcr
              clear hx hq hcr hxl
              go_wp2_with fail
              refine (HCR.out _ HT6.out).mono ?_
              rintro e w6 ⟨rfl, hb6⟩
              have HT7 := hide (HT6.out.below hb6)
              have HB7 : Hid (Below S w w6) := hide (HB6.out.trans (hb6.mono (by have h1 := HB6.out.size; have h2 := HSS.out; omega)))
              clear hb6
              go_wp2_with fail
              go_roundw
              case rel => exact ⟨j + 1, o2, by omega, by trivial, by go_num, HO2, hos2, HB7, HT7⟩
              case measure => simp [intOf]; omega
            · obtain rfl : j = 8 := by omega
              have HF : Hid (mkB (sha8 s.data.toList) = o) := hide (by
                rw [HSHA.out]
                have h := HO.out
                rw [show V.list.take 8 = V.list from rfl] at h
                rw [← h, mkB_list])
              go_wp2_with fail
              go_ret
              exact ⟨by rw [HF.out]; rfl, by rw [← HSS.out] at HB6; exact HB6.out⟩
end Go.Proofs.YtinpgnekjebipaaDoor
