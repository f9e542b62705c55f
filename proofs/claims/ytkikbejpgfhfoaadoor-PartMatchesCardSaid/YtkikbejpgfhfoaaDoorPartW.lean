/- text.Part: parted, units. -/
import Derived.Test.YtkikbejpgfhfoaaDoorPartP0
import Derived.Test.YtkikbejpgfhfoaaDoorValid
import Derived.Test.YtkikbejpgfhfoaaDoorJoinW
set_option linter.unusedVariables false
set_option linter.unusedSimpArgs false
namespace Go.Pw
open Go.RowKit
def fromP (k : Int) (n size : Nat) : Nat := if k = 1 ∨ k = 2 then 0 else if k = 3 then size - n else min (n - 1) size
def toP (k : Int) (n size : Nat) : Nat := if k = 1 then min n size else if k = 2 then size - n else size
theorem fromP_le (k : Int) (n size : Nat) : fromP k n size ≤ toP k n size ∧ toP k n size ≤ size := by
  unfold fromP toP
  split
  · rename_i h
    rcases h with rfl | rfl
    · simp <;> omega
    · simp <;> omega
  · rename_i h
    have h1 : ¬ k = 1 := fun e => h (.inl e)
    have h2 : ¬ k = 2 := fun e => h (.inr e)
    rw [if_neg h1, if_neg h2]
    split <;> omega
theorem ret_two {k1 k2 : IntKind} {a a' b b' : Int} (h1 : a = a') (h2 : b = b') : Ending.returned (.tuple #[.int k1 a, .int k2 b]) = .returned (.tuple #[.int k1 a', .int k2 b']) := by rw [h1, h2]
end Go.Pw
namespace Go.Proofs.YtkikbejpgfhfoaaDoor
open Go.RowKit Go.Pw
set_option maxHeartbeats 1000000 in
set_option maxRecDepth 100000 in
theorem parted_any (k : Int) (b : Bool) (n size : Nat) (w : World) (hk1 : 1 ≤ k) (hk2 : k ≤ 4) (hn : n ≤ 65536) (hs : size ≤ 1000000) :
    Calls Tryd.prog 86 #[.agg #[.int .i64 k, .bool b, .int .i64 (n : Int)], .int .i64 (size : Int)] w fun e w' => e = .returned (.tuple #[.int .i64 (fromP k n size : Int), .int .i64 (toP k n size : Int)]) ∧ Below w.heap.size w w' := by
  have hB := hide ((Below.refl w.heap.size w).alloc (Nat.le_refl _) (.cells #[.int .i64 k, .bool b, .int .i64 (n : Int)] 71))
  have c2 : (w.alloc (.cells #[.int .i64 k, .bool b, .int .i64 (n : Int)] 71)).cell? ⟨w.heap.size, 2, none⟩ = some (.int .i64 (n : Int)) := by rw [World.cell?_alloc_new]; rfl
  rcases (by omega : k = 1 ∨ k = 2 ∨ k = 3 ∨ k = 4) with rfl | rfl | rfl | rfl
  · have HF : Hid (fromP 1 n size = 0) := hide (by simp [fromP])
    have HT : Hid (toP 1 n size = min n size) := hide (by simp [toP])
    go_enter Tryd.func86, Tryd.ntmps86
    go_wp2_with fail
    go_region
    all_goals (go_wp2_with fail; go_ret2; exact ⟨ret_two (by rw [HF.out]; rfl) (by rw [HT.out]; omega), below_drewN hB.out _⟩)
  · have HF : Hid (fromP 2 n size = 0) := hide (by simp [fromP])
    have HT : Hid (toP 2 n size = size - n) := hide (by simp [toP])
    have hw : IntKind.i64.wrap ((size : Int) - (n : Int)) = (size : Int) - (n : Int) := IntWalk.i64_in _ (by omega)
    go_enter Tryd.func86, Tryd.ntmps86
    go_wp2_with fail
    go_region
    all_goals (go_wp2_with fail; go_ret2; exact ⟨ret_two (by rw [HF.out]; rfl) (by rw [HT.out]; omega), below_drewN hB.out _⟩)
  · have HF : Hid (fromP 3 n size = size - n) := hide (by simp [fromP])
    have HT : Hid (toP 3 n size = size) := hide (by simp [toP])
    have hw : IntKind.i64.wrap ((size : Int) - (n : Int)) = (size : Int) - (n : Int) := IntWalk.i64_in _ (by omega)
    go_enter Tryd.func86, Tryd.ntmps86
    go_wp2_with fail
    go_ret2
    exact ⟨ret_two (by rw [HF.out]; omega) (by rw [HT.out]), hB.out⟩
  · have HF : Hid (fromP 4 n size = min (n - 1) size) := hide (by simp [fromP])
    have HT : Hid (toP 4 n size = size) := hide (by simp [toP])
    have hw : IntKind.i64.wrap ((n : Int) - 1) = (n : Int) - 1 := IntWalk.i64_in _ (by omega)
    go_enter Tryd.func86, Tryd.ntmps86
    go_wp2_with fail
    go_ret2
    exact ⟨ret_two (by rw [HF.out]; omega) (by rw [HT.out]), hB.out⟩
theorem splitB_splA (s : ByteArray) : Lib.splitB ⟨#[10]⟩ 1 (Lib.countB s ⟨#[10]⟩) s = (splA [] s.data.toList).map mkB := by
  have h := Lib.splitB_data ⟨#[10]⟩ 1 (Lib.countB s ⟨#[10]⟩) s
  have e : Lib.splitK [10] 1 (Lib.count s.data.toList [10]) s.data.toList = splA [] s.data.toList := splitK_splA _ _ (Nat.le_refl _)
  rw [← e]
  show _ = (Lib.splitK (⟨#[10]⟩ : ByteArray).data.toList 1 (Lib.countB s ⟨#[10]⟩) s.data.toList).map mkB
  rw [← h, List.map_map]
  conv => lhs; rw [← List.map_id (Lib.splitB ⟨#[10]⟩ 1 (Lib.countB s ⟨#[10]⟩) s)]
  exact List.map_congr_left fun x _ => (mkB_list x).symm
set_option maxHeartbeats 1000000 in
theorem splitAfter_any (s : ByteArray) (w : World) (hs : s.size ≤ 1000000) :
    Calls Tryd.prog 125 #[.string s, .string ⟨#[10]⟩] w fun e w' => e = .returned (.slice (some ⟨w.heap.size, 0, none⟩) (splA [] s.data.toList).length (splA [] s.data.toList).length) ∧ w' = w.alloc (.cells (((splA [] s.data.toList).map mkB).map Value.string).toArray 9) := by
  have hle := Lib.countB_le ⟨#[10]⟩ (by decide) s.size s (Nat.le_refl _)
  have hlen := Lib.splitB_all ⟨#[10]⟩ (by decide) 1 _ s rfl
  have c := Any.strings_genSplit_core Tryd.lays221 (by kernel_rfl) s ⟨#[10]⟩ 1 (-1) (Lib.countB s ⟨#[10]⟩ + 1) w (by omega) (by decide) (by decide)
    (fun x c _ => (Tryd.strings_Index_one x 10 _).mono fun e w' ⟨h1, h2⟩ => ⟨by rw [h1]; exact congrArg (fun z => Ending.returned (.int .i64 z)) (Lib.index_one _ _).symm, h2⟩)
    ((Tryd.strings_Count_one s 10 w).mono fun e w' ⟨h1, h2⟩ => ⟨by rw [h1]; exact congrArg (fun z : Nat => Ending.returned (.int .i64 (z : Int))) (Lib.count_one _ _).symm, h2⟩)
    (by decide) (by decide) (by rw [if_pos (by decide)]; omega)
  rw [Nat.add_sub_cancel, hlen] at c
  have e2 : Lib.cellsOf (Lib.splitB ⟨#[10]⟩ 1 (Lib.countB s ⟨#[10]⟩) s) (Lib.countB s ⟨#[10]⟩ + 1) = ((Lib.splitB ⟨#[10]⟩ 1 (Lib.countB s ⟨#[10]⟩) s).map Value.string).toArray := by rw [← hlen]; exact Lib.cellsOf_full _
  have e3 : Lib.countB s ⟨#[10]⟩ + 1 = (splA [] s.data.toList).length := by
    rw [splA_len]; exact congrArg (· + 1) (Lib.count_one _ _)
  rw [e2, splitB_splA, e3] at c
  have HC := hide c
  clear c e2 e3 hlen hle
  go_enter Tryd.func125, Tryd.ntmps125
  go_wp2_with fail
  refine HC.out.mono ?_
  rintro e w' ⟨rfl, rfl⟩
  go_wp2_with fail
  go_ret
  exact ⟨rfl, by rw [List.map_map]; rfl⟩
def unitsL (s : ByteArray) : List ByteArray := (uts [] s.data.toList).map mkB
set_option maxHeartbeats 1000000 in
set_option maxRecDepth 100000 in
theorem units_any (s : ByteArray) (w : World) (hs : s.size ≤ 1000000) :
    Calls Tryd.prog 87 #[.string s] w fun e w' => ∃ A c, e = .returned (.slice A (unitsL s).length c) ∧ Strs w' (.slice A (unitsL s).length c) (unitsL s) ∧ Below w.heap.size w w' := by
  have HS := hide (splitAfter_any s w hs)
  obtain ⟨h1, h2⟩ := uts_splA s.data.toList []
  have hne := splA_ne s.data.toList []
  have hcn := List.count_le_length (a := (10 : UInt8)) (l := s.data.toList)
  have hln := splA_len s.data.toList []
  rw [len_size] at hcn
  have hfl : ∀ x ∈ unitsL s, x.size ≤ maxLen := fun x hx => by
    obtain ⟨u, hu, rfl⟩ := List.mem_map.1 hx
    have := List.Sublist.length_le (List.sublist_flatten_of_mem hu)
    rw [uts_flat, List.nil_append, len_size] at this
    rw [mkB_size]; unfold maxLen; omega
  have HFL := hide hfl
  unfold unitsL at HFL ⊢
  obtain ⟨L, hL⟩ : ∃ L, splA [] s.data.toList = L := ⟨_, rfl⟩
  rw [hL] at HS h1 h2 hne hln
  obtain ⟨U, hU⟩ : ∃ U, uts [] s.data.toList = U := ⟨_, rfl⟩
  rw [hU] at h1 h2 HFL ⊢
  clear hL hU hfl
  have hl0 : 0 < L.length := List.length_pos_iff.2 hne
  have hml : L.length ≤ 1000001 := by omega
  have hg : L.getLast? = some (L[L.length - 1]'(by omega)) := by rw [List.getLast?_eq_getElem?, List.getElem?_eq_getElem (by omega)]
  obtain ⟨z, hz⟩ : ∃ z, L[L.length - 1]'(by omega) = z := ⟨_, rfl⟩
  rw [hz] at hg
  rw [hg] at h1 h2
  have c1 : (w.alloc (.cells ((L.map mkB).map Value.string).toArray 9)).cell? ⟨w.heap.size, L.length - 1, none⟩ = some (.string (mkB z)) := by
    rw [World.cell?_alloc_new]
    simp only [List.getElem?_toArray, List.getElem?_map]
    rw [List.getElem?_eq_getElem (by omega), hz]; rfl
  have HW := hide ((Below.refl w.heap.size w).alloc (Nat.le_refl _) (.cells ((L.map mkB).map Value.string).toArray 9))
  have HR : Hid (∀ (M : List ByteArray), M.length ≤ L.length → M = (L.map mkB).take M.length → (∀ x ∈ M, x.size ≤ maxLen) → Strs (w.alloc (.cells ((L.map mkB).map Value.string).toArray 9)) (.slice (some ⟨w.heap.size, 0, none⟩) M.length L.length) M) := hide (fun M h1 h2 h3 => by
    refine ⟨⟨by simp, _, _, rfl, h1, by unfold maxLen; omega, fun _ => ⟨w.heap.size, 0, rfl, by simp, fun j u hu => ?_⟩⟩, h3⟩
    rw [World.cell?_alloc_new]
    have hj := (List.getElem?_eq_some_iff.1 hu).1
    rw [List.length_map] at hj
    rw [h2, List.getElem?_map, List.getElem?_take, if_pos hj] at hu
    simpa using hu)
  obtain ⟨W1, hW1⟩ : ∃ W1, w.alloc (.cells ((L.map mkB).map Value.string).toArray 9) = W1 := ⟨_, rfl⟩
  rw [hW1] at HS c1 HW HR
  have HLm : Hid (L.length ≤ 1000001) := hide hml
  clear hW1 hcn hln hne hg hz
  have f1 : (0 : Int) ≤ (L.length : Int) - 1 := by omega
  have f2 : (L.length : Int) - 1 < (L.length : Int) := by omega
  have f3 : ((L.length : Int) - 1).toNat = L.length - 1 := by omega
  have f4 : IntKind.i64.wrap ((L.length : Int) - 1) = (L.length : Int) - 1 := IntWalk.i64_in _ (by omega)
  have f5 : (1 : Int) ≤ (L.length : Int) := by omega
  have f6 : 1 ≤ L.length := by omega
  by_cases hzz : z = []
  · have HU := hide (h1 (by rw [hzz]))
    have hzz' : mkB z = ⟨#[]⟩ := by rw [hzz]; rfl
    rw [hzz'] at c1
    clear h1 h2 hzz hzz'
    go_enter Tryd.func87, Tryd.ntmps87
    go_wp2_with fail
    refine HS.out.mono ?_
    rintro e w1 ⟨rfl, rfl⟩
    go_wp2_with fail
    go_ret
    have hl : (U.map mkB).length = L.length - 1 := by rw [HU.out, List.length_map, List.length_dropLast]
    refine ⟨some ⟨w.heap.size, 0, none⟩, L.length, by rw [hl]; rfl, ?_, HW.out⟩
    refine HR.out _ (by rw [hl]; omega) ?_ HFL.out
    rw [hl, HU.out, List.dropLast_eq_take, List.map_take]
  · have HU := hide (h2 (fun e => hzz (by injection e)))
    have he := isEmpty_of (s := mkB z) (by rw [mkB_size]; exact List.length_pos_iff.2 hzz)
    clear h1 h2 hzz
    obtain ⟨y, hy⟩ : ∃ y, mkB z = y := ⟨_, rfl⟩
    rw [hy] at c1 he
    clear hy
    go_enter Tryd.func87, Tryd.ntmps87
    go_wp2_with fail
    refine HS.out.mono ?_
    rintro e w1 ⟨rfl, rfl⟩
    go_wp2_with fail
    go_ret
    have hl : (U.map mkB).length = L.length := by rw [HU.out, List.length_map]
    refine ⟨some ⟨w.heap.size, 0, none⟩, L.length, by rw [hl]; rfl, ?_, HW.out⟩
    refine HR.out _ (by rw [hl]; exact Nat.le_refl _) ?_ HFL.out
    rw [hl, HU.out, List.take_of_length_le (by simp)]
/-- l[F:T] of a slice of strings, under one name -/
theorem cut_mid {w : World} {A : Option Addr} {cap F T : Nat} {l : List ByteArray} (h : Strs w (.slice A l.length cap) l) (h1 : F ≤ T) (h2 : T ≤ l.length) :
    ∃ A' cap', (∀ W, (Instr.slice 40 (.slice A l.length cap) (some (.int .i64 (F : Int))) (some (.int .i64 (T : Int))) none).run Tryd.prog W = .ok (.slice A' ((l.drop F).take (T - F)).length cap') W) ∧ Strs w (.slice A' ((l.drop F).take (T - F)).length cap') ((l.drop F).take (T - F)) := by
  have h3 := h.sliced h1 h2
  have hc : l.length ≤ cap := by obtain ⟨⟨_, _, _, hv, hc, _⟩, _⟩ := h; injection hv with _ _ e; omega
  have h4 := h3
  obtain ⟨⟨_, A', cap', e, _⟩, _⟩ := h4
  refine ⟨A', cap', fun W => ?_, ?_⟩
  · rw [← e]
    have e1 : ¬ ((T : Int) < (F : Int)) := by omega
    have e2 : ¬ ((cap : Int) < (T : Int)) := by omega
    have e3 : ¬ ((l.length : Int) < (T : Int)) := by omega
    have e4 : (F : Int) ≤ (T : Int) := by omega
    have e5 : (T : Int) ≤ (cap : Int) := by omega
    have e6 : F ≤ T := h1
    have e7 : T ≤ cap := by omega
    simp [go_sem, e1, e2, e3, e4, e5, e6, e7]
  · rw [← e]; exact h3
/-- what refuses a part -/
def partErr (k n : Int) (s : ByteArray) : Int := firstNZ [if !(decide (1 ≤ k) && decide (k ≤ 4)) then 4 else 0, if !(decide (0 ≤ n) && decide (n ≤ 65536)) then 3 else 0, if bigB s then 2 else 0]
/-- a part of a text -/
def partL (k : Int) (b : Bool) (n : Nat) (l : List UInt8) : List UInt8 :=
  (((pcs b l).drop (fromP k n (pcs b l).length)).take (toP k n (pcs b l).length - fromP k n (pcs b l).length)).flatten
theorem partL_bytes (k : Int) (n : Nat) (s : ByteArray) : mkB (partL k true n s.data.toList) = s.extract (fromP k n s.size) (toP k n s.size) := by
  unfold partL pcs
  rw [if_pos rfl, List.length_map, len_size, ← List.map_drop, ← List.map_take, flat_single, ← mkB_list (s.extract _ _), Lib.extract_data]
theorem sumB_bd {l : List ByteArray} {M n : Nat} (h : ∀ s ∈ l, s.size ≤ M) (hn : l.length ≤ n) : sumB l ≤ n * M := by
  have : sumB l ≤ l.length * M := by
    unfold sumB
    clear hn
    induction l with
    | nil => simp
    | cons x l ih =>
      rw [List.map_cons, List.sum_cons, List.length_cons, Nat.add_mul]
      have h1 := h x (by simp)
      have h2 := ih (fun s hs => h s (List.mem_cons_of_mem x hs))
      omega
  exact Nat.le_trans this (Nat.mul_le_mul hn (Nat.le_refl _))
theorem unitsL_ok (s : ByteArray) : (unitsL s).length ≤ s.size ∧ ∀ x ∈ unitsL s, x.size ≤ s.size := by
  unfold unitsL
  constructor
  · rw [List.length_map]
    have := uts_len s.data.toList []
    rw [len_size] at this
    simpa using this
  · intro x hx
    obtain ⟨u, hu, rfl⟩ := List.mem_map.1 hx
    have := List.Sublist.length_le (List.sublist_flatten_of_mem hu)
    rw [uts_flat, List.nil_append, len_size] at this
    rw [mkB_size]; exact this
theorem partL_units (k : Int) (n : Nat) (s : ByteArray) : mkB (partL k false n s.data.toList) = jnB ⟨#[]⟩ (((unitsL s).drop (fromP k n (unitsL s).length)).take (toP k n (unitsL s).length - fromP k n (unitsL s).length)) := by
  unfold jnB
  rw [jnP_none _ _ (Nat.le_refl _), List.take_length]
  unfold partL pcs unitsL
  rw [if_neg (by simp), List.length_map, ← List.map_drop, ← List.map_take, List.map_map]
  congr 2
  conv => lhs; rw [← List.map_id (List.take _ _)]
  exact List.map_congr_left fun x _ => rfl
set_option maxHeartbeats 1000000 in
set_option maxRecDepth 100000 in
theorem part_good (k : Int) (b : Bool) (n : Nat) (s : ByteArray) (w : World) (hk1 : 1 ≤ k) (hk2 : k ≤ 4) (hn : n ≤ 65536) (hb : bigB s = false) :
    Calls Tryd.prog 43 #[.agg #[.int .i64 k, .bool b, .int .i64 (n : Int)], .string s] w fun e w' => e = .returned (.tuple #[.string (mkB (partL k b n s.data.toList)), .int .i64 0]) ∧ Below w.heap.size w w' := by
  have hsz : s.size ≤ 65536 := by unfold bigB at hb; simp at hb; omega
  have HLG := hide (fun W => large_any s W (by omega))
  simp only [hb] at HLG
  have c0 : (w.alloc (.cells #[.int .i64 k, .bool b, .int .i64 (n : Int)] 71)).cell? ⟨w.heap.size, 0, none⟩ = some (.int .i64 k) := by rw [World.cell?_alloc_new]; rfl
  have c1 : (w.alloc (.cells #[.int .i64 k, .bool b, .int .i64 (n : Int)] 71)).cell? ⟨w.heap.size, 1, none⟩ = some (.bool b) := by rw [World.cell?_alloc_new]; rfl
  have c2 : (w.alloc (.cells #[.int .i64 k, .bool b, .int .i64 (n : Int)] 71)).cell? ⟨w.heap.size, 2, none⟩ = some (.int .i64 (n : Int)) := by rw [World.cell?_alloc_new]; rfl
  have hw1 : decide ((1 : Int) ≤ k) = true := by simpa using hk1
  have hw2 : decide (k ≤ 4) = true := by simpa using hk2
  have hw3 : decide ((0 : Int) ≤ (n : Int)) = true := by simp
  have hw4 : decide ((n : Int) ≤ 65536) = true := by simp; omega
  have HB0 := hide ((Below.refl w.heap.size w).alloc (Nat.le_refl _) (.cells #[.int .i64 k, .bool b, .int .i64 (n : Int)] 71))
  have hz0 : (w.alloc (.cells #[.int .i64 k, .bool b, .int .i64 (n : Int)] 71)).heap.size = w.heap.size + 1 := by simp
  clear hb
  go_enter Tryd.func43, Tryd.ntmps43
  go_wp2_with fail
  obtain ⟨W1, hW1⟩ : ∃ W1, w.alloc (.cells #[.int .i64 k, .bool b, .int .i64 (n : Int)] 71) = W1 := ⟨_, rfl⟩
  rw [hW1] at HB0 c0 c1 c2 hz0 ⊢
  have HZ0 := hide hz0
  clear hW1 hz0
  refine (within_any _ _ _ _).mono ?_
  rintro e w' ⟨rfl, rfl⟩
  rw [hw1, hw2]
  go_wp2_with fail
  refine (within_any _ _ _ _).mono ?_
  rintro e w' ⟨rfl, rfl⟩
  rw [hw3, hw4]
  go_wp2_with fail
  refine (HLG.out _).mono ?_
  rintro e w2 ⟨rfl, hb2⟩
  have hz1 := HZ0.out
  have HB2 := hide (HB0.out.trans (hb2.mono HB0.out.size))
  have d0 : w2.cell? ⟨w.heap.size, 0, none⟩ = some (.int .i64 k) := (hb2.cell (p := ⟨w.heap.size, 0, none⟩) (by show w.heap.size < _; omega)).trans c0
  have d1 : w2.cell? ⟨w.heap.size, 1, none⟩ = some (.bool b) := (hb2.cell (p := ⟨w.heap.size, 1, none⟩) (by show w.heap.size < _; omega)).trans c1
  have d2 : w2.cell? ⟨w.heap.size, 2, none⟩ = some (.int .i64 (n : Int)) := (hb2.cell (p := ⟨w.heap.size, 2, none⟩) (by show w.heap.size < _; omega)).trans c2
  clear hb2 c0 c1 c2 hz1
  cases b
  · have hul := unitsL_ok s
    have HPE := hide (partL_units k n s)
    go_wp2_with fail
    refine (units_any s _ (by omega)).mono ?_
    rintro e w3 ⟨A, c, rfl, hst, hb3⟩
    have hlt2 : w.heap.size < w2.heap.size := World.block_lt_of_cell? w2 ⟨w.heap.size, 0, none⟩ d0
    have HB3 := hide (HB2.out.trans (hb3.mono HB2.out.size))
    have f0 : w3.cell? ⟨w.heap.size, 0, none⟩ = some (.int .i64 k) := (hb3.cell (p := ⟨w.heap.size, 0, none⟩) hlt2).trans d0
    have f1 : w3.cell? ⟨w.heap.size, 1, none⟩ = some (.bool false) := (hb3.cell (p := ⟨w.heap.size, 1, none⟩) hlt2).trans d1
    have f2 : w3.cell? ⟨w.heap.size, 2, none⟩ = some (.int .i64 (n : Int)) := (hb3.cell (p := ⟨w.heap.size, 2, none⟩) hlt2).trans d2
    obtain ⟨L, hL⟩ : ∃ L, unitsL s = L := ⟨_, rfl⟩
    rw [hL] at hul hst HPE ⊢
    have hle := fromP_le k n L.length
    have HST := hide hst
    have HUL := hide hul
    have hll : L.length ≤ 65536 := by omega
    clear d0 d1 d2 hb3 hL hst hul
    go_wp2_with fail
    refine (parted_any k false n L.length w3 hk1 hk2 hn (by omega)).mono ?_
    rintro e w4 ⟨rfl, hb4⟩
    have HB4 := hide (HB3.out.trans (hb4.mono HB3.out.size))
    have HS2 := hide (HST.out.below hb4)
    clear hb4 f0 f1 f2
    obtain ⟨F, hF⟩ : ∃ F, fromP k n L.length = F := ⟨_, rfl⟩
    obtain ⟨T, hT⟩ : ∃ T, toP k n L.length = T := ⟨_, rfl⟩
    rw [hF, hT] at hle HPE ⊢
    clear hF hT
    obtain ⟨hle1, hle2⟩ := hle
    obtain ⟨A3, c3, HA3, hs3⟩ := cut_mid HS2.out hle1 hle2
    have HSM : Hid (sumB ((L.drop F).take (T - F)) ≤ 65536 * 65536) := hide (sumB_bd (fun x hx => by have := HUL.out.2 x (List.mem_of_mem_drop (List.mem_of_mem_take hx)); omega) (by rw [List.length_take, List.length_drop]; omega))
    have HLN : Hid (((L.drop F).take (T - F)).length ≤ 65536) := hide (by rw [List.length_take, List.length_drop]; omega)
    have HJ := hide (join_any _ _ ⟨#[]⟩ w4 hs3 (by have := HSM.out; omega) (by decide) (by have := HLN.out; omega))
    rw [← HPE.out] at HJ
    obtain ⟨n3, hn3⟩ : ∃ n3, ((L.drop F).take (T - F)).length = n3 := ⟨_, rfl⟩
    simp only [hn3] at HA3 HJ
    clear hs3 hle1 hle2 hn3
    go_wp2_with fail
    refine HJ.out.mono ?_
    rintro e w5 ⟨rfl, hb5⟩
    have HB5 := hide (HB4.out.trans (hb5.mono HB4.out.size))
    clear hb5 HJ
    go_wp2_with fail
    go_ret2
    exact ⟨rfl, HB5.out⟩
  · have hle := fromP_le k n s.size
    have HPE := hide (partL_bytes k n s)
    go_wp2_with fail
    refine (parted_any k true n s.size w2 hk1 hk2 hn (by omega)).mono ?_
    rintro e w4 ⟨rfl, hb4⟩
    have HB4 := hide (HB2.out.trans (hb4.mono HB2.out.size))
    clear hb4 d0 d1 d2
    obtain ⟨F, hF⟩ : ∃ F, fromP k n s.size = F := ⟨_, rfl⟩
    obtain ⟨T, hT⟩ : ∃ T, toP k n s.size = T := ⟨_, rfl⟩
    rw [hF, hT] at hle HPE ⊢
    clear hF hT
    obtain ⟨hle1, hle2⟩ := hle
    have g1 : (F : Int) ≤ (T : Int) := by omega
    have g2 : (T : Int) ≤ (s.size : Int) := by omega
    go_wp2_with fail
    go_ret2
    exact ⟨by rw [HPE.out]; rfl, HB4.out⟩
end Go.Proofs.YtkikbejpgfhfoaaDoor
