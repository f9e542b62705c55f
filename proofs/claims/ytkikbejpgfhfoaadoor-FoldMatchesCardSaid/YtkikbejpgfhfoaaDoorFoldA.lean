/- strings.LastIndexAny at tab and blank: one past the last of them, less one. -/
import Derived.Test.YtkikbejpgfhfoaaDoorFoldP0
import Derived.Test.YtkikbejpgfhfoaaDoorShelf2
import Derived.Laws.RangeString
import Derived.Laws.Runes
import Derived.Laws.Strings3
import Derived.Laws.Cover4
import Derived.Deep.LoopGhost
import Derived.Deep.WholeRow
import Derived.BigQuiet
import Derived.WalkMore
set_option linter.unusedVariables false
set_option linter.unusedSimpArgs false
namespace Go.Proofs.YtkikbejpgfhfoaaDoor
open Go.RowKit Go.Pw Go.Shelf
theorem isBl_ix (x : UInt8) : isBl x = decide ((0 : Int) ≤ Lib.indexByte [9, 32] x) := by
  rw [← Lib.contains_iff_indexByte]
  unfold isBl
  simp [List.contains, List.elem]
  rcases h1 : x == 9 with _ | _ <;> rcases h2 : x == 32 with _ | _ <;> rfl
theorem isBl_high {x : UInt8} (h : 128 ≤ x.toNat) : isBl x = false := by
  unfold isBl
  rw [Bool.or_eq_false_iff]
  constructor <;> rw [beq_eq_false_iff_ne] <;> rintro rfl
  · exact absurd h (by decide)
  · exact absurd h (by decide)
theorem indexRune_low (x : UInt8) (hx : x.toNat < 128) (w : World) : Calls Tryd.prog 118 #[.string ⟨#[9, 32]⟩, .int .i32 (x.toNat : Int)] w fun e w' => ∃ k : Int, e = .returned (.int .i64 k) ∧ isBl x = decide ((0 : Int) ≤ k) ∧ Below w.heap.size w w' := by
  refine (Tryd.strings_IndexRune_ascii ⟨#[9, 32]⟩ (x.toNat : Int) w (by omega) (by omega)).mono ?_
  rintro e w' ⟨rfl, rfl⟩
  have hback : ((x.toNat : Int)).toNat.toUInt8 = x := by simp
  rw [hback]
  exact ⟨_, rfl, isBl_ix x, Below.refl _ _⟩
set_option maxHeartbeats 4000000 in
set_option maxRecDepth 1000000 in
theorem indexRune_err (w : World) : Calls Tryd.prog 118 #[.string ⟨#[9, 32]⟩, .int .i32 65533] w fun e w' => e = .returned (.int .i64 (-1)) ∧ Below w.heap.size w w' := by
  go_enter Tryd.func118, Tryd.ntmps118
  go_wp2_with fail
  go_loopg [5, 6] 2 (fun g _ _ wx => ∃ i : Nat, i + g = 2 ∧ wx = w.iter ⟨#[9, 32]⟩ i)
  case atStart => exact ⟨0, by omega, rfl⟩
  case round =>
    obtain ⟨i, hig, rfl⟩ := hrel
    cases gk with
    | zero =>
      obtain rfl : i = 2 := by omega
      have hnx := fun ty => run_next_end (P := Tryd.prog) w ⟨#[9, 32]⟩ 2 ty (by decide)
      go_wp2_with fail
      go_ret
      exact ⟨rfl, (Below.refl _ _).alloc (Nat.le_refl _) _⟩
    | succ g =>
      rcases (show i = 0 ∨ i = 1 by omega) with rfl | rfl
      · have hnx : ∀ ty, (Instr.next (.pointer (some ⟨w.heap.size, 0, none⟩)) true ty).run Tryd.prog (w.iter ⟨#[9, 32]⟩ 0) = .ok (.tuple #[.bool true, .int .i64 0, .int .i32 9]) (w.iter ⟨#[9, 32]⟩ 1) := fun ty => run_next_ascii (P := Tryd.prog) w ⟨#[9, 32]⟩ 0 ty (by decide) (by decide)
        go_wp2_with fail
        go_roundg g
        case measure => omega
        case rel => exact ⟨1, by omega, rfl⟩
      · have hnx : ∀ ty, (Instr.next (.pointer (some ⟨w.heap.size, 0, none⟩)) true ty).run Tryd.prog (w.iter ⟨#[9, 32]⟩ 1) = .ok (.tuple #[.bool true, .int .i64 1, .int .i32 32]) (w.iter ⟨#[9, 32]⟩ 2) := fun ty => run_next_ascii (P := Tryd.prog) w ⟨#[9, 32]⟩ 1 ty (by decide) (by decide)
        go_wp2_with fail
        go_roundg g
        case measure => omega
        case rel => exact ⟨2, by omega, rfl⟩
set_option maxHeartbeats 4000000 in
set_option maxRecDepth 1000000 in
theorem indexRune_two (r : Nat) (h : 128 ≤ r) (hv : Utf8.valid (r : Nat) = true) (he : r ≠ 65533) (a b : UInt8) (hab : Utf8.encode (r : Nat) = ⟨#[a, b]⟩) (hb : 128 ≤ b.toNat) (w : World) : Calls Tryd.prog 118 #[.string ⟨#[9, 32]⟩, .int .i32 (r : Int)] w fun e w' => e = .returned (.int .i64 (-1)) ∧ Below w.heap.size w w' := by
  have hr : ¬ ((r : Int) < 128) := by omega
  have h0 : (0 : Int) ≤ (r : Int) := by omega
  have hne : ((r : Int) == 65533) = false := beq_eq_false_iff_ne.2 (by omega)
  have hva : Lib.validRune (r : Int) = true := by
    unfold Utf8.valid at hv
    unfold Lib.validRune
    simp only [Bool.or_eq_true, Bool.and_eq_true, decide_eq_true_eq] at hv ⊢
    omega
  have hcv : ∀ w : World, (convert 21 9 (.int .i32 (r : Int))).run Tryd.prog w = .ok (.string ⟨#[a, b]⟩) w := fun w => by
    rw [run_convert_int_string w 21 9 .i32 (r : Int) (by kernel_rfl) Tryd.underlying9, hab]
  obtain ⟨S, hS⟩ : ∃ S : ByteArray, (⟨#[9, 32]⟩ : ByteArray) = S := ⟨_, rfl⟩
  obtain ⟨B, hB⟩ : ∃ B : ByteArray, (⟨#[a, b]⟩ : ByteArray) = B := ⟨_, rfl⟩
  have hSz : S.size = 2 := by rw [← hS]; rfl
  have hBz : B.size = 2 := by rw [← hB]; rfl
  obtain ⟨x, hx⟩ : ∃ x : UInt8, S[1]'(by omega) = x := ⟨_, rfl⟩
  obtain ⟨y, hy⟩ : ∃ y : UInt8, B[1]'(by omega) = y := ⟨_, rfl⟩
  have hxy : ((x.toNat : Int) != (y.toNat : Int)) = true := by
    subst hS hB
    have e1 : x = 32 := hx.symm
    have e2 : y = b := hy.symm
    rw [e1, e2]
    have : (32 : UInt8).toNat = 32 := rfl
    simp only [bne_iff_ne, ne_eq]
    omega
  have hix : Lib.indexByte ByteArray.empty.data.toList ((y.toNat : Int)).toNat.toUInt8 = -1 := rfl
  rw [hS]
  simp only [hB] at hcv
  clear hS hB hab hb
  have hback : ((y.toNat : Int)).toNat.toUInt8 = y := by simp
  have hS1 : (1 : Int) < (S.size : Int) := by omega
  have hS2 : (2 : Int) ≤ (S.size : Int) := by omega
  have hwr : IntKind.i64.wrap 2 = 2 := by decide
  have hB1 : (B.size : Int) - 1 = 1 := by omega
  go_enter Tryd.func118, Tryd.ntmps118
  go_wp2_with fail
  refine (Tryd.utf8_ValidRune _ _).mono ?_
  rintro e w' ⟨rfl, rfl⟩
  rw [hva]
  go_wp2_with fail
  apply wp_scope_straight
  go_wp2_with fail
  refine wp_loop_once ?_
  go_wp2_with fail
  apply wp_scope_straight
  go_wp2_with fail
  go_quiet (fail)
  have hbw : Below w'.heap.size w' (w'.drewN nq) := ⟨rfl, rfl, rfl, Nat.le_refl _, fun _ _ => rfl⟩
  obtain ⟨W1, hW1⟩ : ∃ W1, w'.drewN nq = W1 := ⟨_, rfl⟩
  rw [hW1] at hbw ⊢
  clear hW1
  go_wp2_with fail
  go_quiet ((go_at_call 150; exact Calls.quiet_of_same (Tryd.strings_IndexByte _ _ _)))
  rw [hix]
  go_wp2_with fail
  simp +zetaDelta only [Exit.noGoto_ret, Exit.inBlock, Exit.then]
  go_ret
  exact ⟨rfl, ⟨hbw.os, hbw.tape, hbw.output, hbw.size, hbw.block⟩⟩
set_option maxHeartbeats 4000000 in
set_option maxRecDepth 1000000 in
theorem indexRune_more (r : Nat) (h : 128 ≤ r) (hv : Utf8.valid (r : Nat) = true) (he : r ≠ 65533) (h3 : 3 ≤ (Utf8.encode (r : Nat)).size) (w : World) : Calls Tryd.prog 118 #[.string ⟨#[9, 32]⟩, .int .i32 (r : Int)] w fun e w' => e = .returned (.int .i64 (-1)) ∧ w' = w := by
  have hr : ¬ ((r : Int) < 128) := by omega
  have h0 : (0 : Int) ≤ (r : Int) := by omega
  have hne : ((r : Int) == 65533) = false := beq_eq_false_iff_ne.2 (by omega)
  have hva : Lib.validRune (r : Int) = true := by
    unfold Utf8.valid at hv
    unfold Lib.validRune
    simp only [Bool.or_eq_true, Bool.and_eq_true, decide_eq_true_eq] at hv ⊢
    omega
  have h4 := encode_size_le (r : Int)
  obtain ⟨S, hS⟩ : ∃ S : ByteArray, (⟨#[9, 32]⟩ : ByteArray) = S := ⟨_, rfl⟩
  have hSz : S.size = 2 := by rw [← hS]; rfl
  obtain ⟨B, hB⟩ : ∃ B : ByteArray, Utf8.encode (r : Int) = B := ⟨_, rfl⟩
  have hcv : ∀ w : World, (convert 21 9 (.int .i32 (r : Int))).run Tryd.prog w = .ok (.string B) w := fun w => by
    rw [run_convert_int_string w 21 9 .i32 (r : Int) (by kernel_rfl) Tryd.underlying9, hB]
  rw [hS]
  rw [hB] at h3 h4
  clear hS hB
  have hlt : ¬ ((B.size : Int) - 1 < (S.size : Int)) := by omega
  go_enter Tryd.func118, Tryd.ntmps118
  go_wp2_with fail
  refine (Tryd.utf8_ValidRune _ _).mono ?_
  rintro e w' ⟨rfl, rfl⟩
  rw [hva]
  go_wp2_with fail
  apply wp_scope_straight
  go_wp2_with fail
  refine wp_loop_once ?_
  go_wp2_with fail
  simp +zetaDelta only [Exit.noGoto_ret, Exit.inBlock, Exit.then]
  go_ret
  exact ⟨rfl, rfl⟩
theorem useSet_any (n : Int) (w : World) : Calls Tryd.prog 119 #[.int .i64 n] w fun e w' => e = .returned (.bool (decide (8 < n))) ∧ w' = w := by
  go_enter Tryd.func119, Tryd.ntmps119
  go_wp2_with fail
  go_ret
  exact ⟨rfl, rfl⟩
theorem indexRune_high (r : Nat) (h : 128 ≤ r) (hv : Utf8.valid (r : Nat) = true) (w : World) : Calls Tryd.prog 118 #[.string ⟨#[9, 32]⟩, .int .i32 (r : Int)] w fun e w' => e = .returned (.int .i64 (-1)) ∧ Below w.heap.size w w' := by
  by_cases he : r = 65533
  · subst he
    exact indexRune_err w
  · rcases encode_high h hv with ⟨a, b, hab, hb⟩ | h3
    · exact indexRune_two r h hv he a b hab hb w
    · exact (indexRune_more r h hv he h3 w).mono fun e w' ⟨h1, h2⟩ => ⟨h1, h2 ▸ Below.refl _ _⟩
set_option maxHeartbeats 8000000 in
set_option maxRecDepth 1000000 in
theorem lastAny_long (s : ByteArray) (w : World) (h8 : 8 < s.size) (hs : s.size < 4294967281) :
    Calls Tryd.prog 79 #[.string s, .string ⟨#[9, 32]⟩] w fun e w' => e = .returned (.int .i64 ((lastB s s.size : Int) - 1)) ∧ Below w.heap.size w w' := by
  have hv : ∀ w, (zeroValue 151).run Tryd.prog w = .ok (.agg (Array.replicate 256 (.bool false))) w := fun w => by kernel_rfl
  have hi : (Tryd.prog.info? 151).map (·.size) = some 256 := by kernel_rfl
  have hM := Tryd.strings_makeASCIISet hv ⟨#[9, 32]⟩ w (by decide) (by
    intro j b hj
    rcases j with _ | _ | j
    · simp at hj; subst hj; decide
    · simp at hj; subst hj; decide
    · simp at hj)
  obtain ⟨K, hK⟩ : ∃ K, Lib.setCells [9, 32] = K := ⟨_, rfl⟩
  have hsz : K.size = 256 := by rw [← hK]; exact Lib.setCells_size _
  have hone := Lib.setCells_one [9, 32]
  have hat := fun x : UInt8 => Lib.setCells_at [9, 32] x
  simp only [hK] at hM hone hat
  clear hK
  have h8z : decide ((8 : Int) < (s.size : Int)) = true := decide_eq_true (by omega)
  have hn1 : ((s.size : Int) == 1) = false := beq_eq_false_iff_ne.2 (by omega)
  have hsc : (storeCells ⟨w.heap.size + 1, 0, none⟩ K.toList 0).run Tryd.prog ((w.alloc (.cells K 151)).alloc (.cells (Array.replicate 256 (.bool false)) 151)) = .ok () ((w.alloc (.cells K 151)).alloc (.cells K 151)) := by
    have := run_storeCells_new (P := Tryd.prog) (w.alloc (.cells K 151)) 151 (Array.replicate 256 (.bool false)) K (by rw [hsz]; exact hi) (by rw [hsz, Array.size_replicate]) hone
    simpa using this
  have HC : Hid (∀ x : UInt8, ((w.alloc (.cells K 151)).alloc (.cells K 151)).cell? ⟨w.heap.size + 1, x.toNat, none⟩ = some (.bool (isBl x))) := hide fun x => by
    rw [World.cell?_alloc_at _ _ _ _ (by simp), hat, isBl_ix, Lib.contains_iff_indexByte]
  clear hat
  go_enter Tryd.func79, Tryd.ntmps79
  go_wp2_with (first
    | (go_at_call 119; refine (useSet_any _ _).mono ?_; rintro e w' ⟨rfl, hw⟩; rw [hw, h8z])
    | (go_at_call 120; refine hM.mono ?_; rintro e w' ⟨rfl, hw⟩; rw [hw]))
  clear hM hsc hone
  obtain ⟨W2, hW2⟩ : ∃ W2, (w.alloc (.cells K 151)).alloc (.cells K 151) = W2 := ⟨_, rfl⟩
  have HB2 : Hid (Below w.heap.size w W2) := hide (by rw [← hW2]; exact ((Below.refl _ _).alloc (Nat.le_refl _) _).alloc (by simp) _)
  rw [hW2] at HC ⊢
  clear hW2
  go_loopg [8] s.size (fun g s8 wx => ∃ v : Int, s8 = .int .i64 v ∧ v = (g : Int) - 1 ∧ g ≤ s.size ∧ wx = W2 ∧ lastB s s.size = lastB s g)
  case atStart => exact ⟨_, rfl, rfl, Nat.le_refl _, rfl, rfl⟩
  case round =>
    obtain ⟨v, rfl, hv8, hgs, rfl, hl⟩ := hrel
    have HL := hide hl
    clear hl
    cases gk with
    | zero =>
      obtain rfl : v = -1 := by omega
      clear hv8
      go_wp2_with fail
      go_ret
      exact ⟨by rw [HL.out]; rfl, HB2.out⟩
    | succ g =>
      obtain rfl : v = (g : Int) := by omega
      clear hv8
      have hi : g < s.size := by omega
      have hge : (0 : Int) ≤ (g : Int) := by omega
      have hiz : (g : Int) < (s.size : Int) := by omega
      obtain ⟨x, hx⟩ : ∃ x : UInt8, s[g]'hi = x := ⟨_, rfl⟩
      have hxg : s.get! g = x := by
        rw [get!_eq hi, ← hx]
        rfl
      have hnx : lastB s (g + 1) = if isBl x = true then g + 1 else lastB s g := by
        show (if isBl (s.get! g) = true then g + 1 else lastB s g) = _
        rw [hxg]
      have hcx := HC.out x
      cases hb : isBl x <;> rw [hb] at hcx hnx
      · rw [if_neg (by decide)] at hnx
        go_wp2_with (go_at_call 121; refine (Tryd.asciiSet_contains _ x _ _ hcx).mono ?_; rintro e w' ⟨rfl, hw⟩; rw [hw])
        go_roundg g
        case measure => omega
        case rel => exact ⟨_, rfl, by first | rfl | simp, by omega, rfl, by rw [HL.out, hnx]⟩
      · rw [if_pos rfl] at hnx
        go_wp2_with (go_at_call 121; refine (Tryd.asciiSet_contains _ x _ _ hcx).mono ?_; rintro e w' ⟨rfl, hw⟩; rw [hw])
        go_ret
        exact ⟨by rw [HL.out, hnx]; simp, HB2.out⟩
set_option maxHeartbeats 8000000 in
set_option maxRecDepth 1000000 in
theorem lastAny_short (s : ByteArray) (w : World) (h8 : s.size ≤ 8) (hn : s.size ≠ 1) (hT : Lib.Utf8Tabs 1 2 w) :
    Calls Tryd.prog 79 #[.string s, .string ⟨#[9, 32]⟩] w fun e w' => e = .returned (.int .i64 ((lastB s s.size : Int) - 1)) ∧ Below w.heap.size w w' := by
  have HT := hide hT
  have h8z : decide ((8 : Int) < (s.size : Int)) = false := decide_eq_false (by omega)
  have hn1 : ((s.size : Int) == 1) = false := beq_eq_false_iff_ne.2 (by omega)
  clear hT
  go_enter Tryd.func79, Tryd.ntmps79
  go_wp2_with (go_at_call 119; refine (useSet_any _ _).mono ?_; rintro e w' ⟨rfl, hw⟩; rw [hw, h8z])
  go_loopw [13] (fun v wr => ∃ i : Nat, v = .int .i64 (i : Int) ∧ i ≤ s.size ∧ Below w.heap.size w wr ∧ lastB s s.size = lastB s i) (fun v _ => (intOf v).toNat)
  case atStart => exact ⟨s.size, rfl, Nat.le_refl _, Below.refl _ _, rfl⟩
  case round =>
    obtain ⟨i, rfl, hi, hb, hl⟩ := hrel
    have HB := hide hb
    have HL := hide hl
    clear hb hl
    cases i with
    | zero =>
      go_wp2_with fail
      go_ret
      exact ⟨by rw [HL.out]; rfl, HB.out⟩
    | succ i =>
      have hd : (0 : Int) < ((i + 1 : Nat) : Int) := by omega
      have hes : (s.extract 0 (i + 1)).size = i + 1 := by rw [ByteArray.size_extract]; omega
      have hlast : (s.extract 0 (i + 1)).get! i = s.get! i := by rw [get!_extract hi (by omega), Nat.zero_add]
      have HD := hide (Tryd.utf8_DecodeLastRuneInString (s.extract 0 (i + 1)) wr (by omega) (Utf8Tabs_below HT.out HB.out))
      obtain ⟨x, hx⟩ : ∃ x, s.get! i = x := ⟨_, rfl⟩
      by_cases hlo : x.toNat < 128
      · have hdl : Lib.decodeLastL (s.extract 0 (i + 1)).data.toList = (x.toNat, 1) := decodeLast_low (by
          rw [List.getLast?_eq_getElem?, len_size, hes, Nat.add_sub_cancel, ← hx, ← hlast, get!_eq (by omega)]
          exact List.getElem?_eq_getElem _) hlo
        simp only [hdl] at HD
        have HI := hide (fun W => indexRune_low x hlo W)
        have hnx : lastB s (i + 1) = if isBl x = true then i + 1 else lastB s i := by
          show (if isBl (s.get! i) = true then i + 1 else lastB s i) = _
          rw [hx]
        clear hdl
        go_wp2_with fail
        refine HD.out.mono ?_
        rintro e w1 ⟨rfl, hb1⟩
        have HB1 := hide (HB.out.trans (hb1.mono HB.out.size))
        clear hb1
        go_wp2_with fail
        refine (HI.out _).mono ?_
        rintro e w2 ⟨k, rfl, hk, hb2⟩
        have HB2 := hide (HB1.out.trans (hb2.mono HB1.out.size))
        clear hb2
        by_cases hk0 : (0 : Int) ≤ k
        · rw [decide_eq_true hk0] at hk
          rw [hk, if_pos rfl] at hnx
          go_wp2_with fail
          go_ret
          exact ⟨by rw [HL.out, hnx]; simp, HB2.out⟩
        · rw [decide_eq_false hk0] at hk
          rw [hk, if_neg (by decide)] at hnx
          go_wp2_with fail
          go_roundw
          case measure => simp [intOf]
          case rel => exact ⟨i, by simp, by omega, HB2.out, by rw [HL.out, hnx]⟩
      · obtain ⟨r, z, hdl, h128, hv, hz1, hz2, hhi⟩ := decodeLast_high (s := s.extract 0 (i + 1)) hes (by rw [hlast, hx]; omega)
        simp only [hdl] at HD
        have HI := hide (fun W => indexRune_high r h128 hv W)
        have hnx : lastB s (i + 1) = lastB s (i + 1 - z) := by
          have := lastB_skip (s := s) (k := i + 1 - z) z fun j h1 h2 => by
            have h3 := hhi j (by omega) (by omega)
            rw [get!_extract hi (by omega), Nat.zero_add] at h3
            exact isBl_high h3
          rw [show i + 1 - z + z = i + 1 by omega] at this
          exact this
        have hsub : ((i + 1 : Nat) : Int) - (z : Int) = ((i + 1 - z : Nat) : Int) := by omega
        clear hdl hhi
        go_wp2_with fail
        refine HD.out.mono ?_
        rintro e w1 ⟨rfl, hb1⟩
        have HB1 := hide (HB.out.trans (hb1.mono HB.out.size))
        clear hb1
        go_wp2_with fail
        refine (HI.out _).mono ?_
        rintro e w2 ⟨rfl, hb2⟩
        have HB2 := hide (HB1.out.trans (hb2.mono HB1.out.size))
        clear hb2
        go_wp2_with fail
        go_roundw
        case measure => simp [intOf]; omega
        case rel => exact ⟨i + 1 - z, by first | exact congrArg _ hsub | (rw [← hsub]; simp), by omega, HB2.out, by rw [HL.out, hnx]⟩
end Go.Proofs.YtkikbejpgfhfoaaDoor
