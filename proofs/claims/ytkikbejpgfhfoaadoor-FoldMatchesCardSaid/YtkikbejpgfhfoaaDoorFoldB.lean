/- text.Fold. -/
import Derived.Test.YtkikbejpgfhfoaaDoorFoldA
import Derived.Test.YtkikbejpgfhfoaaDoorLawK2
import Derived.Test.YtkikbejpgfhfoaaDoorApp1
set_option linter.unusedVariables false
set_option linter.unusedSimpArgs false
namespace Go.Pw
open Go.RowKit
def inF (lo hi n : Int) : Bool := decide (lo ≤ n) && decide (n ≤ hi)
/-- what text.Fold says first -/
def foldErr (s : ByteArray) (wd : Int) : Int := firstNZ [if !inF 1 1000 wd then 3 else 0, if bigB s then 2 else 0]
theorem foldErr_zero {s : ByteArray} {wd : Int} (h : foldErr s wd = 0) : bigB s = false ∧ 1 ≤ wd ∧ wd ≤ 1000 := by
  unfold foldErr at h
  simp only [firstNZ] at h
  cases h1 : inF 1 1000 wd
  · simp [h1] at h
  · cases h3 : bigB s
    · unfold inF at h1
      simp only [Bool.and_eq_true, decide_eq_true_eq] at h1
      exact ⟨rfl, h1⟩
    · simp [h1, h3] at h
theorem bigB_no {s : ByteArray} (h : bigB s = false) : s.size ≤ 65536 ∧ (linesOf s).length ≤ 4096 ∧ ∀ x ∈ linesOf s, x.size ≤ 65536 := by
  have h1 := (linesOf_bound s).2
  unfold bigB at h
  simp at h
  exact ⟨by omega, by omega, fun x hx => by have := h1 x hx; omega⟩
theorem foldLs_next {wd : Nat} {bs : Bool} {L : List ByteArray} {k : Nat} (h : k < L.length) : foldLs wd bs (L.take (k + 1)) = foldLs wd bs (L.take k) ++ folded wd bs L[k] := by
  unfold foldLs
  rw [List.take_succ_eq_append_getElem h, List.flatMap_append]
  simp
end Go.Pw
namespace Go.Proofs.YtkikbejpgfhfoaaDoor
open Go.RowKit Go.Pw
set_option maxHeartbeats 2000000 in
set_option maxRecDepth 100000 in
theorem lastAny_one (s : ByteArray) (w : World) (h1 : s.size = 1) :
    Calls Tryd.prog 79 #[.string s, .string ⟨#[9, 32]⟩] w fun e w' => e = .returned (.int .i64 ((lastB s s.size : Int) - 1)) ∧ Below w.heap.size w w' := by
  obtain ⟨x, hx⟩ : ∃ x : UInt8, s[0]'(by omega) = x := ⟨_, rfl⟩
  have hxg : s.get! 0 = x := by
    rw [get!_eq (by omega), ← hx]
    rfl
  have hnx : lastB s s.size = if isBl x = true then 1 else 0 := by
    rw [h1]
    show (if isBl (s.get! 0) = true then 0 + 1 else 0) = _
    rw [hxg]
  have hn1 : ((s.size : Int) == 1) = true := by rw [h1]; rfl
  have hlt : (0 : Int) < (s.size : Int) := by omega
  have hw32 : wrap32 (x.toNat : Int) = (x.toNat : Int) := by
    have := UInt8.toNat_lt x
    unfold wrap32
    omega
  by_cases hlo : x.toNat < 128
  · have HI := hide (fun W => indexRune_low x hlo W)
    have hlz : ¬ ((128 : Int) ≤ (x.toNat : Int)) := by omega
    go_enter Tryd.func79, Tryd.ntmps79
    go_wp2_with fail
    refine (HI.out _).mono ?_
    rintro e w2 ⟨k, rfl, hk, hb2⟩
    by_cases hk0 : (0 : Int) ≤ k
    · rw [decide_eq_true hk0] at hk
      rw [hk, if_pos rfl] at hnx
      go_wp2_with fail
      go_ret
      exact ⟨by rw [hnx]; rfl, hb2⟩
    · rw [decide_eq_false hk0] at hk
      rw [hk, if_neg (by decide)] at hnx
      go_wp2_with fail
      go_ret
      exact ⟨by rw [hnx]; rfl, hb2⟩
  · have HI := hide (fun W => indexRune_high 65533 (by decide) (by decide) W)
    have hlz : (128 : Int) ≤ (x.toNat : Int) := by omega
    rw [isBl_high (by omega), if_neg (by decide)] at hnx
    go_enter Tryd.func79, Tryd.ntmps79
    go_wp2_with fail
    refine (HI.out _).mono ?_
    rintro e w2 ⟨rfl, hb2⟩
    go_wp2_with fail
    go_ret
    exact ⟨by rw [hnx]; rfl, hb2⟩
theorem lastAny_any (s : ByteArray) (w : World) (hs : s.size < 4294967281) (hT : Lib.Utf8Tabs 1 2 w) :
    Calls Tryd.prog 79 #[.string s, .string ⟨#[9, 32]⟩] w fun e w' => e = .returned (.int .i64 ((lastB s s.size : Int) - 1)) ∧ Below w.heap.size w w' := by
  by_cases h1 : s.size = 1
  · exact lastAny_one s w h1
  · by_cases h8 : 8 < s.size
    · exact lastAny_long s w h8 hs
    · exact lastAny_short s w (by omega) h1 hT
set_option maxHeartbeats 4000000 in
set_option maxRecDepth 100000 in
theorem fold_good (s : ByteArray) (wd : Nat) (bs : Bool) (w : World) (hb : bigB s = false) (hw1 : 1 ≤ wd) (hw2 : wd ≤ 1000) (hT : Lib.Utf8Tabs 1 2 w) :
    Calls Tryd.prog 39 #[.string s, .int .i64 (wd : Int), .bool bs] w fun e w' => e = .returned (.tuple #[.string (mkB (resL (foldLs wd bs (linesOf s)))), .int .i64 0]) ∧ Below w.heap.size w w' := by
  obtain ⟨hsz, hln, hls⟩ := bigB_no hb
  have hx1 : ∀ (k : Nat), k ≤ (linesOf s).length → (foldLs wd bs ((linesOf s).take k)).length ≤ k * 65537 := fun k hk => by
    have := (foldLs_bound (bs := bs) hw1 (M := 65536) ((linesOf s).take k) (fun x hx => hls x (List.mem_of_mem_take hx))).1
    rwa [List.length_take, Nat.min_eq_left hk] at this
  have hx2 := foldLs_bound (bs := bs) hw1 (M := 65536) (linesOf s) hls
  have HX1 := hide hx1
  have HX2 := hide hx2
  have HLG := hide (fun W => large_any s W (by omega))
  simp only [hb] at HLG
  have HWM : Hid (∀ W, Calls Tryd.prog 66 #[.int .i64 (wd : Int), .int .i64 1, .int .i64 1000] W fun e w' => e = .returned (.bool true) ∧ W = w') := hide (fun W => (within_any (wd : Int) 1 1000 W).mono fun e w' ⟨h1, h2⟩ => ⟨by rw [h1]; simp; omega, h2⟩)
  have HT := hide hT
  have HLS := hide hls
  have HLI := hide (fun W => lines_any s W (by omega))
  obtain ⟨L, hL⟩ : ∃ L, linesOf s = L := ⟨_, rfl⟩
  rw [hL] at HX1 HX2 HLS HLI hln
  rw [hL]
  clear hx1 hx2 hls hb hT hL
  go_enter Tryd.func39, Tryd.ntmps39
  go_wp2_with fail
  refine (HWM.out _).mono ?_
  rintro e w' ⟨rfl, rfl⟩
  go_wp2_with fail
  refine (HLG.out _).mono ?_
  rintro e w1 ⟨rfl, hb1⟩
  have HB1 := hide hb1
  clear hb1
  go_wp2_with fail
  refine (HLI.out _).mono ?_
  rintro e w2 ⟨v, rfl, hr⟩
  have HB2 := hide (HB1.out.trans ((linesRes_below hr).mono HB1.out.size))
  have HV := hide (linesRes_strs hr (fun x hx => by have := HLS.out x hx; unfold maxLen; omega) (by unfold maxLen; omega))
  clear hr
  obtain ⟨⟨_, A, cap, rfl, hcap, hmax, hx⟩, _⟩ := HV.out
  have HX := hide hx
  clear hx HV
  unfold maxLen at hmax
  go_wp2_with fail
  go_loopw [8, 23] (fun v i wr => ∃ k : Nat, k ≤ L.length ∧ i = .int .i64 (k : Int) ∧ Hid (OwnS 9 wr w2.heap.size v (foldLs wd bs (L.take k))) ∧ Hid (Below w2.heap.size w2 wr)) (fun _ i _ => L.length - (intOf i).toNat)
  case atStart => exact ⟨0, by omega, rfl, World.ownsRow_nil _ _ _ _, Below.refl _ _⟩
  case round =>
    obtain ⟨k, hk, rfl, HO0, HB0⟩ := hrel
    by_cases hlt : k < L.length
    · obtain ⟨b3, o3, rfl, hb3, hj3⟩ := HX.out (by omega)
      have hc : wr.cell? ⟨b3, o3 + k, none⟩ = some (.string L[k]) := (HB0.out.cell (p := ⟨b3, o3 + k, none⟩) hb3).trans (hj3 k _ (by simp [hlt]))
      have HNX := hide (foldLs_next (wd := wd) (bs := bs) hlt)
      have hbd := HX1.out (k + 1) (by omega)
      rw [HNX.out] at hbd
      have hyz : L[k].size ≤ 65536 := HLS.out _ (List.getElem_mem hlt)
      obtain ⟨D, hD⟩ : ∃ D, foldLs wd bs (L.take k) = D := ⟨_, rfl⟩
      obtain ⟨y, hy⟩ : ∃ y, L[k] = y := ⟨_, rfl⟩
      rw [hD] at HO0 HNX hbd
      rw [hy] at hc HNX hbd hyz
      have HBD : Hid ((D ++ folded wd bs y).length ≤ 4096 * 65537) := hide (Nat.le_trans hbd (Nat.mul_le_mul (by omega) (Nat.le_refl _)))
      clear hj3 hD hy hbd
      have hd4 : (k : Int) < (L.length : Int) := by omega
      obtain ⟨OA, oc, rfl⟩ := own_slice HO0.out
      go_wp2_with fail
      go_loopw [8, 10] (fun v ln wq => ∃ (done : List ByteArray) (r : ByteArray), ln = .string r ∧ Hid (done ++ folded wd bs r = folded wd bs y) ∧ r.size ≤ 65536 ∧ Hid (OwnS 9 wq w2.heap.size v (D ++ done)) ∧ Hid (Below w2.heap.size w2 wq)) (fun _ ln _ => strLen ln)
      case atStart => exact ⟨[], y, rfl, hide rfl, hyz, by rw [List.append_nil]; exact HO0, HB0⟩
      case round =>
        clear HO0 HB0 hc
        obtain ⟨done, r, rfl, HEQ, hrz, HO, HB⟩ := hrel
        have HLK : Hid ((D ++ done).length ≤ 4096 * 65537) := hide (by
          have h1 := HBD.out
          rw [← HEQ.out] at h1
          simp only [List.length_append] at h1 ⊢
          omega)
        have hz := HB.out.size
        obtain ⟨M, hM⟩ : ∃ M, D ++ done = M := ⟨_, rfl⟩
        rw [hM] at HO HLK
        have HM := hide hM
        clear hM
        obtain ⟨RA, rc, rfl⟩ := own_slice HO.out
        by_cases hlong : wd < r.size
        · have hd5 : (wd : Int) < (r.size : Int) := by omega
          have hd6 : (wd : Int) ≤ (r.size : Int) := by omega
          have hd7 : (0 : Int) ≤ (wd : Int) := by omega
          obtain ⟨q, hq⟩ : ∃ q, lastB r wd = q := ⟨_, rfl⟩
          have hqw : q ≤ wd := by rw [← hq]; exact lastB_le _ _
          obtain ⟨m, hm⟩ : ∃ m : Int, (q : Int) - 1 = m := ⟨_, rfl⟩
          have HLA : Hid (∀ W, Lib.Utf8Tabs 1 2 W → Calls Tryd.prog 79 #[.string (r.extract 0 wd), .string ⟨#[9, 32]⟩] W fun e w' => e = .returned (.int .i64 m) ∧ Below W.heap.size W w') := hide (fun W hT => by
            have hes : (r.extract 0 wd).size = wd := by rw [ByteArray.size_extract]; omega
            have := lastAny_any (r.extract 0 wd) W (by omega) hT
            rw [hes, lastB_ext (by omega) wd (Nat.le_refl _), hq, hm] at this
            exact this)
          have hcut : cutAt r wd bs = if bs = true ∧ 0 < q then q else wd := by unfold cutAt; rw [hq]
          have HFL := hide (folded_long (bs := bs) hw1 hlong)
          rw [hcut] at HFL
          clear hcut hq
          by_cases hbs : bs = true ∧ 0 < q
          · obtain ⟨rfl, hq0⟩ := hbs
            rw [if_pos ⟨rfl, hq0⟩] at HFL
            have hm1 : m + 1 = (q : Int) := by omega
            have hm0 : (0 : Int) ≤ m := by omega
            have hd8 : (q : Int) ≤ (r.size : Int) := by omega
            have hd9 : (0 : Int) ≤ (q : Int) := by omega
            clear hm
            go_wp2_with fail
            refine (HLA.out _ (Utf8Tabs_below HT.out (HB2.out.trans (HB.out.mono HB2.out.size)))).mono ?_
            rintro e w5 ⟨rfl, hb5⟩
            have HO5 := hide (own_below HO.out hb5)
            have HB5 := hide (HB.out.trans (hb5.mono HB.out.size))
            have hz5 := HB5.out.size
            clear hb5 HLA
            go_wp2_with (at_builtin; refine wpList_app_one rfl _ _ rfl w2.heap.size _ _ rfl HO5.out rfl (by have := HLK.out; omega) hz5 ?_)
            intro A2 c2 w6 ho6 hb6
            have HO6 := hide ho6
            have HB6 := hide (HB5.out.trans hb6)
            clear ho6 hb6
            go_wp2_with fail
            go_roundw
            case rel => exact ⟨done ++ [r.extract 0 q], r.extract q r.size, by go_num, hide (by rw [← HEQ.out, HFL.out]; simp), by rw [ByteArray.size_extract]; omega, by rw [← List.append_assoc, HM.out]; exact HO6, HB6⟩
            case measure => simp [strLen, ByteArray.size_extract]; omega
          · rw [if_neg hbs] at HFL
            cases bs
            · clear hm
              go_wp2_with fail
              refine (HLA.out _ (Utf8Tabs_below HT.out (HB2.out.trans (HB.out.mono HB2.out.size)))).mono ?_
              rintro e w5 ⟨rfl, hb5⟩
              have HO5 := hide (own_below HO.out hb5)
              have HB5 := hide (HB.out.trans (hb5.mono HB.out.size))
              have hz5 := HB5.out.size
              clear hb5 HLA
              go_wp2_with (at_builtin; refine wpList_app_one rfl _ _ rfl w2.heap.size _ _ rfl HO5.out rfl (by have := HLK.out; omega) hz5 ?_)
              intro A2 c2 w6 ho6 hb6
              have HO6 := hide ho6
              have HB6 := hide (HB5.out.trans hb6)
              clear ho6 hb6
              go_wp2_with fail
              go_roundw
              case rel => exact ⟨done ++ [r.extract 0 wd], r.extract wd r.size, by go_num, hide (by rw [← HEQ.out, HFL.out]; simp), by rw [ByteArray.size_extract]; omega, by rw [← List.append_assoc, HM.out]; exact HO6, HB6⟩
              case measure => simp [strLen, ByteArray.size_extract]; omega
            · have hm0 : ¬ ((0 : Int) ≤ m) := by
                have : ¬ 0 < q := fun h => hbs ⟨rfl, h⟩
                omega
              clear hm
              go_wp2_with fail
              refine (HLA.out _ (Utf8Tabs_below HT.out (HB2.out.trans (HB.out.mono HB2.out.size)))).mono ?_
              rintro e w5 ⟨rfl, hb5⟩
              have HO5 := hide (own_below HO.out hb5)
              have HB5 := hide (HB.out.trans (hb5.mono HB.out.size))
              have hz5 := HB5.out.size
              clear hb5 HLA
              go_wp2_with (at_builtin; refine wpList_app_one rfl _ _ rfl w2.heap.size _ _ rfl HO5.out rfl (by have := HLK.out; omega) hz5 ?_)
              intro A2 c2 w6 ho6 hb6
              have HO6 := hide ho6
              have HB6 := hide (HB5.out.trans hb6)
              clear ho6 hb6
              go_wp2_with fail
              go_roundw
              case rel => exact ⟨done ++ [r.extract 0 wd], r.extract wd r.size, by go_num, hide (by rw [← HEQ.out, HFL.out]; simp), by rw [ByteArray.size_extract]; omega, by rw [← List.append_assoc, HM.out]; exact HO6, HB6⟩
              case measure => simp [strLen, ByteArray.size_extract]; omega
        · have hd5 : ¬ ((wd : Int) < (r.size : Int)) := by omega
          have HFS := hide (folded_short (wd := wd) (bs := bs) (s := r) (by omega))
          go_wp2_with (at_builtin; refine wpList_app_one rfl _ _ rfl w2.heap.size _ _ rfl HO.out rfl (by have := HLK.out; omega) hz ?_)
          intro A2 c2 w6 ho6 hb6
          have HO6 := hide ho6
          have HB6 := hide (HB.out.trans hb6)
          clear ho6 hb6
          go_wp2_with fail
          go_roundw
          case rel => exact ⟨k + 1, by omega, by go_num, by rw [HNX.out, ← HEQ.out, HFS.out, ← List.append_assoc, HM.out]; exact HO6, HB6⟩
          case measure => simp [intOf]; omega
    · obtain rfl : k = L.length := by omega
      have hd4 : ¬ ((L.length : Int) < (L.length : Int)) := by omega
      rw [List.take_length] at HO0
      obtain ⟨OA, oc, rfl⟩ := own_slice HO0.out
      have HRB := hide (result_any _ _ wr (OwnS.strs HO0.out (fun x hx => by have := HX2.out.2.2 x hx; unfold maxLen; omega)) (by have h1 := HX2.out.2.1; have h2 : L.length * (2 * 65536 + 1) ≤ 4096 * 131073 := Nat.mul_le_mul hln (Nat.le_refl _); omega))
      go_wp2_with fail
      refine HRB.out.mono ?_
      rintro e w4 ⟨rfl, hb4⟩
      have hbe := HB2.out.trans ((HB0.out.trans (hb4.mono HB0.out.size)).mono HB2.out.size)
      go_wp2_with fail
      go_ret2
      exact ⟨rfl, hbe⟩
end Go.Proofs.YtkikbejpgfhfoaaDoor
