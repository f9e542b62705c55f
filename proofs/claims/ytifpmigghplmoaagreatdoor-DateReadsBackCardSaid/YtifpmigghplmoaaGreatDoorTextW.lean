/- text.lines, large, sized, result. -/
import Derived.Test.YtifpmigghplmoaaGreatDoorSort
import Derived.Test.YtifpmigghplmoaaGreatDoorCmp
import Derived.Test.YtifpmigghplmoaaGreatDoorLinesT
import Derived.Test.YtifpmigghplmoaaGreatDoorBuilder
import Derived.Lib.SplitLaws
set_option linter.unusedVariables false
set_option linter.unusedSimpArgs false
namespace Go.Pw
open Go.RowKit
def mkB (l : List UInt8) : ByteArray := ⟨l.toArray⟩
theorem mkB_list (s : ByteArray) : mkB s.data.toList = s := by obtain ⟨⟨l⟩⟩ := s; rfl
theorem mkB_size (l : List UInt8) : (mkB l).size = l.length := by simp [mkB, ByteArray.size]
/-- the lines of a text -/
def linesOf (s : ByteArray) : List ByteArray := (lnF [] s.data.toList).map mkB
theorem spl_len : ∀ (l cur : List UInt8), (spl cur l).length = l.count 10 + 1
  | [], cur => by simp [spl]
  | c :: l, cur => by
    rw [spl]
    by_cases h : c = 10
    · subst h; simp [spl_len l []]
    · rw [if_neg h, spl_len l, List.count_cons_of_ne h]
theorem lnF_cut {l : List UInt8} (h : l ≠ []) : lnF [] l = spl [] (Lib.trimSuffix l [10]) := by
  unfold Lib.trimSuffix Lib.hasSuffix
  by_cases hl : l.getLast h = 10
  · have e := List.dropLast_concat_getLast h
    rw [hl] at e
    have hs : ([10] : List UInt8).isSuffixOf l = true := by
      rw [← e, List.isSuffixOf_iff_suffix]; exact List.suffix_append _ _
    rw [if_pos hs]
    conv => lhs; rw [← e]
    rw [lnF_nl]
    congr 1
    rw [List.dropLast_eq_take]; rfl
  · have hs : ¬ ([10] : List UInt8).isSuffixOf l = true := by
      rw [List.isSuffixOf_iff_suffix]
      rintro ⟨t, rfl⟩
      simp at hl
    rw [if_neg hs]
    exact lnF_plain l [] h hl
theorem splitB_spl (s : ByteArray) : Lib.splitB ⟨#[10]⟩ 0 (Lib.countB s ⟨#[10]⟩) s = (spl [] s.data.toList).map mkB := by
  have h := Lib.splitB_data ⟨#[10]⟩ 0 (Lib.countB s ⟨#[10]⟩) s
  have e : Lib.splitK [10] 0 (Lib.count s.data.toList [10]) s.data.toList = spl [] s.data.toList := splitK_spl _ _ (Nat.le_refl _)
  rw [← e]
  show _ = (Lib.splitK (⟨#[10]⟩ : ByteArray).data.toList 0 (Lib.countB s ⟨#[10]⟩) s.data.toList).map mkB
  rw [← h, List.map_map]
  conv => lhs; rw [← List.map_id (Lib.splitB ⟨#[10]⟩ 0 (Lib.countB s ⟨#[10]⟩) s)]
  exact List.map_congr_left fun x _ => (mkB_list x).symm
/-- what 'lines' hands back -/
def LinesRes (t : TypeId) (w : World) (l : List ByteArray) (v : Value) (w' : World) : Prop :=
  (l = [] ∧ v = .slice none 0 0 ∧ w' = w) ∨ (0 < l.length ∧ v = .slice (some ⟨w.heap.size, 0, none⟩) l.length l.length ∧ w' = w.alloc (.cells (l.map Value.string).toArray t))
theorem linesRes_below {t : TypeId} {w w' : World} {l : List ByteArray} {v : Value} (h : LinesRes t w l v w') : Below w.heap.size w w' := by
  rcases h with ⟨_, _, rfl⟩ | ⟨_, _, rfl⟩
  · exact Below.refl _ _
  · exact (Below.refl _ _).alloc (Nat.le_refl _) _
theorem linesRes_strs {t : TypeId} {w w' : World} {l : List ByteArray} {v : Value} (h : LinesRes t w l v w') (hs : ∀ s ∈ l, s.size ≤ maxLen) (hl : l.length ≤ maxLen) : Strs w' v l := by
  rcases h with ⟨rfl, rfl, rfl⟩ | ⟨h0, rfl, rfl⟩
  · exact ⟨Rd.nil _ _, by simp⟩
  · refine ⟨⟨by simp, _, _, rfl, Nat.le_refl _, hl, fun _ => ⟨w.heap.size, 0, rfl, by simp, fun j u hu => ?_⟩⟩, hs⟩
    rw [World.cell?_alloc_new]
    simpa using hu
theorem linesRes_len {t : TypeId} {w w' : World} {l : List ByteArray} {v : Value} (h : LinesRes t w l v w') : ∃ A, v = .slice A l.length l.length := by
  rcases h with ⟨rfl, rfl, rfl⟩ | ⟨h0, rfl, rfl⟩
  · exact ⟨_, rfl⟩
  · exact ⟨_, rfl⟩
theorem linesRes_row {t : TypeId} {w w' : World} {l : List ByteArray} {v : Value} (h : LinesRes t w l v w') (h0 : 0 < l.length) : v = .slice (some ⟨w.heap.size, 0, none⟩) l.length l.length ∧ RowS w' w.heap.size 0 l := by
  rcases h with ⟨rfl, rfl, rfl⟩ | ⟨h0, rfl, rfl⟩
  · simp at h0
  · refine ⟨rfl, by simp, fun i s hi => ⟨?_, ?_⟩⟩
    · rw [World.cell?_alloc_new]
      simp only [Nat.zero_add]
      simp [hi]
    · simp
theorem lnF_bound : ∀ (l cur : List UInt8), (lnF cur l).length ≤ l.length + 1 ∧ ∀ x ∈ lnF cur l, x.length ≤ cur.length + l.length
  | [], cur => by
    rw [lnF]
    split
    · simp
    · simp
  | c :: l, cur => by
    rw [lnF]
    split
    · obtain ⟨h1, h2⟩ := lnF_bound l []
      refine ⟨by simp; omega, fun x hx => ?_⟩
      rcases List.mem_cons.1 hx with rfl | hx
      · simp
      · have := h2 x hx; simp at this ⊢; omega
    · obtain ⟨h1, h2⟩ := lnF_bound l (cur ++ [c])
      refine ⟨by simp; omega, fun x hx => ?_⟩
      have := h2 x hx; simp at this ⊢; omega
theorem linesOf_bound (s : ByteArray) : (linesOf s).length ≤ s.size + 1 ∧ ∀ x ∈ linesOf s, x.size ≤ s.size := by
  obtain ⟨h1, h2⟩ := lnF_bound s.data.toList []
  unfold linesOf
  refine ⟨by rw [List.length_map]; rw [len_size] at h1; exact h1, fun x hx => ?_⟩
  obtain ⟨y, hy, rfl⟩ := List.mem_map.1 hx
  have := h2 y hy
  rw [mkB_size, ← len_size]; simpa using this
/-- is a text too large -/
def bigB (s : ByteArray) : Bool := decide (65536 < s.size) || decide (4096 < (linesOf s).length)
/-- the text of lines -/
def resL : List ByteArray → List UInt8
  | [] => []
  | s :: l => s.data.toList ++ 10 :: resL l
theorem resL_append (l m : List ByteArray) : resL (l ++ m) = resL l ++ resL m := by
  induction l with
  | nil => rfl
  | cons s l ih => simp [resL, ih]
theorem resL_take_le (l : List ByteArray) (k : Nat) : (resL (l.take k)).length ≤ (resL l).length := by
  conv => rhs; rw [← List.take_append_drop k l]
  rw [resL_append, List.length_append]; omega
end Go.Pw
namespace Go.Proofs.YtifpmigghplmoaaGreatDoor
open Go.RowKit Go.Pw
set_option maxHeartbeats 1000000 in
theorem split_any (s : ByteArray) (w : World) (hs : s.size ≤ 1000000) :
    Calls Tryz.prog 105 #[.string s, .string ⟨#[10]⟩] w fun e w' => e = .returned (.slice (some ⟨w.heap.size, 0, none⟩) (spl [] s.data.toList).length (spl [] s.data.toList).length) ∧ w' = w.alloc (.cells (((spl [] s.data.toList).map mkB).map Value.string).toArray 9) := by
  have hle := Lib.countB_le ⟨#[10]⟩ (by decide) s.size s (Nat.le_refl _)
  have hlen := Lib.splitB_all ⟨#[10]⟩ (by decide) 0 _ s rfl
  have c := Any.strings_genSplit_core Tryz.lays221 (by kernel_rfl) s ⟨#[10]⟩ 0 (-1) (Lib.countB s ⟨#[10]⟩ + 1) w (by omega) (by decide) (Nat.zero_le _)
    (fun x c _ => (Tryz.strings_Index_one x 10 _).mono fun e w' ⟨h1, h2⟩ => ⟨by rw [h1]; exact congrArg (fun z => Ending.returned (.int .i64 z)) (Lib.index_one _ _).symm, h2⟩)
    ((Tryz.strings_Count_one s 10 w).mono fun e w' ⟨h1, h2⟩ => ⟨by rw [h1]; exact congrArg (fun z : Nat => Ending.returned (.int .i64 (z : Int))) (Lib.count_one _ _).symm, h2⟩)
    (by decide) (by decide) (by rw [if_pos (by decide)]; omega)
  rw [Nat.add_sub_cancel, hlen] at c
  have e2 : Lib.cellsOf (Lib.splitB ⟨#[10]⟩ 0 (Lib.countB s ⟨#[10]⟩) s) (Lib.countB s ⟨#[10]⟩ + 1) = ((Lib.splitB ⟨#[10]⟩ 0 (Lib.countB s ⟨#[10]⟩) s).map Value.string).toArray := by rw [← hlen]; exact Lib.cellsOf_full _
  have e3 : Lib.countB s ⟨#[10]⟩ + 1 = (spl [] s.data.toList).length := by
    rw [spl_len]; exact congrArg (· + 1) (Lib.count_one _ _)
  rw [e2, splitB_spl, e3] at c
  have HC := hide c
  clear c e2 e3 hlen hle
  go_enter Tryz.func105, Tryz.ntmps105
  go_wp2_with fail
  refine HC.out.mono ?_
  rintro e w' ⟨rfl, rfl⟩
  go_wp2_with fail
  go_ret
  exact ⟨rfl, by rw [List.map_map]; rfl⟩

set_option maxHeartbeats 1000000 in
theorem lines_any (s : ByteArray) (w : World) (hs : s.size ≤ 1000000) :
    Calls Tryz.prog 66 #[.string s] w fun e w' => ∃ v, e = .returned v ∧ LinesRes 9 w (linesOf s) v w' := by
  by_cases h0 : 0 < s.size
  · have hne : s.data.toList ≠ [] := fun e => by have := len_size s; rw [e, List.length_nil] at this; omega
    have he := isEmpty_of h0
    have HL : Hid (lnF [] s.data.toList = spl [] (Lib.trimSuffix s.data.toList [10])) := hide (lnF_cut hne)
    clear hne
    have ht : (Lib.trimSuffix s.data.toList [10]).length ≤ s.size := by
      unfold Lib.trimSuffix; rw [← len_size]; split
      · rw [List.length_take]; omega
      · exact Nat.le_refl _
    go_enter Tryz.func66, Tryz.ntmps66
    go_wp2_with fail
    refine (Tryz.strings_TrimSuffix s ⟨#[10]⟩ w (by omega)).mono ?_
    rintro e w' ⟨rfl, rfl⟩
    obtain ⟨t, hT⟩ : ∃ t : ByteArray, (⟨(Lib.trimSuffix s.data.toList (⟨#[10]⟩ : ByteArray).data.toList).toArray⟩ : ByteArray) = t := ⟨_, rfl⟩
    rw [hT]
    have htl : t.data.toList = Lib.trimSuffix s.data.toList [10] := by rw [← hT]
    have hts : t.size ≤ 1000000 := by rw [← len_size, htl]; omega
    rw [← htl] at HL
    clear hT htl ht
    go_wp2_with fail
    refine (split_any t _ hts).mono ?_
    rintro e w'' ⟨rfl, rfl⟩
    obtain ⟨n, hn⟩ : ∃ n, (spl [] t.data.toList).length = n := ⟨_, rfl⟩
    have hn0 : 0 < n := by rw [← hn, spl_len]; omega
    have e1 : linesOf s = (spl [] t.data.toList).map mkB := by unfold linesOf; rw [HL.out]
    have e2 : (linesOf s).length = n := by rw [e1, List.length_map, hn]
    rw [← e1, hn]
    have HE := hide e2
    clear hn e1 e2 HL
    go_wp2_with fail
    go_ret
    exact ⟨_, rfl, .inr ⟨by rw [HE.out]; exact hn0, by rw [HE.out]; rfl, rfl⟩⟩
  · obtain rfl := empty_of (s := s) (by omega)
    go_enter Tryz.func66, Tryz.ntmps66
    go_wp2_with fail
    go_ret
    exact ⟨_, rfl, .inl ⟨rfl, rfl, rfl⟩⟩

set_option maxHeartbeats 1000000 in
theorem large_any (s : ByteArray) (w : World) (hs : s.size ≤ 9223372036854775807) :
    Calls Tryz.prog 104 #[.string s] w fun e w' => e = .returned (.bool (bigB s)) ∧ Below w.heap.size w w' := by
  by_cases h0 : 65536 < s.size
  · have HV : Hid (bigB s = true) := hide (by unfold bigB; simp [h0])
    go_enter Tryz.func104, Tryz.ntmps104
    go_wp2_with fail
    go_ret
    exact ⟨by rw [HV.out]; rfl, Below.refl _ _⟩
  · have HV : Hid (bigB s = decide (4096 < (linesOf s).length)) := hide (by unfold bigB; simp [h0])
    go_enter Tryz.func104, Tryz.ntmps104
    go_wp2_with fail
    refine (lines_any s w (by omega)).mono ?_
    rintro e w1 ⟨v, rfl, hr⟩
    have hb := linesRes_below hr
    have hbd := linesOf_bound s
    obtain ⟨A, rfl⟩ := linesRes_len hr
    have HB := hide hb
    obtain ⟨n, hn⟩ : ∃ n, (linesOf s).length = n := ⟨_, rfl⟩
    rw [hn] at hbd HV ⊢
    have hnn := hbd.1
    clear hr hb hbd hn
    go_wp2_with fail
    go_ret
    exact ⟨ret_bool (by rw [HV.out]; exact decide_eq_decide.2 (by omega)), HB.out⟩

set_option maxHeartbeats 1000000 in
theorem indexLarge_any (v : Value) (l : List ByteArray) (w : World) (h : Strs w v l) :
    Calls Tryz.prog 37 #[v, .func (.func 104) #[] #[]] w fun e w' => (∃ n : Int, e = .returned (.int .i64 n) ∧ (l.any bigB = decide (0 ≤ n))) ∧ Below w.heap.size w w' := by
  obtain ⟨⟨_, A, cap, rfl, hcap, hmax, hx⟩, hsz⟩ := h
  unfold maxLen at hmax
  have HX := hide hx
  have HSZ := hide hsz
  clear hx hsz
  go_enter Tryz.func37, Tryz.ntmps37
  go_wp2_with fail
  go_loopw [8] (fun i wr => ∃ k : Nat, k ≤ l.length ∧ i = .int .i64 (k : Int) ∧ Hid ((l.take k).any bigB = false) ∧ Below w.heap.size w wr) (fun i _ => l.length - (intOf i).toNat)
  case atStart => exact ⟨0, by omega, rfl, hide rfl, Below.refl _ _⟩
  case round =>
    obtain ⟨k, hk, rfl, HK, hb⟩ := hrel
    by_cases hlt : k < l.length
    · obtain ⟨bb, o, rfl, hbb, hj⟩ := HX.out (by omega)
      have hc : wr.cell? ⟨bb, o + k, none⟩ = some (.string l[k]) := (hb.cell (p := ⟨bb, o + k, none⟩) hbb).trans (hj k _ (by simp [hlt]))
      have hz := HSZ.out _ (List.getElem_mem hlt)
      unfold maxLen at hz
      have HT : Hid ((l.take (k + 1)).any bigB = bigB l[k]) := hide (by rw [List.take_succ_eq_append_getElem hlt, List.any_append, HK.out]; simp)
      have HA : Hid (bigB l[k] = true → l.any bigB = true) := hide (fun e => List.any_eq_true.2 ⟨_, List.getElem_mem hlt, e⟩)
      clear hj
      obtain ⟨x, hxx⟩ : ∃ x, l[k] = x := ⟨_, rfl⟩
      rw [hxx] at hc hz HT HA
      clear hxx
      go_wp2_with fail
      refine (large_any x _ (by omega)).mono ?_
      rintro e w2 ⟨rfl, hb2⟩
      have hb3 := hb.trans (hb2.mono hb.size)
      have HB3 := hide hb3
      clear hb2 hb3 hc
      cases hbig : bigB x
      · rw [hbig] at HT
        go_wp2_with fail
        go_roundw
        case rel => exact ⟨k + 1, by omega, by go_num, HT, HB3.out⟩
        case measure => simp [intOf]; omega
      · have HQ := hide (HA.out hbig)
        clear hbig HA
        go_wp2_with fail
        go_ret
        exact ⟨⟨_, rfl, by rw [HQ.out]; simp⟩, HB3.out⟩
    · obtain rfl : k = l.length := by omega
      rw [List.take_length] at HK
      go_wp2_with fail
      go_ret
      exact ⟨⟨_, rfl, by rw [HK.out]; rfl⟩, hb⟩
theorem containsLarge_any (v : Value) (l : List ByteArray) (w : World) (h : Strs w v l) :
    Calls Tryz.prog 11 #[v, .func (.func 104) #[] #[]] w fun e w' => e = .returned (.bool (l.any bigB)) ∧ Below w.heap.size w w' := by
  have HI := hide (indexLarge_any v l w h)
  clear h
  go_enter Tryz.func11, Tryz.ntmps11
  go_wp2_with fail
  refine HI.out.mono ?_
  rintro e w1 ⟨⟨n, rfl, hn⟩, hb⟩
  have HN := hide hn
  clear hn
  go_wp2_with fail
  go_ret
  exact ⟨by rw [HN.out]; rfl, hb⟩
theorem sized_any (v : Value) (l : List ByteArray) (w : World) (h : Strs w v l) :
    Calls Tryz.prog 65 #[v] w fun e w' => e = .returned (.int .i64 (if l.any bigB then 2 else 0)) ∧ Below w.heap.size w w' := by
  have HI := hide (containsLarge_any v l w h)
  clear h
  obtain ⟨c, hc⟩ : ∃ c, l.any bigB = c := ⟨_, rfl⟩
  rw [hc] at HI ⊢
  clear hc
  cases c
  all_goals
    go_enter Tryz.func65, Tryz.ntmps65
    go_wp2_with fail
    refine HI.out.mono ?_
    rintro e w1 ⟨rfl, hb⟩
    go_wp2_with fail
    go_ret
    exact ⟨rfl, hb⟩

set_option maxHeartbeats 1000000 in
theorem result_any (v : Value) (l : List ByteArray) (w : World) (h : Strs w v l) (hlen : (resL l).length ≤ 1000000000) :
    Calls Tryz.prog 113 #[v] w fun e w' => e = .returned (.string (mkB (resL l))) ∧ Below w.heap.size w w' := by
  obtain ⟨⟨_, A, cap, rfl, hcap, hmax, hx⟩, hsz⟩ := h
  unfold maxLen at hmax
  have HX := hide hx
  have HLEN := hide hlen
  clear hx hsz hlen
  have hB0 : Bld w.heap.size w.heap.size [] (w.alloc (.cells #[.pointer none, .slice none 0 0] 77)) := Lib.fresh_isBuilder _ _ w
  have HB0 := hide hB0
  clear hB0
  go_enter Tryz.func113, Tryz.ntmps113
  go_wp2_with fail
  go_loopw [8] (fun i wr => ∃ k : Nat, k ≤ l.length ∧ i = .int .i64 (k : Int) ∧ Bld w.heap.size w.heap.size (resL (l.take k)) wr ∧ Below w.heap.size w wr) (fun i _ => l.length - (intOf i).toNat)
  case atStart => exact ⟨0, by omega, rfl, by simpa [resL] using HB0.out, (Below.refl _ _).alloc (Nat.le_refl _) _⟩
  case round =>
    obtain ⟨k, hk, rfl, hbk, hb⟩ := hrel
    by_cases hlt : k < l.length
    · obtain ⟨bb, o, rfl, hbb, hj⟩ := HX.out (by omega)
      have hc : wr.cell? ⟨bb, o + k, none⟩ = some (.string l[k]) := (hb.cell (p := ⟨bb, o + k, none⟩) hbb).trans (hj k _ (by simp [hlt]))
      have e1 : resL (l.take (k + 1)) = resL (l.take k) ++ (l[k] ++ (⟨#[10]⟩ : ByteArray)).data.toList := by
        rw [List.take_succ_eq_append_getElem hlt, resL_append]
        simp [resL]
      have e2 : (resL (l.take k)).length + (l[k] ++ (⟨#[10]⟩ : ByteArray)).size ≤ 1000000000 := by
        have h1 := resL_take_le l (k + 1)
        rw [e1, List.length_append, len_size] at h1
        have := HLEN.out
        omega
      have e3 : l[k].size ≤ 1000000000 := by
        rw [ByteArray.size_append] at e2; omega
      have HN := hide e1
      have HE := hide e2
      have hzz := hb.size
      clear hj e1 e2
      go_wp2_with fail
      refine (writeString_any _ _ _ _ _ hbk (Nat.le_trans HE.out (by omega)) hzz).mono ?_
      rintro e w2 ⟨rfl, hb2, hbe2⟩
      rw [← HN.out] at hb2
      have hbw2 := hb.trans hbe2
      clear hbk hb hbe2 hc
      go_wp2_with fail
      go_roundw
      case rel => exact ⟨k + 1, by omega, by go_num, hb2, hbw2⟩
      case measure => simp [intOf]; omega
    · obtain rfl : k = l.length := by omega
      rw [List.take_length] at hbk
      have hzz := hb.size
      go_wp2_with fail
      refine (bldString_any _ _ _ _ hbk hzz).mono ?_
      rintro e w2 ⟨rfl, hb2⟩
      have hbw2 := hb.trans hb2
      clear hb hb2 hbk
      go_wp2_with fail
      go_ret
      exact ⟨rfl, hbw2⟩
end Go.Proofs.YtifpmigghplmoaaGreatDoor
