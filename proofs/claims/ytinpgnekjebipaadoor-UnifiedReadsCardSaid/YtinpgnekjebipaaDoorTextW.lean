/- text.lines, large, sized, result. -/
import Derived.Test.YtinpgnekjebipaaDoorSort
import Derived.Test.YtinpgnekjebipaaDoorCmp
import Derived.Test.YtinpgnekjebipaaDoorLinesT
import Derived.Test.YtinpgnekjebipaaDoorBuilder
import Derived.Lib.SplitLaws
set_option linter.unusedVariables false
set_option linter.unusedSimpArgs false
namespace Go.Pw
open Go.RowKit
def mkB (l : List UInt8) : ByteArray := ⟨l.toArray⟩
theorem mkB_list (s : ByteArray) : mkB s.data.toList = s := by obtain ⟨⟨l⟩⟩ := s; rfl
theorem mkB_size (l : List UInt8) : (mkB l).size = l.length := by simp [mkB, ByteArray.size]
/-- the lines of a text -/
def linesOf (s : ByteArray) : List ByteArray := (lnF [] s.data.toList).map mkB
theorem spl_len : ∀ (l cur : List UInt8), (spl cur l).length = l.count 10 + 1
  | [], cur => by simp [spl]
  | c :: l, cur => by
    rw [spl]
    by_cases h : c = 10
    · subst h; simp [spl_len l []]
    · rw [if_neg h, spl_len l, List.count_cons_of_ne h]
theorem lnF_cut {l : List UInt8} (h : l ≠ []) : lnF [] l = spl [] (Lib.trimSuffix l [10]) := by
  unfold Lib.trimSuffix Lib.hasSuffix
  by_cases hl : l.getLast h = 10
  · have e := List.dropLast_concat_getLast h
    rw [hl] at e
    have hs : ([10] : List UInt8).isSuffixOf l = true := by
      rw [← e, List.isSuffixOf_iff_suffix]; exact List.suffix_append _ _
    rw [if_pos hs]
    conv => lhs; rw [← e]
    rw [lnF_nl]
    congr 1
    rw [List.dropLast_eq_take]; rfl
  · have hs : ¬ ([10] : List UInt8).isSuffixOf l = true := by
      rw [List.isSuffixOf_iff_suffix]
      rintro ⟨t, rfl⟩
      simp at hl
    rw [if_neg hs]
    exact lnF_plain l [] h hl
theorem splitB_spl (s : ByteArray) : Lib.splitB ⟨#[10]⟩ 0 (Lib.countB s ⟨#[10]⟩) s = (spl [] s.data.toList).map mkB := by
  have h := Lib.splitB_data ⟨#[10]⟩ 0 (Lib.countB s ⟨#[10]⟩) s
  have e : Lib.splitK [10] 0 (Lib.count s.data.toList [10]) s.data.toList = spl [] s.data.toList := splitK_spl _ _ (Nat.le_refl _)
  rw [← e]
  show _ = (Lib.splitK (⟨#[10]⟩ : ByteArray).data.toList 0 (Lib.countB s ⟨#[10]⟩) s.data.toList).map mkB
  rw [← h, List.map_map]
  conv => lhs; rw [← List.map_id (Lib.splitB ⟨#[10]⟩ 0 (Lib.countB s ⟨#[10]⟩) s)]
  exact List.map_congr_left fun x _ => (mkB_list x).symm
/-- what 'lines' hands back -/
def LinesRes (t : TypeId) (w : World) (l : List ByteArray) (v : Value) (w' : World) : Prop :=
  (l = [] ∧ v = .slice none 0 0 ∧ w' = w) ∨ (0 < l.length ∧ v = .slice (some ⟨w.heap.size, 0, none⟩) l.length l.length ∧ w' = w.alloc (.cells (l.map Value.string).toArray t))
theorem linesRes_below {t : TypeId} {w w' : World} {l : List ByteArray} {v : Value} (h : LinesRes t w l v w') : Below w.heap.size w w' := by
  rcases h with ⟨_, _, rfl⟩ | ⟨_, _, rfl⟩
  · exact Below.refl _ _
  · exact (Below.refl _ _).alloc (Nat.le_refl _) _
theorem linesRes_strs {t : TypeId} {w w' : World} {l : List ByteArray} {v : Value} (h : LinesRes t w l v w') (hs : ∀ s ∈ l, s.size ≤ maxLen) (hl : l.length ≤ maxLen) : Strs w' v l := by
  rcases h with ⟨rfl, rfl, rfl⟩ | ⟨h0, rfl, rfl⟩
  · exact ⟨Rd.nil _ _, by simp⟩
  · refine ⟨⟨by simp, _, _, rfl, Nat.le_refl _, hl, fun _ => ⟨w.heap.size, 0, rfl, by simp, fun j u hu => ?_⟩⟩, hs⟩
    rw [World.cell?_alloc_new]
    simpa using hu
theorem linesRes_len {t : TypeId} {w w' : World} {l : List ByteArray} {v : Value} (h : LinesRes t w l v w') : ∃ A, v = .slice A l.length l.length := by
  rcases h with ⟨rfl, rfl, rfl⟩ | ⟨h0, rfl, rfl⟩
  · exact ⟨_, rfl⟩
  · exact ⟨_, rfl⟩
theorem linesRes_row {t : TypeId} {w w' : World} {l : List ByteArray} {v : Value} (h : LinesRes t w l v w') (h0 : 0 < l.length) : v = .slice (some ⟨w.heap.size, 0, none⟩) l.length l.length ∧ RowS w' w.heap.size 0 l := by
  rcases h with ⟨rfl, rfl, rfl⟩ | ⟨h0, rfl, rfl⟩
  · simp at h0
  · refine ⟨rfl, by simp, fun i s hi => ⟨?_, ?_⟩⟩
    · rw [World.cell?_alloc_new]
      simp only [Nat.zero_add]
      simp [hi]
    · simp
theorem lnF_bound : ∀ (l cur : List UInt8), (lnF cur l).length ≤ l.length + 1 ∧ ∀ x ∈ lnF cur l, x.length ≤ cur.length + l.length
  | [], cur => by
    rw [lnF]
    split
    · simp
    · simp
  | c :: l, cur => by
    rw [lnF]
    split
    · obtain ⟨h1, h2⟩ := lnF_bound l []
      refine ⟨by simp; omega, fun x hx => ?_⟩
      rcases List.mem_cons.1 hx with rfl | hx
      · simp
      · have := h2 x hx; simp at this ⊢; omega
    · obtain ⟨h1, h2⟩ := lnF_bound l (cur ++ [c])
      refine ⟨by simp; omega, fun x hx => ?_⟩
      have := h2 x hx; simp at this ⊢; omega
theorem linesOf_bound (s : ByteArray) : (linesOf s).length ≤ s.size + 1 ∧ ∀ x ∈ linesOf s, x.size ≤ s.size := by
  obtain ⟨h1, h2⟩ := lnF_bound s.data.toList []
  unfold linesOf
  refine ⟨by rw [List.length_map]; rw [len_size] at h1; exact h1, fun x hx => ?_⟩
  obtain ⟨y, hy, rfl⟩ := List.mem_map.1 hx
  have := h2 y hy
  rw [mkB_size, ← len_size]; simpa using this
/-- is a text too large -/
def bigB (s : ByteArray) : Bool := decide (65536 < s.size) || decide (4096 < (linesOf s).length)
/-- the text of lines -/
def resL : List ByteArray → List UInt8
  | [] => []
  | s :: l => s.data.toList ++ 10 :: resL l
theorem resL_append (l m : List ByteArray) : resL (l ++ m) = resL l ++ resL m := by
  induction l with
  | nil => rfl
  | cons s l ih => simp [resL, ih]
theorem resL_take_le (l : List ByteArray) (k : Nat) : (resL (l.take k)).length ≤ (resL l).length := by
  conv => rhs; rw [← List.take_append_drop k l]
  rw [resL_append, List.length_append]; omega
end Go.Pw
namespace Go.Proofs.YtinpgnekjebipaaDoor
open Go.RowKit Go.Pw
set_option maxHeartbeats 1000000 in
theorem split_any (s : ByteArray) (w : World) (hs : s.size ≤ 1000000) :
    Calls Tryd.prog 45 #[.string s, .string ⟨#[10]⟩] w fun e w' => e = .returned (.slice (some ⟨w.heap.size, 0, none⟩) (spl [] s.data.toList).length (spl [] s.data.toList).length) ∧ w' = w.alloc (.cells (((spl [] s.data.toList).map mkB).map Value.string).toArray 9) := by
  have hle := Lib.countB_le ⟨#[10]⟩ (by decide) s.size s (Nat.le_refl _)
  have hlen := Lib.splitB_all ⟨#[10]⟩ (by decide) 0 _ s rfl
  have c := Any.strings_genSplit_core Tryd.lays221 (by kernel_rfl) s ⟨#[10]⟩ 0 (-1) (Lib.countB s ⟨#[10]⟩ + 1) w (by omega) (by decide) (Nat.zero_le _)
    (fun x c _ => (Tryd.strings_Index_one x 10 _).mono fun e w' ⟨h1, h2⟩ => ⟨by rw [h1]; exact congrArg (fun z => Ending.returned (.int .i64 z)) (Lib.index_one _ _).symm, h2⟩)
    ((Tryd.strings_Count_one s 10 w).mono fun e w' ⟨h1, h2⟩ => ⟨by rw [h1]; exact congrArg (fun z : Nat => Ending.returned (.int .i64 (z : Int))) (Lib.count_one _ _).symm, h2⟩)
    (by decide) (by decide) (by rw [if_pos (by decide)]; omega)
  rw [Nat.add_sub_cancel, hlen] at c
  have e2 : Lib.cellsOf (Lib.splitB ⟨#[10]⟩ 0 (Lib.countB s ⟨#[10]⟩) s) (Lib.countB s ⟨#[10]⟩ + 1) = ((Lib.splitB ⟨#[10]⟩ 0 (Lib.countB s ⟨#[10]⟩) s).map Value.string).toArray := by rw [← hlen]; exact Lib.cellsOf_full _
  have e3 : Lib.countB s ⟨#[10]⟩ + 1 = (spl [] s.data.toList).length := by
    rw [spl_len]; exact congrArg (· + 1) (Lib.count_one _ _)
  rw [e2, splitB_spl, e3] at c
  have HC := hide c
  clear c e2 e3 hlen hle
  go_enter Tryd.func45, Tryd.ntmps45
  go_wp2_with fail
  refine HC.out.mono ?_
  rintro e w' ⟨rfl, rfl⟩
  go_wp2_with fail
  go_ret
  exact ⟨rfl, by rw [List.map_map]; rfl⟩

end Go.Proofs.YtinpgnekjebipaaDoor
