/- The reference's lines: LinesOf, TooLarge, ResultOf. -/
import Derived.Test.YtinpgnekjebipaaDoorTextW
import Derived.Test.YtinpgnekjebipaaDoorHunk
import Derived.Deep.OwnRows
set_option linter.unusedVariables false
set_option linter.unusedSimpArgs false
namespace Go.Pw
open Go.RowKit
theorem one_new (w : World) (x : Value) (t : TypeId) : ∀ (j : Nat) (u : Value), [x][j]? = some u → (w.alloc (.cells #[x] t)).cell? (Addr.add ⟨w.heap.size, 0, none⟩ j) = some u
  | 0, u, h => by simp at h; subst h; simp [Addr.add, World.cell?_alloc_new]
  | j + 1, u, h => by simp at h
/-- a slice of strings of the call's own -/
def OwnS (t : TypeId) (w : World) (base : Nat) (v : Value) (l : List ByteArray) : Prop := w.ownsRow base t 1 v l.length (l.map Value.string)
theorem OwnS.push {t : TypeId} {w w' : World} {base : Nat} {v v' : Value} {l : List ByteArray} {x : ByteArray} {o : Obj} (h : OwnS t w base v l) (hb : base ≤ w.heap.size)
    (hown' : w'.ownsRow base t 1 v' (l.length + 1) (l.map Value.string ++ [.string x])) (hg : (w.alloc o).grownBy w' v.ownBlock) : OwnS t w' base v' (l ++ [x]) ∧ Below base w w' := by
  refine ⟨?_, below_append h hb hg⟩
  unfold OwnS
  rw [List.map_append, List.length_append]
  exact hown'
theorem OwnS.strs {t : TypeId} {w : World} {base : Nat} {v : Value} {l : List ByteArray} (h : OwnS t w base v l) (hs : ∀ s ∈ l, s.size ≤ maxLen) : Strs w v l := ⟨Rd.of_own h, hs⟩
/-- how far the lines have been read -/
def LnAt (s : ByteArray) (done : List ByteArray) (f k : Nat) : Prop := f ≤ k ∧ k ≤ s.size ∧ done.length ≤ k ∧ linesOf s = done ++ (lnF (s.extract f k).data.toList (s.data.toList.drop k)).map mkB
theorem LnAt.start (s : ByteArray) : LnAt s [] 0 0 := by
  refine ⟨Nat.le_refl _, Nat.zero_le _, Nat.le_refl _, ?_⟩
  rw [Lib.extract_data]; simp [linesOf]
theorem ext_snoc {s : ByteArray} {f k : Nat} (h : k < s.size) (hf : f ≤ k) : (s.extract f (k + 1)).data.toList = (s.extract f k).data.toList ++ [s[k]] := by
  rw [Lib.extract_data, Lib.extract_data, show k + 1 - f = (k - f) + 1 by omega, List.take_succ_eq_append_getElem (by rw [List.length_drop, len_size]; omega)]
  simp only [List.getElem_drop]
  congr 2
  have : f + (k - f) = k := by omega
  simp only [this]
  rfl
theorem LnAt.hit {s : ByteArray} {done : List ByteArray} {f k : Nat} (h : LnAt s done f k) (hk : k < s.size) (hc : s[k] = 10) : LnAt s (done ++ [s.extract f k]) (k + 1) (k + 1) := by
  obtain ⟨h1, h2, h3, h4⟩ := h
  refine ⟨Nat.le_refl _, by omega, by simp; omega, ?_⟩
  rw [h4, drop_byte s k hk, lnF, if_pos hc, List.map_cons, mkB_list, List.append_assoc]
  rw [show (s.extract (k + 1) (k + 1)).data.toList = [] by rw [Lib.extract_data]; simp]
  rfl
theorem LnAt.miss {s : ByteArray} {done : List ByteArray} {f k : Nat} (h : LnAt s done f k) (hk : k < s.size) (hc : ¬ s[k] = 10) : LnAt s done f (k + 1) := by
  obtain ⟨h1, h2, h3, h4⟩ := h
  refine ⟨by omega, by omega, by omega, ?_⟩
  rw [h4, drop_byte s k hk, lnF, if_neg hc, ext_snoc hk h1]
theorem LnAt.endMore {s : ByteArray} {done : List ByteArray} {f : Nat} (h : LnAt s done f s.size) (hf : f < s.size) : linesOf s = done ++ [s.extract f s.size] := by
  obtain ⟨h1, h2, h3, h4⟩ := h
  rw [h4, List.drop_of_length_le (by rw [len_size]; exact Nat.le_refl _), lnF, if_neg, List.map_cons, mkB_list]
  · rfl
  · intro e
    have := congrArg List.length e
    rw [len_size, ByteArray.size_extract] at this
    simp at this
    omega
theorem LnAt.endNone {s : ByteArray} {done : List ByteArray} {f : Nat} (h : LnAt s done f s.size) (hf : ¬ f < s.size) : linesOf s = done := by
  obtain ⟨h1, h2, h3, h4⟩ := h
  rw [h4, List.drop_of_length_le (by rw [len_size]; exact Nat.le_refl _), lnF, if_pos]
  · simp
  · rw [Lib.extract_data, show f = s.size by omega]; simp
end Go.Pw
namespace Go.Proofs.YtinpgnekjebipaaDoor
open Go.RowKit Go.Pw
theorem info_str : (Tryd.prog.info? 9).map (fun i => (i.zero, i.size, i.bytes)) = some (some (.string ByteArray.empty), 1, 16) := by kernel_rfl
set_option maxHeartbeats 2000000 in
set_option maxRecDepth 100000 in
theorem linesOf_any (s : ByteArray) (w : World) (hs : s.size ≤ 2000000) :
    Calls Tryd.prog 31 #[.string s] w fun e w' => ∃ v, e = .returned v ∧ OwnS 9 w' w.heap.size v (linesOf s) ∧ Below w.heap.size w w' := by
  obtain ⟨ip, hip, hpz, hps, hpb⟩ := info_parts info_str
  go_enter Tryd.func31, Tryd.ntmps31
  go_wp2_with fail
  go_loopw [3, 4, 8] (fun v f i wr => ∃ (k a : Nat) (done : List ByteArray), i = .int .i64 (k : Int) ∧ f = .int .i64 (a : Int) ∧ Hid (LnAt s done a k) ∧ OwnS 9 wr w.heap.size v done ∧ Below w.heap.size w wr) (fun _ _ i _ => s.size - (intOf i).toNat)
  case atStart => exact ⟨0, 0, [], rfl, rfl, hide (LnAt.start s), World.ownsRow_nil _ _ _ _, Below.refl _ _⟩
  case round =>
    obtain ⟨k, a, done, rfl, rfl, HL, hown, hb⟩ := hrel
    obtain ⟨hak, hks, hdk, _⟩ := HL.out
    by_cases hlt : k < s.size
    · by_cases hc : s[k] = 10
      · have hd : ((s[k].toNat : Int) == 10) = true := by rw [hc]; rfl
        have HN := hide (HL.out.hit hlt hc)
        have HB := hide hb
        have HO := hide hown
        clear hb hc
        unfold OwnS at hown
        go_wp2_with (at_builtin; refine wpList_append_own _ rfl _ _ 44 rfl w.heap.size 9 ip _ 1 16 Tryd.underlying44 hip hpz hps hpb rfl (by decide) _ _ _ rfl (hown.alloc _) ⟨wr.heap.size, 0, none⟩ 1 1 [.string (s.extract a k)] rfl rfl ?c1 ?c2 ?c3 ?c4 ?c5 ?_)
        case c1 => exact one_new _ _ _
        case c2 => intro u hu; simp at hu; rcases hu with rfl; rfl
        case c3 => unfold maxLen; omega
        case c4 => omega
        case c5 => have := HB.out.size; simp; omega
        intro v' w2 hown' hgrow _
        have hn := HO.out.push HB.out.size hown' hgrow
        have hb2 := HB.out.trans hn.2
        clear hown hown' hgrow
        go_wp2_with fail
        go_roundw
        case rel => exact ⟨k + 1, k + 1, done ++ [s.extract a k], by go_num, by go_num, HN, hn.1, hb2⟩
        case measure => simp [intOf]; omega
      · have hd : ((s[k].toNat : Int) == 10) = false := by
          simp only [beq_eq_false_iff_ne, ne_eq]
          intro e; apply hc; apply UInt8.toNat_inj.1; show _ = 10; omega
        have HN := hide (HL.out.miss hlt hc)
        clear hc
        go_wp2_with fail
        go_roundw
        case rel => exact ⟨k + 1, a, done, by go_num, rfl, HN, hown, hb⟩
        case measure => simp [intOf]; omega
    · obtain rfl : k = s.size := by omega
      by_cases hf : a < s.size
      · have HN := hide (HL.out.endMore hf)
        have HB := hide hb
        have HO := hide hown
        clear hb
        unfold OwnS at hown
        go_wp2_with (at_builtin; refine wpList_append_own _ rfl _ _ 44 rfl w.heap.size 9 ip _ 1 16 Tryd.underlying44 hip hpz hps hpb rfl (by decide) _ _ _ rfl (hown.alloc _) ⟨wr.heap.size, 0, none⟩ 1 1 [.string (s.extract a s.size)] rfl rfl ?d1 ?d2 ?d3 ?d4 ?d5 ?_)
        case d1 => exact one_new _ _ _
        case d2 => intro u hu; simp at hu; rcases hu with rfl; rfl
        case d3 => unfold maxLen; omega
        case d4 => omega
        case d5 => have := HB.out.size; simp; omega
        intro v' w2 hown' hgrow _
        have hn := HO.out.push HB.out.size hown' hgrow
        have hb2 := HB.out.trans hn.2
        clear hown hown' hgrow
        go_wp2_with fail
        go_ret
        exact ⟨_, rfl, by rw [HN.out]; exact hn.1, hb2⟩
      · have HN := hide (HL.out.endNone hf)
        go_wp2_with fail
        go_ret
        exact ⟨_, rfl, by rw [HN.out]; exact hown, hb⟩
end Go.Proofs.YtinpgnekjebipaaDoor
