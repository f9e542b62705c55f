/- The walks of an order, third part: the number at the beginning of a key. -/
import Derived.Test.YtinpgnekjebipaaDoorKey
import Derived.Test.YtinpgnekjebipaaDoorShelf
import Derived.Lib.IndexBytes
set_option linter.unusedVariables false
set_option linter.unusedSimpArgs false
namespace Go.Pw
open Go.RowKit
def strLen : Value → Nat | .string t => t.size | _ => 0
theorem len_size (s : ByteArray) : s.data.toList.length = s.size := Array.length_toList
theorem of_list {s : ByteArray} {l : List UInt8} (h : s.data.toList = l) : s = ⟨l.toArray⟩ := by
  obtain ⟨⟨m⟩⟩ := s
  simp at h; subst h; rfl
theorem empty_of {s : ByteArray} (h : s.size = 0) : s = ⟨#[]⟩ := by
  obtain ⟨⟨l⟩⟩ := s
  simp [ByteArray.size] at h
  subst h; rfl
theorem isEmpty_of {s : ByteArray} (h : 0 < s.size) : s.toList.isEmpty = false := by
  rw [Lib.toList_data]
  cases e : s.data.toList with
  | nil => have := len_size s; rw [e, List.length_nil] at this; omega
  | cons _ _ => rfl
theorem head_byte (s : ByteArray) (h : 0 < s.size) : s.data.toList = s[0] :: s.data.toList.drop 1 := by
  have := drop_byte s 0 h
  simpa using this
theorem digB_iff (c : UInt8) : digB c = true ↔ 48 ≤ (c.toNat : Int) ∧ (c.toNat : Int) ≤ 57 := by unfold digB; simp; omega
theorem digs_step (s : ByteArray) (k : Nat) (h : k < s.size) : ((s.data.toList.drop k).takeWhile digB).length = if 48 ≤ (s[k].toNat : Int) ∧ (s[k].toNat : Int) ≤ 57 then 1 + ((s.data.toList.drop (k + 1)).takeWhile digB).length else 0 := by
  rw [drop_byte s k h, List.takeWhile_cons]
  split
  · rename_i hd; rw [if_pos ((digB_iff _).1 hd)]; simp; omega
  · rename_i hd; rw [if_neg (fun e => hd ((digB_iff _).2 e))]; rfl
theorem digs_le (s : ByteArray) : (s.data.toList.takeWhile digB).length ≤ s.size := by
  rw [← len_size]; exact (List.takeWhile_prefix _).length_le
theorem skip_blank {t : ByteArray} {l : List UInt8} (h0 : 0 < t.size) (hb : blankB t[0] = true) (H : Hid (t.data.toList.dropWhile blankB = l)) : Hid ((t.extract 1 t.size).data.toList.dropWhile blankB = l) := by
  show _ = _
  rw [← H.out, Lib.extract_to_end, head_byte t h0, List.dropWhile_cons, if_pos hb]; rfl
theorem stop_blank {t : ByteArray} {l : List UInt8} (h0 : 0 < t.size) (hb : blankB t[0] = false) (H : Hid (t.data.toList.dropWhile blankB = l)) : Hid (t.data.toList = l) := by
  show _ = _
  rw [← H.out]
  conv => rhs; rw [head_byte t h0]
  rw [List.dropWhile_cons, if_neg (by simp [hb])]
  exact head_byte t h0
theorem cut_sign (d : List UInt8) : Lib.trimPrefix d [45] = afterSign d ∧ Lib.hasPrefix d [45] = hasSign d := by
  unfold Lib.trimPrefix Lib.hasPrefix afterSign hasSign
  match d with
  | [] => simp
  | c :: t =>
    by_cases h : c = 45
    · subst h; simp
    · have : ¬ (45 = c) := fun e => h e.symm
      simp [this]
      refine ⟨?_, ?_⟩
      · split
        · rename_i e; simp at e; exact absurd e.1 h
        · rfl
      · split
        · rename_i e; simp at e; exact absurd e.1 h
        · simp [List.isPrefixOf, this]
theorem part_dot {r : ByteArray} (h0 : 0 < r.size) (h : r[0] = 46) : partD r.data.toList = (r.data.toList.drop 1).takeWhile digB := by
  rw [head_byte r h0, h]; rfl
theorem part_none {r : ByteArray} (h0 : 0 < r.size) (h : ¬ r[0] = 46) : partD r.data.toList = [] := by
  rw [head_byte r h0]
  unfold partD
  split
  · rename_i e; simp at e; exact absurd e.1 h
  · rfl
theorem take_digs (l : List UInt8) : l.take (l.takeWhile digB).length = l.takeWhile digB := by
  induction l with
  | nil => rfl
  | cons c l ih =>
    rw [List.takeWhile_cons]
    split
    · simp [ih]
    · rfl
theorem drop_digs (l : List UInt8) : l.drop (l.takeWhile digB).length = l.dropWhile digB := by
  induction l with
  | nil => rfl
  | cons c l ih =>
    rw [List.takeWhile_cons, List.dropWhile_cons]
    split
    · simp [ih]
    · rfl
theorem takeWhile_le (p : UInt8 → Bool) (l : List UInt8) : (l.takeWhile p).length ≤ l.length := (List.takeWhile_prefix _).length_le
theorem dropWhile_le (p : UInt8 → Bool) (l : List UInt8) : (l.dropWhile p).length ≤ l.length := (List.dropWhile_suffix _).length_le
end Go.Pw
namespace Go.Proofs.YtinpgnekjebipaaDoor
open Go.RowKit Go.Pw

theorem cutSign_any (t : ByteArray) (w : World) : Calls Tryd.prog 84 #[.string t, .string ⟨#[45]⟩] w fun e w' => ∃ a : ByteArray, a.size ≤ t.size ∧ a.data.toList = afterSign t.data.toList ∧ e = .returned (.tuple #[.string a, .bool (hasSign t.data.toList)]) ∧ w = w' := by
  refine (Tryd.strings_CutPrefix t ⟨#[45]⟩ w).mono ?_
  rintro e w' ⟨rfl, rfl⟩
  obtain ⟨h1, h2⟩ := cut_sign t.data.toList
  refine ⟨⟨(afterSign t.data.toList).toArray⟩, ?_, rfl, ?_, rfl⟩
  · rw [← len_size, ← len_size]
    unfold afterSign
    split
    · rename_i e; rw [e]; simp
    · exact Nat.le_refl _
  · rw [← h1, ← h2]
/-- a number as a value -/
def nmV (n : Nm) : Value := .agg #[.bool n.neg, .string ⟨n.whole.toArray⟩, .string ⟨n.part.toArray⟩]

theorem nm_fin {D W P : List UInt8} {sg b : Bool} {wh pa : ByteArray} {n : Nm} (HR : Hid (n = ⟨hasSign D && !(W ++ P).isEmpty, W, P⟩)) (HSG : Hid (hasSign D = sg)) (HW : Hid (wh.data.toList = W)) (HPA : Hid (pa.data.toList = P)) (hb : b = (sg && !(wh ++ pa).toList.isEmpty)) :
    Ending.returned (.agg #[.bool b, .string wh, .string pa]) = .returned (nmV n) := by
  have e : (wh ++ pa).toList = W ++ P := by
    rw [Lib.toList_data, ByteArray.data_append, Array.toList_append, HW.out, HPA.out]
  rw [HR.out, HSG.out, hb, e]
  unfold nmV
  rw [← of_list HW.out, ← of_list HPA.out]
theorem below_two (w : World) (x y : Obj) : Below w.heap.size w ((w.alloc x).alloc y) := ((Below.refl _ _).alloc (Nat.le_refl _) _).alloc (by simp) _

end Go.Proofs.YtinpgnekjebipaaDoor
