import Derived.Test.YtinpgnekjebipaaDoorProg
import Derived.Test.YtinpgnekjebipaaDoorMem
import Derived.Test.YtinpgnekjebipaaDoorLcs
import Derived.Test.YtinpgnekjebipaaDoorShelf
import Derived.WalkKit
import Derived.WalkLawsBesides
import Derived.WalkSpells
import Derived.LoopTactic
import Derived.Outline
set_option linter.unusedVariables false
set_option linter.unusedSimpArgs false
namespace Go.Proofs.YtinpgnekjebipaaDoor
open Go.RowKit Go.Pw

def hasB (c : UInt8) (l : List UInt8) : Bool := l.any (· == c)
theorem hasB_cons (c x : UInt8) (l : List UInt8) : hasB c (x :: l) = (x == c || hasB c l) := by simp [hasB]
theorem in_hit {c : UInt8} {s : ByteArray} {k : Nat} (hf : Hid (hasB c s.data.toList = hasB c (s.data.toList.drop k))) (hk : k < s.size) (h : ((s[k].toNat : Int) == (c.toNat : Int)) = true) : true = hasB c s.data.toList := by
  have h1 : s[k] = c := UInt8.toNat_inj.1 (by simp at h; omega)
  rw [hf.out, drop_byte s k hk, hasB_cons, h1]; simp
theorem in_miss {c : UInt8} {s : ByteArray} {k : Nat} (hf : Hid (hasB c s.data.toList = hasB c (s.data.toList.drop k))) (hk : k < s.size) (h : ((s[k].toNat : Int) == (c.toNat : Int)) = false) : Hid (hasB c s.data.toList = hasB c (s.data.toList.drop (k + 1))) := by
  have h1 : ¬ s[k] = c := fun e => by simp [e] at h
  refine hf.out.trans ?_
  rw [drop_byte s k hk, hasB_cons, beq_false_of_ne h1]; rfl
theorem in_end {c : UInt8} {s : ByteArray} {k : Nat} (hf : Hid (hasB c s.data.toList = hasB c (s.data.toList.drop k))) (hk : ¬ k < s.size) : false = hasB c s.data.toList := by
  rw [hf.out, List.drop_of_length_le (by simp; omega)]; rfl

theorem idx_ge (l : List UInt8) (c : UInt8) : -1 ≤ Lib.indexByte l c := by
  induction l with
  | nil => simp [Lib.indexByte]
  | cons x l ih =>
    simp only [Lib.indexByte]
    split
    · omega
    · split <;> omega
theorem idx_has (l : List UInt8) (c : UInt8) : decide (0 ≤ Lib.indexByte l c) = hasB c l := by
  induction l with
  | nil => simp [Lib.indexByte, hasB]
  | cons x l ih =>
    have h := idx_ge l c
    rw [hasB_cons, ← ih]
    simp only [Lib.indexByte]
    by_cases hx : (x == c) = true
    · simp [hx]
    · by_cases hy : Lib.indexByte l c = -1
      · simp [hx, hy]
      · simp [hx, hy]; omega
theorem contains_nl (s : ByteArray) (w : World) :
    Calls Tryd.prog 55 #[.string s, .string ⟨#[10]⟩] w fun e w' => e = .returned (.bool (hasB 10 s.data.toList)) ∧ w = w' :=
  (Tryd.strings_Contains_one s 10 w).mono fun e w' ⟨h1, h2⟩ => ⟨by rw [h1, idx_has], h2.symm⟩

def lineErr (s : ByteArray) : Int := if 4096 < s.size then 2 else if hasB 10 s.data.toList then 5 else 0
def listErr (l : List ByteArray) : Int := if 1000 < l.length then 2 else firstNZ (l.map lineErr)
def listsErr (ls : List (List ByteArray)) : Int := firstNZ (ls.map listErr)

theorem line_large {s : ByteArray} (h : (4096 : Int) < s.size) : lineErr s = 2 := by unfold lineErr; rw [if_pos (by omega)]
theorem line_form {s : ByteArray} (h : (s.size : Int) ≤ 4096) (h1 : hasB 10 s.data.toList = true) : lineErr s = 5 := by unfold lineErr; rw [if_neg (by omega), if_pos h1]
theorem line_ok {s : ByteArray} (h : (s.size : Int) ≤ 4096) (h1 : hasB 10 s.data.toList = false) : lineErr s = 0 := by unfold lineErr; rw [if_neg (by omega), if_neg (by simp [h1])]

theorem list_large {l : List ByteArray} (h : (1000 : Int) < l.length) : listErr l = 2 := by unfold listErr; rw [if_pos (by omega)]
theorem list_rest {l : List ByteArray} (h : (l.length : Int) ≤ 1000) : listErr l = firstNZ (l.map lineErr) := by unfold listErr; rw [if_neg (by omega)]

set_option maxHeartbeats 1000000 in
theorem listed_any (v : Value) (ls : List (List ByteArray)) (w : World) (h : StrsL w v ls) :
    Calls Tryd.prog 40 #[v] w fun e w' => e = .returned (.int .i64 (listsErr ls)) ∧ w = w' := by
  obtain ⟨vs, hvl, ⟨_, A, cap, rfl, hcap, hmax, hx⟩, hel⟩ := h
  unfold maxLen at hmax
  have HX := hide hx
  have HE := hide hel
  have HV := hide hvl
  clear hx hel hvl
  go_enter Tryd.func40, Tryd.ntmps40
  go_wp2
  go_loop [9] (fun i => ∃ k : Nat, k ≤ ls.length ∧ i = .int .i64 k ∧ Hid (listsErr ls = firstNZ ((ls.drop k).map listErr))) (fun i => ls.length - (intOf i).toNat)
  case atStart => exact ⟨0, Nat.zero_le _, rfl, rfl⟩
  case round =>
    obtain ⟨k, hk, rfl, hf⟩ := hrel
    by_cases hlt : k < ls.length
    · obtain ⟨b, o, rfl, hb, hj⟩ := HX.out (by omega)
      have hkv : k < vs.length := by rw [HV.out]; exact hlt
      obtain ⟨⟨_, A2, cap2, hv2, hcap2, hmax2, hx2⟩, hsz2⟩ := HE.out k _ _ (List.getElem?_eq_getElem hkv) (List.getElem?_eq_getElem hlt)
      have hc : w.cell? ⟨b, o + k, none⟩ = some (.slice A2 ls[k].length cap2) := hj k _ (by rw [List.getElem?_eq_getElem hkv, hv2])
      clear hj hv2 hkv
      unfold maxLen at hmax2
      have HX2 := hide hx2
      have HZ2 := hide hsz2
      clear hx2 hsz2
      by_cases hl : 1000 < ls[k].length
      · go_wp2
        go_ret
        exact ⟨ret_int (fnz_hit hf hlt (list_large (by omega)) (by omega)), rfl⟩
      · have hl' : decide ((1000 : Int) < (ls[k].length : Int)) = false := by simp; omega
        go_wp2
        go_loop [18] (fun i => ∃ j : Nat, j ≤ ls[k].length ∧ i = .int .i64 j ∧ Hid (listErr ls[k] = firstNZ ((ls[k].drop j).map lineErr))) (fun i => ls[k].length - (intOf i).toNat)
        case atStart => exact ⟨0, Nat.zero_le _, rfl, list_rest (by omega)⟩
        case round =>
          obtain ⟨j, hj, rfl, hg⟩ := hrel
          by_cases hlj : j < ls[k].length
          · obtain ⟨b2, o2, rfl, hb2, hj2⟩ := HX2.out (by omega)
            have hc2 : w.cell? ⟨b2, o2 + j, none⟩ = some (.string ls[k][j]) := hj2 j _ (by simp [hlj])
            clear hj2
            have hz : ls[k][j].size ≤ 9223372036854775807 := HZ2.out _ (List.getElem_mem hlj)
            go_wp2_with (go_at_call 55; refine (contains_nl ls[k][j] _).mono ?_; rintro e w' ⟨rfl, rfl⟩)
            · go_ret
              exact ⟨ret_int (fnz_hit hf hlt (fnz_hit hg hlj (line_large (by assumption)) (by omega)).symm (by omega)), rfl⟩
            · go_ret
              exact ⟨ret_int (fnz_hit hf hlt (fnz_hit hg hlj (line_form (by assumption) (by assumption)) (by omega)).symm (by omega)), rfl⟩
            · go_round
              case rel => exact ⟨j + 1, by omega, by go_num, fnz_miss hg hlj (line_ok (by assumption) (by assumption))⟩
              case measure => simp [intOf]; omega
          · go_wp2
            go_round
            case rel => exact ⟨k + 1, by omega, by go_num, fnz_miss hf hlt (fnz_end hg hlj).symm⟩
            case measure => simp [intOf]; omega
    · go_wp2
      go_ret
      exact ⟨ret_int (fnz_end hf hlt), rfl⟩

/-- l[k:] of a slice of strings, under one name -/
theorem cut_from {w : World} {A : Option Addr} {cap k : Nat} {l : List ByteArray} (h : Strs w (.slice A l.length cap) l) (hk : k ≤ l.length) :
    ∃ vk, (∀ W, (Instr.slice 44 (.slice A l.length cap) (some (.int .i64 (k : Int))) none none).run Tryd.prog W = .ok vk W) ∧ Strs w vk (l.drop k) := by
  refine ⟨_, fun W => ?_, h.from_ hk⟩
  have hk' : (k : Int) ≤ (l.length : Int) := by omega
  simp [go_sem, hk']
theorem cut_both {w : World} {A : Option Addr} {cap lo hi : Nat} {l : List ByteArray} (h : Strs w (.slice A l.length cap) l) (h1 : lo ≤ hi) (hk : hi ≤ l.length) :
    ∃ vk, (∀ W, (Instr.slice 44 (.slice A l.length cap) (some (.int .i64 (lo : Int))) (some (.int .i64 (hi : Int))) none).run Tryd.prog W = .ok vk W) ∧ Strs w vk ((l.drop lo).take (hi - lo)) := by
  refine ⟨_, fun W => ?_, h.sliced h1 hk⟩
  have hc : l.length ≤ cap := by obtain ⟨⟨_, _, _, hv, hc, _⟩, _⟩ := h; injection hv with _ _ e; omega
  have h1' : (lo : Int) ≤ (hi : Int) := by omega
  have h2' : (hi : Int) ≤ (cap : Int) := by omega
  simp [go_sem, h1', h2']

theorem idxFrom_place (x : ByteArray) : ∀ (l : List ByteArray) (i : Nat), Lib.idxFromS l x i = match place x l with | some n => ((i + n : Nat) : Int) | none => -1
  | [], i => by simp [Lib.idxFromS, place]
  | y :: ys, i => by
    rw [Lib.idxFromS, place]
    by_cases h : y = x
    · simp [h]
    · rw [if_neg h, if_neg h, idxFrom_place x ys (i + 1)]
      cases place x ys with
      | none => rfl
      | some n => show ((i + 1 + n : Nat) : Int) = ((i + (n + 1) : Nat) : Int); omega
theorem idx_place (x : ByteArray) (l : List ByteArray) : Lib.idxOfS l x = match place x l with | some n => (n : Int) | none => -1 := by
  rw [Lib.idxOfS, idxFrom_place]
  cases place x l <;> simp
/-- slices.Index -/
theorem index_any (v : Value) (l : List ByteArray) (x : ByteArray) (w : World) (h : Strs w v l) :
    Calls Tryd.prog 76 #[v, .string x] w fun e w' => e = .returned (.int .i64 (Lib.idxOfS l x)) ∧ w' = w := by
  obtain ⟨⟨_, A, cap, rfl, hcap, hmax, hx⟩, hsz⟩ := h
  by_cases h0 : l.length = 0
  · have : l = [] := List.eq_nil_of_length_eq_zero h0
    subst this
    exact Tryd.slices_Index_string_empty A cap x w
  · obtain ⟨b, o, rfl, hb, hj⟩ := hx (by omega)
    have := Tryd.slices_Index_string b o l.length cap l x w (Nat.le_refl _) (by unfold maxLen at hmax; omega) (fun j hj' => hj j _ (by simp [hj']))
    rwa [List.take_length] at this
theorem index_hit (v : Value) (l : List ByteArray) (x : ByteArray) (n : Nat) (w : World) (h : Strs w v l) (hp : place x l = some n) :
    Calls Tryd.prog 76 #[v, .string x] w fun e w' => e = .returned (.int .i64 (n : Int)) ∧ w' = w :=
  (index_any v l x w h).mono fun e w' ⟨h1, h2⟩ => ⟨by rw [h1, idx_place, hp], h2⟩
theorem index_miss (v : Value) (l : List ByteArray) (x : ByteArray) (w : World) (h : Strs w v l) (hp : place x l = none) :
    Calls Tryd.prog 76 #[v, .string x] w fun e w' => e = .returned (.int .i64 (-1)) ∧ w' = w :=
  (index_any v l x w h).mono fun e w' ⟨h1, h2⟩ => ⟨by rw [h1, idx_place, hp], h2⟩
end Go.Proofs.YtinpgnekjebipaaDoor
