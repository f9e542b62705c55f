/- The walks of an order, third part: the number at the beginning of a key. -/
import Derived.Test.YtifpmigghplmoaaGreatDoorZKey
import Derived.Test.YtifpmigghplmoaaGreatDoorShelf
import Derived.Lib.IndexBytes
set_option linter.unusedVariables false
set_option linter.unusedSimpArgs false
namespace Go.Pw
open Go.RowKit
def strLen : Value → Nat | .string t => t.size | _ => 0
theorem len_size (s : ByteArray) : s.data.toList.length = s.size := Array.length_toList
theorem of_list {s : ByteArray} {l : List UInt8} (h : s.data.toList = l) : s = ⟨l.toArray⟩ := by
  obtain ⟨⟨m⟩⟩ := s
  simp at h; subst h; rfl
theorem empty_of {s : ByteArray} (h : s.size = 0) : s = ⟨#[]⟩ := by
  obtain ⟨⟨l⟩⟩ := s
  simp [ByteArray.size] at h
  subst h; rfl
theorem isEmpty_of {s : ByteArray} (h : 0 < s.size) : s.toList.isEmpty = false := by
  rw [Lib.toList_data]
  cases e : s.data.toList with
  | nil => have := len_size s; rw [e, List.length_nil] at this; omega
  | cons _ _ => rfl
theorem head_byte (s : ByteArray) (h : 0 < s.size) : s.data.toList = s[0] :: s.data.toList.drop 1 := by
  have := drop_byte s 0 h
  simpa using this
theorem digB_iff (c : UInt8) : digB c = true ↔ 48 ≤ (c.toNat : Int) ∧ (c.toNat : Int) ≤ 57 := by unfold digB; simp; omega
theorem digs_step (s : ByteArray) (k : Nat) (h : k < s.size) : ((s.data.toList.drop k).takeWhile digB).length = if 48 ≤ (s[k].toNat : Int) ∧ (s[k].toNat : Int) ≤ 57 then 1 + ((s.data.toList.drop (k + 1)).takeWhile digB).length else 0 := by
  rw [drop_byte s k h, List.takeWhile_cons]
  split
  · rename_i hd; rw [if_pos ((digB_iff _).1 hd)]; simp; omega
  · rename_i hd; rw [if_neg (fun e => hd ((digB_iff _).2 e))]; rfl
theorem digs_le (s : ByteArray) : (s.data.toList.takeWhile digB).length ≤ s.size := by
  rw [← len_size]; exact (List.takeWhile_prefix _).length_le
theorem skip_blank {t : ByteArray} {l : List UInt8} (h0 : 0 < t.size) (hb : blankB t[0] = true) (H : Hid (t.data.toList.dropWhile blankB = l)) : Hid ((t.extract 1 t.size).data.toList.dropWhile blankB = l) := by
  show _ = _
  rw [← H.out, Lib.extract_to_end, head_byte t h0, List.dropWhile_cons, if_pos hb]; rfl
theorem stop_blank {t : ByteArray} {l : List UInt8} (h0 : 0 < t.size) (hb : blankB t[0] = false) (H : Hid (t.data.toList.dropWhile blankB = l)) : Hid (t.data.toList = l) := by
  show _ = _
  rw [← H.out]
  conv => rhs; rw [head_byte t h0]
  rw [List.dropWhile_cons, if_neg (by simp [hb])]
  exact head_byte t h0
theorem cut_sign (d : List UInt8) : Lib.trimPrefix d [45] = afterSign d ∧ Lib.hasPrefix d [45] = hasSign d := by
  unfold Lib.trimPrefix Lib.hasPrefix afterSign hasSign
  match d with
  | [] => simp
  | c :: t =>
    by_cases h : c = 45
    · subst h; simp
    · have : ¬ (45 = c) := fun e => h e.symm
      simp [this]
      refine ⟨?_, ?_⟩
      · split
        · rename_i e; simp at e; exact absurd e.1 h
        · rfl
      · split
        · rename_i e; simp at e; exact absurd e.1 h
        · simp [List.isPrefixOf, this]
theorem part_dot {r : ByteArray} (h0 : 0 < r.size) (h : r[0] = 46) : partD r.data.toList = (r.data.toList.drop 1).takeWhile digB := by
  rw [head_byte r h0, h]; rfl
theorem part_none {r : ByteArray} (h0 : 0 < r.size) (h : ¬ r[0] = 46) : partD r.data.toList = [] := by
  rw [head_byte r h0]
  unfold partD
  split
  · rename_i e; simp at e; exact absurd e.1 h
  · rfl
theorem take_digs (l : List UInt8) : l.take (l.takeWhile digB).length = l.takeWhile digB := by
  induction l with
  | nil => rfl
  | cons c l ih =>
    rw [List.takeWhile_cons]
    split
    · simp [ih]
    · rfl
theorem drop_digs (l : List UInt8) : l.drop (l.takeWhile digB).length = l.dropWhile digB := by
  induction l with
  | nil => rfl
  | cons c l ih =>
    rw [List.takeWhile_cons, List.dropWhile_cons]
    split
    · simp [ih]
    · rfl
theorem takeWhile_le (p : UInt8 → Bool) (l : List UInt8) : (l.takeWhile p).length ≤ l.length := (List.takeWhile_prefix _).length_le
theorem dropWhile_le (p : UInt8 → Bool) (l : List UInt8) : (l.dropWhile p).length ≤ l.length := (List.dropWhile_suffix _).length_le
end Go.Pw
namespace Go.Proofs.YtifpmigghplmoaaGreatDoor
open Go.RowKit Go.Pw

set_option maxHeartbeats 1000000 in
theorem digitsOf_any (s : ByteArray) (w : World) (hs : s.size ≤ 1000000) :
    Calls Tryz.prog 95 #[.string s] w fun e w' => e = .returned (.int .i64 ((s.data.toList.takeWhile digB).length : Int)) ∧ w = w' := by
  go_enter Tryz.func95, Tryz.ntmps95
  go_wp2_with fail
  go_loop [3] (fun n => ∃ k : Nat, k ≤ s.size ∧ n = .int .i64 (k : Int) ∧ Hid ((s.data.toList.takeWhile digB).length = k + ((s.data.toList.drop k).takeWhile digB).length)) (fun n => s.size - (intOf n).toNat)
  case atStart => exact ⟨0, by omega, rfl, hide (by simp)⟩
  case round =>
    obtain ⟨k, hk, rfl, HK⟩ := hrel
    by_cases hlt : k < s.size
    · have HS := hide (digs_step s k hlt)
      go_wp2_with fail
      all_goals first
        | (go_round
           case rel => exact ⟨k + 1, by omega, by go_num, hide (by rw [HK.out, HS.out, if_pos ⟨‹_›, ‹_›⟩]; omega)⟩
           case measure => simp [intOf]; omega)
        | (go_ret
           exact ⟨ret_int (by rw [HK.out, HS.out, if_neg (by omega)]; simp), rfl⟩)
    · have HS : Hid ((s.data.toList.takeWhile digB).length = k) := by
        show _ = _
        rw [HK.out, List.drop_of_length_le (by rw [len_size]; omega)]; rfl
      go_wp2_with fail
      go_ret
      exact ⟨ret_int (by rw [HS.out]), rfl⟩

theorem cutSign_any (t : ByteArray) (w : World) : Calls Tryz.prog 115 #[.string t, .string ⟨#[45]⟩] w fun e w' => ∃ a : ByteArray, a.size ≤ t.size ∧ a.data.toList = afterSign t.data.toList ∧ e = .returned (.tuple #[.string a, .bool (hasSign t.data.toList)]) ∧ w = w' := by
  refine (Tryz.strings_CutPrefix t ⟨#[45]⟩ w).mono ?_
  rintro e w' ⟨rfl, rfl⟩
  obtain ⟨h1, h2⟩ := cut_sign t.data.toList
  refine ⟨⟨(afterSign t.data.toList).toArray⟩, ?_, rfl, ?_, rfl⟩
  · rw [← len_size, ← len_size]
    unfold afterSign
    split
    · rename_i e; rw [e]; simp
    · exact Nat.le_refl _
  · rw [← h1, ← h2]
theorem trimL_any (t : ByteArray) (w : World) : Calls Tryz.prog 174 #[.string t, .string ⟨#[48]⟩] w fun e w' => ∃ a : ByteArray, a.size ≤ t.size ∧ a.data.toList = t.data.toList.dropWhile (· == 48) ∧ e = .returned (.string a) ∧ w = w' := by
  refine (Tryz.strings_TrimLeft_one t 48 (by decide) w).mono ?_
  rintro e w' ⟨rfl, rfl⟩
  exact ⟨⟨(t.data.toList.dropWhile (· == 48)).toArray⟩, by rw [← len_size, ← len_size]; exact dropWhile_le _ _, rfl, rfl, rfl⟩
theorem trimR_any (t : ByteArray) (w : World) (ht : t.size ≤ 1000000) : Calls Tryz.prog 175 #[.string t, .string ⟨#[48]⟩] w fun e w' => ∃ a : ByteArray, a.size ≤ t.size ∧ a.data.toList = tailZ t.data.toList ∧ e = .returned (.string a) ∧ w = w' := by
  refine (Tryz.strings_TrimRight_one t 48 (by decide) w (by omega)).mono ?_
  rintro e w' ⟨rfl, rfl⟩
  refine ⟨⟨(tailZ t.data.toList).toArray⟩, ?_, rfl, rfl, rfl⟩
  rw [← len_size, ← len_size]
  unfold tailZ
  have := dropWhile_le (· == 48) t.data.toList.reverse
  simpa using this

/-- a number as a value -/
def nmV (n : Nm) : Value := .agg #[.bool n.neg, .string ⟨n.whole.toArray⟩, .string ⟨n.part.toArray⟩]

theorem nm_fin {D W P : List UInt8} {sg b : Bool} {wh pa : ByteArray} {n : Nm} (HR : Hid (n = ⟨hasSign D && !(W ++ P).isEmpty, W, P⟩)) (HSG : Hid (hasSign D = sg)) (HW : Hid (wh.data.toList = W)) (HPA : Hid (pa.data.toList = P)) (hb : b = (sg && !(wh ++ pa).toList.isEmpty)) :
    Ending.returned (.agg #[.bool b, .string wh, .string pa]) = .returned (nmV n) := by
  have e : (wh ++ pa).toList = W ++ P := by
    rw [Lib.toList_data, ByteArray.data_append, Array.toList_append, HW.out, HPA.out]
  rw [HR.out, HSG.out, hb, e]
  unfold nmV
  rw [← of_list HW.out, ← of_list HPA.out]
theorem below_two (w : World) (x y : Obj) : Below w.heap.size w ((w.alloc x).alloc y) := ((Below.refl _ _).alloc (Nat.le_refl _) _).alloc (by simp) _

set_option maxHeartbeats 2000000 in
set_option maxRecDepth 100000 in
theorem numberOf_any (s : ByteArray) (w : World) (hs : s.size ≤ 1000000) :
    Calls Tryz.prog 144 #[.string s] w fun e w' => e = .returned (nmV (numOf s.data.toList)) ∧ Below w.heap.size w w' := by
  have HP : Hid (∀ d, Lib.trimPrefix d [45] = afterSign d ∧ Lib.hasPrefix d [45] = hasSign d) := hide cut_sign
  obtain ⟨D, hD⟩ : ∃ D, s.data.toList.dropWhile blankB = D := ⟨_, rfl⟩
  have HR : Hid (numOf s.data.toList = ⟨hasSign D && !((((afterSign D).takeWhile digB).dropWhile (· == 48)) ++ tailZ (partD ((afterSign D).dropWhile digB))).isEmpty, ((afterSign D).takeWhile digB).dropWhile (· == 48), tailZ (partD ((afterSign D).dropWhile digB))⟩) := by
    show _ = _
    unfold numOf; rw [hD]
  have HD := hide hD
  clear hD
  go_enter Tryz.func144, Tryz.ntmps144
  go_wp2_with fail
  go_loop [0] (fun v => ∃ t : ByteArray, t.size ≤ s.size ∧ v = .string t ∧ Hid (t.data.toList.dropWhile blankB = D)) (fun v => strLen v)
  case atStart => exact ⟨s, Nat.le_refl _, rfl, HD⟩
  case round =>
    obtain ⟨t, ht, rfl, HT⟩ := hrel
    by_cases h0 : 0 < t.size
    case' pos =>
      have hte := isEmpty_of h0
      by_cases hb : blankB t[0] = true
      case' pos =>
        have HN := skip_blank h0 hb HT
        have hz : (t.extract 1 t.size).size = t.size - 1 := by rw [ByteArray.size_extract]; omega
        have HZ := hide hz
        clear hz
        go_wp2_with (go_at_call 173; refine (blank_any _ _).mono ?_; rintro e w' ⟨rfl, rfl⟩)
        go_round
        case rel => exact ⟨t.extract 1 t.size, by rw [HZ.out]; omega, rfl, HN⟩
        case measure => show (t.extract 1 t.size).size < t.size; rw [HZ.out]; omega
      case' neg =>
        have hb : blankB t[0] = false := by simpa using hb
        have HE := stop_blank h0 hb HT
        go_wp2_with (go_at_call 173; refine (blank_any _ _).mono ?_; rintro e w' ⟨rfl, rfl⟩)
        clear hb HT
    case' neg =>
      have hte : t.toList.isEmpty = true := by
        rw [Lib.toList_data, empty_of (s := t) (by omega)]; rfl
      have HE : Hid (t.data.toList = D) := by
        show _ = _
        rw [← HT.out, empty_of (s := t) (by omega)]; rfl
      go_wp2_with fail
    all_goals
      clear hte
      refine (cutSign_any _ _).mono ?_
      rintro e w' ⟨a, haz, ha, rfl, rfl⟩
      have HA : Hid (a.data.toList = afterSign D) := by
        show _ = _
        rw [ha, HE.out]
      clear ha
      obtain ⟨sg, hsg⟩ : ∃ sg, hasSign t.data.toList = sg := ⟨_, rfl⟩
      rw [hsg]
      have HSG : Hid (hasSign D = sg) := by
        show _ = _
        rw [← hsg, HE.out]
      clear hsg
      have haz' : a.size ≤ 1000000 := by omega
      go_wp2_with fail
      refine (digitsOf_any a _ haz').mono ?_
      rintro e w' ⟨rfl, rfl⟩
      obtain ⟨n, hn⟩ : ∃ n, (a.data.toList.takeWhile digB).length = n := ⟨_, rfl⟩
      have hna : n ≤ a.size := by rw [← hn]; exact digs_le a
      rw [hn]
      have HN := hide hn
      clear hn
      go_wp2_with fail
      refine (trimL_any _ _).mono ?_
      rintro e w' ⟨wh, hwz, hwh, rfl, rfl⟩
      have HW : Hid (wh.data.toList = ((afterSign D).takeWhile digB).dropWhile (· == 48)) := by
        show _ = _
        rw [hwh, Lib.extract_data]
        simp only [List.drop_zero, Nat.sub_zero]
        rw [← HN.out, take_digs, HA.out]
      have hwz' : wh.size ≤ 1000000 := by rw [ByteArray.size_extract] at hwz; omega
      clear hwh hwz
      obtain ⟨r, hr⟩ : ∃ r, a.extract n a.size = r := ⟨_, rfl⟩
      have hrz : r.size ≤ 1000000 := by rw [← hr, ByteArray.size_extract]; omega
      have HRL : Hid (r.data.toList = (afterSign D).dropWhile digB) := by
        show _ = _
        rw [← hr, Lib.extract_to_end, ← HN.out, drop_digs, HA.out]
      by_cases hr0 : 0 < r.size
      case' pos =>
        have hre := isEmpty_of hr0
        by_cases hdot : r[0] = 46
        case' pos =>
          have hd1 : ((r[0].toNat : Int) == 46) = true := by rw [hdot]; rfl
          have HPD := hide (part_dot hr0 hdot)
          clear hdot
          go_wp2_with fail
          refine (digitsOf_any _ _ (by rw [ByteArray.size_extract]; omega)).mono ?_
          rintro e w' ⟨rfl, rfl⟩
          obtain ⟨m, hm⟩ : ∃ m, ((r.extract 1 r.size).data.toList.takeWhile digB).length = m := ⟨_, rfl⟩
          have hmr : m + 1 ≤ r.size := by
            have := digs_le (r.extract 1 r.size)
            rw [ByteArray.size_extract] at this; omega
          rw [hm]
          have HM := hide hm
          clear hm
          go_wp2_with fail
          refine (trimR_any _ _ (by rw [ByteArray.size_extract]; omega)).mono ?_
          rintro e w' ⟨pa, hpz, hpa, rfl, rfl⟩
          have HPA : Hid (pa.data.toList = tailZ (partD ((afterSign D).dropWhile digB))) := by
            show _ = _
            rw [hpa, Lib.extract_data, ← HRL.out, HPD.out]
            congr 1
            have e1 := HM.out
            rw [Lib.extract_to_end] at e1
            rw [show 1 + m - 1 = m by omega, ← e1, take_digs]
          have hpz' : pa.size ≤ 1000000 := by rw [ByteArray.size_extract] at hpz; omega
          clear hpz hpa
          cases sg
          · go_wp2_with fail
            exact bodyPost_ret (v := .agg #[.bool false, .string wh, .string pa]) (by simp [results, Tryz.results144, go_sem]) rfl ⟨nm_fin HR HSG HW HPA rfl, below_two _ _ _⟩
          · go_wp2_with fail
            exact bodyPost_ret (v := .agg #[.bool (!(wh ++ pa).toList.isEmpty), .string wh, .string pa]) (by simp [results, Tryz.results144, go_sem]) rfl ⟨nm_fin HR HSG HW HPA rfl, below_two _ _ _⟩
        case' neg =>
          have hd1 : ((r[0].toNat : Int) == 46) = false := by
            simp only [beq_eq_false_iff_ne, ne_eq]
            intro e; apply hdot; apply UInt8.toNat_inj.1; show _ = 46; omega
          have HPA : Hid ((⟨#[]⟩ : ByteArray).data.toList = tailZ (partD ((afterSign D).dropWhile digB))) := by
            show _ = _
            rw [← HRL.out, part_none hr0 hdot]; rfl
          clear hdot
      case' neg =>
        have hre : r.toList.isEmpty = true := by
          rw [Lib.toList_data, empty_of (s := r) (by omega)]; rfl
        have HPA : Hid ((⟨#[]⟩ : ByteArray).data.toList = tailZ (partD ((afterSign D).dropWhile digB))) := by
          show _ = _
          rw [← HRL.out, empty_of (s := r) (by omega)]; rfl
      all_goals
        cases sg
        · go_wp2_with fail
          exact bodyPost_ret (v := .agg #[.bool false, .string wh, .string ⟨#[]⟩]) (by simp [results, Tryz.results144, go_sem]) rfl ⟨nm_fin HR HSG HW HPA rfl, below_two _ _ _⟩
        · go_wp2_with fail
          exact bodyPost_ret (v := .agg #[.bool (!(wh ++ (⟨#[]⟩ : ByteArray)).toList.isEmpty), .string wh, .string ⟨#[]⟩]) (by simp [results, Tryz.results144, go_sem]) rfl ⟨nm_fin HR HSG HW HPA rfl, below_two _ _ _⟩
end Go.Proofs.YtifpmigghplmoaaGreatDoor
