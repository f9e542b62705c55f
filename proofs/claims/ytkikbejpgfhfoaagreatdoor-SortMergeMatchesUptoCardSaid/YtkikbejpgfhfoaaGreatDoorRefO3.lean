/- The reference's order, third part: the number at the beginning of a key. -/
import Derived.Test.YtkikbejpgfhfoaaGreatDoorRefO1
set_option linter.unusedVariables false
set_option linter.unusedSimpArgs false
namespace Go.Pw
open Go.RowKit
/-- digits read from a place on, so far -/
def ScanAt (s : ByteArray) (a m : Nat) : Prop := a ≤ m ∧ m ≤ s.size ∧ (s.data.toList.drop a).takeWhile digB = (s.extract a m).data.toList ++ (s.data.toList.drop m).takeWhile digB ∧ (s.data.toList.drop a).dropWhile digB = (s.data.toList.drop m).dropWhile digB
theorem ScanAt.start {s : ByteArray} {a : Nat} (h : a ≤ s.size) : ScanAt s a a := ⟨Nat.le_refl _, h, by rw [Lib.extract_data]; simp, rfl⟩
theorem ScanAt.go {s : ByteArray} {a m : Nat} (h : ScanAt s a m) (hm : m < s.size) (hd : digB s[m] = true) : ScanAt s a (m + 1) := by
  obtain ⟨h1, h2, h3, h4⟩ := h
  refine ⟨by omega, by omega, ?_, ?_⟩
  · rw [h3, ext_snoc hm h1, drop_byte s m hm, List.takeWhile_cons, if_pos hd]; simp
  · rw [h4, drop_byte s m hm, List.dropWhile_cons, if_pos hd]
theorem ScanAt.stop {s : ByteArray} {a m : Nat} (h : ScanAt s a m) (hm : m < s.size) (hd : digB s[m] = false) : (s.extract a m).data.toList = (s.data.toList.drop a).takeWhile digB ∧ s.data.toList.drop m = (s.data.toList.drop a).dropWhile digB := by
  obtain ⟨h1, h2, h3, h4⟩ := h
  refine ⟨?_, ?_⟩
  · rw [h3, drop_byte s m hm, List.takeWhile_cons, if_neg (by simp [hd])]; simp
  · rw [h4, drop_byte s m hm, List.dropWhile_cons, if_neg (by simp [hd])]
theorem ScanAt.fin {s : ByteArray} {a m : Nat} (h : ScanAt s a m) (hm : ¬ m < s.size) : (s.extract a m).data.toList = (s.data.toList.drop a).takeWhile digB ∧ s.data.toList.drop m = (s.data.toList.drop a).dropWhile digB := by
  obtain ⟨h1, h2, h3, h4⟩ := h
  have e : s.data.toList.drop m = [] := List.drop_of_length_le (by rw [len_size]; omega)
  exact ⟨by rw [h3, e]; simp, by rw [h4, e]; simp⟩
theorem sign_yes {s : ByteArray} {D : List UInt8} {k : Nat} (hD : s.data.toList.drop k = D) (hk : k < s.size) (h : s[k] = 45) : s.data.toList.drop (k + 1) = afterSign D ∧ hasSign D = true := by
  rw [drop_byte s k hk, h] at hD
  subst hD
  exact ⟨rfl, rfl⟩
theorem sign_no {s : ByteArray} {D : List UInt8} {k : Nat} (hD : s.data.toList.drop k = D) (hk : k < s.size) (h : ¬ s[k] = 45) : s.data.toList.drop k = afterSign D ∧ hasSign D = false := by
  rw [hD]
  rw [drop_byte s k hk] at hD
  subst hD
  unfold afterSign hasSign
  refine ⟨?_, ?_⟩
  · split
    · rename_i e; simp at e; exact absurd e.1 h
    · rfl
  · split
    · rename_i e; simp at e; exact absurd e.1 h
    · rfl
theorem sign_none {s : ByteArray} {D : List UInt8} {k : Nat} (hD : s.data.toList.drop k = D) (hk : ¬ k < s.size) : s.data.toList.drop k = afterSign D ∧ hasSign D = false := by
  have e : s.data.toList.drop k = [] := List.drop_of_length_le (by rw [len_size]; omega)
  rw [e] at hD
  subst hD
  exact ⟨e, rfl⟩
theorem blank_go {s : ByteArray} {D : List UInt8} {k : Nat} (H : Hid ((s.data.toList.drop k).dropWhile blankB = D)) (hk : k < s.size) (hb : blankB s[k] = true) : Hid ((s.data.toList.drop (k + 1)).dropWhile blankB = D) := by
  show _ = _
  rw [← H.out, drop_byte s k hk, List.dropWhile_cons, if_pos hb]
theorem blank_end {s : ByteArray} {D : List UInt8} {k : Nat} (H : Hid ((s.data.toList.drop k).dropWhile blankB = D)) (hk : k < s.size) (hb : blankB s[k] = false) : s.data.toList.drop k = D := by
  rw [← H.out, drop_byte s k hk, List.dropWhile_cons, if_neg (by simp [hb])]
theorem blank_out {s : ByteArray} {D : List UInt8} {k : Nat} (H : Hid ((s.data.toList.drop k).dropWhile blankB = D)) (hk : ¬ k < s.size) : s.data.toList.drop k = D := by
  rw [← H.out, List.drop_of_length_le (by rw [len_size]; omega)]; rfl
theorem partD_yes {s : ByteArray} {R : List UInt8} {m : Nat} (h : s.data.toList.drop m = R) (hm : m < s.size) (hc : s[m] = 46) : partD R = (s.data.toList.drop (m + 1)).takeWhile digB := by
  rw [drop_byte s m hm, hc] at h
  subst h
  rfl
theorem partD_no {s : ByteArray} {R : List UInt8} {m : Nat} (h : s.data.toList.drop m = R) (hm : m < s.size) (hc : ¬ s[m] = 46) : partD R = [] := by
  rw [drop_byte s m hm] at h
  subst h
  unfold partD
  split
  · rename_i e; simp at e; exact absurd e.1 hc
  · rfl
theorem partD_end {s : ByteArray} {R : List UInt8} {m : Nat} (h : s.data.toList.drop m = R) (hm : ¬ m < s.size) : partD R = [] := by
  rw [List.drop_of_length_le (by rw [len_size]; omega)] at h
  subst h
  rfl
theorem zero_go {t : ByteArray} {Z : List UInt8} (h0 : 0 < t.size) (h : t[0] = 48) (H : Hid (t.data.toList.dropWhile (· == 48) = Z)) : Hid ((t.extract 1 t.size).data.toList.dropWhile (· == 48) = Z) := by
  show _ = _
  rw [← H.out, Lib.extract_to_end, head_byte t h0, List.dropWhile_cons, if_pos (by simp [h])]; rfl
theorem zero_stop {t : ByteArray} {Z : List UInt8} (h0 : 0 < t.size) (h : ¬ t[0] = 48) (H : Hid (t.data.toList.dropWhile (· == 48) = Z)) : Hid (t.data.toList = Z) := by
  show _ = _
  rw [← H.out]
  conv => rhs; rw [head_byte t h0]
  rw [List.dropWhile_cons, if_neg (by simp [h])]
  exact head_byte t h0
theorem zero_none {t : ByteArray} {Z : List UInt8} (h0 : ¬ 0 < t.size) (H : Hid (t.data.toList.dropWhile (· == 48) = Z)) : Hid (t.data.toList = Z) := by
  show _ = _
  rw [← H.out, empty_of (s := t) (by omega)]; rfl
theorem last_byte (t : ByteArray) (h0 : 0 < t.size) : t.data.toList = (t.extract 0 (t.size - 1)).data.toList ++ [t[t.size - 1]'(by omega)] := by
  have := ext_snoc (s := t) (f := 0) (k := t.size - 1) (by omega) (Nat.zero_le _)
  rw [show t.size - 1 + 1 = t.size by omega] at this
  rw [← this, Lib.extract_data]
  simp only [List.drop_zero, Nat.sub_zero]
  rw [List.take_of_length_le (by rw [len_size]; exact Nat.le_refl _)]
theorem tail_go {t : ByteArray} {Z : List UInt8} (h0 : 0 < t.size) (h : t[t.size - 1]'(by omega) = 48) (H : Hid (tailZ t.data.toList = Z)) : Hid (tailZ (t.extract 0 (t.size - 1)).data.toList = Z) := by
  show _ = _
  rw [← H.out, last_byte t h0, h]
  unfold tailZ
  simp
theorem tail_stop {t : ByteArray} {Z : List UInt8} (h0 : 0 < t.size) (h : ¬ t[t.size - 1]'(by omega) = 48) (H : Hid (tailZ t.data.toList = Z)) : Hid (t.data.toList = Z) := by
  show _ = _
  rw [← H.out]
  have e := last_byte t h0
  unfold tailZ
  rw [e, List.reverse_append]
  simp [h]
theorem tail_of {t : ByteArray} {Z : List UInt8} (H : Hid (t.data.toList = Z)) : Hid (tailZ t.data.toList = tailZ Z) := by
  show _ = _
  rw [H.out]
theorem tail_none {t : ByteArray} {Z : List UInt8} (h0 : ¬ 0 < t.size) (H : Hid (tailZ t.data.toList = Z)) : Hid (t.data.toList = Z) := by
  show _ = _
  rw [← H.out, empty_of (s := t) (by omega)]; rfl
end Go.Pw
namespace Go.Proofs.YtkikbejpgfhfoaaGreatDoor
open Go.RowKit Go.Pw
theorem nm_fin3 {D W P : List UInt8} {sg b : Bool} {wh pa : ByteArray} {n : Nm} (HR : Hid (n = ⟨hasSign D && !(W ++ P).isEmpty, W, P⟩)) (HSG : Hid (hasSign D = sg)) (HW : Hid (wh.data.toList = W)) (HPA : Hid (pa.data.toList = P)) (hb : b = (sg && !(wh ++ pa).toList.isEmpty)) :
    Ending.returned (.tuple #[.bool b, .string wh, .string pa]) = .returned (.tuple #[.bool n.neg, .string ⟨n.whole.toArray⟩, .string ⟨n.part.toArray⟩]) := by
  have e : (wh ++ pa).toList = W ++ P := by
    rw [Lib.toList_data, ByteArray.data_append, Array.toList_append, HW.out, HPA.out]
  rw [HR.out, HSG.out, hb, e]
  simp only
  rw [← of_list HW.out, ← of_list HPA.out]
theorem app_empty {wh pa : ByteArray} (h1 : ¬ 0 < wh.size) (h2 : ¬ 0 < pa.size) : (wh ++ pa).toList.isEmpty = true := by
  rw [Lib.toList_data, empty_of (s := wh) (by omega), empty_of (s := pa) (by omega)]; rfl
theorem app_some {wh pa : ByteArray} (h : 0 < wh.size ∨ 0 < pa.size) : (wh ++ pa).toList.isEmpty = false := by
  refine isEmpty_of ?_
  rw [ByteArray.size_append]; omega
set_option maxHeartbeats 4000000 in
set_option maxRecDepth 100000 in
theorem numberAt_any (s : ByteArray) (w : World) (hs : s.size ≤ 1000000) :
    Calls Tryz.prog 75 #[.string s] w fun e w' => e = .returned (.tuple #[.bool (numOf s.data.toList).neg, .string ⟨(numOf s.data.toList).whole.toArray⟩, .string ⟨(numOf s.data.toList).part.toArray⟩]) ∧ w = w' := by
  obtain ⟨D, hD⟩ : ∃ D, s.data.toList.dropWhile blankB = D := ⟨_, rfl⟩
  have HR : Hid (numOf s.data.toList = ⟨hasSign D && !((((afterSign D).takeWhile digB).dropWhile (· == 48)) ++ tailZ (partD ((afterSign D).dropWhile digB))).isEmpty, ((afterSign D).takeWhile digB).dropWhile (· == 48), tailZ (partD ((afterSign D).dropWhile digB))⟩) := by
    show _ = _
    unfold numOf; rw [hD]
  have HD := hide hD
  clear hD
  go_enter Tryz.func75, Tryz.ntmps75
  go_wp2_with fail
  go_loop [5] (fun v => ∃ k : Nat, k ≤ s.size ∧ v = .int .i64 (k : Int) ∧ Hid ((s.data.toList.drop k).dropWhile blankB = D)) (fun v => s.size - (intOf v).toNat)
  case atStart => exact ⟨0, Nat.zero_le _, rfl, hide (by rw [List.drop_zero]; exact HD.out)⟩
  case round =>
    obtain ⟨k, hk, rfl, HK⟩ := hrel
    by_cases hlt : k < s.size
    case neg =>
      have hE := blank_out HK hlt
      have hE2 : D = [] := by rw [← hE]; exact List.drop_of_length_le (by rw [len_size]; omega)
      have HRN : Hid (numOf s.data.toList = ⟨false, [], []⟩) := hide (by rw [HR.out, hE2]; rfl)
      have hks : s.size ≤ k := by omega
      clear hE hE2 HR HD HK
      go_wp2_with fail
      refine wp_loop_rounds 1 ?_
      rw [rounds_succ]
      go_wp2_with fail
      refine wp_loop_rounds 1 ?_
      rw [rounds_succ]
      go_wp2_with fail
      refine wp_loop_rounds 1 ?_
      rw [rounds_succ]
      go_wp2_with fail
      go_ret3
      exact ⟨by rw [HRN.out]; rfl, rfl⟩
    case' pos =>
      cases hb : blankB s[k]
      case' true =>
        have HN := blank_go HK hlt hb
        go_wp2_with (go_at_call 67; refine (blankR_any _ _).mono ?_; rintro e w' ⟨rfl, rfl⟩)
        go_round
        case rel => exact ⟨k + 1, by omega, by go_num, HN⟩
        case measure => simp [intOf]; omega
      case' false =>
        have hE := blank_end HK hlt hb
        by_cases hc : s[k] = 45
        case' pos =>
          obtain ⟨hA, hS⟩ := sign_yes hE hlt hc
          have hd : ((s[k].toNat : Int) == 45) = true := by rw [hc]; rfl
          obtain ⟨a, ha⟩ : ∃ a, k + 1 = a := ⟨_, rfl⟩
          rw [ha] at hA
          have hal : a ≤ s.size := by omega
          have HA := hide hA
          have HSG := hide hS
          have HAK : Hid ((k : Int) + 1 = (a : Int)) := hide (by omega)
          clear hA hS hE hc ha
          go_wp2_with (go_at_call 67; refine (blankR_any _ _).mono ?_; rintro e w' ⟨rfl, rfl⟩)
          rw [HAK.out]
        case' neg =>
          obtain ⟨hA, hS⟩ := sign_no hE hlt hc
          have hd : ((s[k].toNat : Int) == 45) = false := by
            simp only [beq_eq_false_iff_ne, ne_eq]
            intro e; apply hc; apply UInt8.toNat_inj.1; show _ = 45; omega
          have HA := hide hA
          have HSG := hide hS
          clear hA hS hE hc
          go_wp2_with (go_at_call 67; refine (blankR_any _ _).mono ?_; rintro e w' ⟨rfl, rfl⟩)
          obtain ⟨a, ha⟩ : ∃ a, a = k := ⟨_, rfl⟩
          subst ha
          have hal : a ≤ s.size := by omega
    all_goals
      have HSC := hide (ScanAt.start hal)
      go_loop [5] (fun v => ∃ m : Nat, v = .int .i64 (m : Int) ∧ Hid (ScanAt s a m)) (fun v => s.size - (intOf v).toNat)
      case atStart => exact ⟨a, rfl, HSC⟩
      case round =>
        obtain ⟨m, rfl, HM⟩ := hrel
        obtain ⟨ham, hms, _, _⟩ := HM.out
        by_cases hlm : m < s.size
        case' neg =>
          obtain ⟨hX, hY⟩ := HM.out.fin hlm
          rw [HA.out] at hX hY
          have HX := hide hX
          have HPT : Hid ((⟨#[]⟩ : ByteArray).data.toList = partD ((afterSign D).dropWhile digB)) := hide (by rw [partD_end hY hlm])
          have hpz : (⟨#[]⟩ : ByteArray).size ≤ s.size := Nat.zero_le _
          clear hX hY
          go_wp2_with fail
        case' pos =>
          cases hdg : digB s[m]
          case' true =>
            have HN := hide (HM.out.go hlm hdg)
            go_wp2_with (go_at_call 93; refine (digitR_any _ _).mono ?_; rintro e w' ⟨rfl, rfl⟩)
            go_round
            case rel => exact ⟨m + 1, by go_num, HN⟩
            case measure => simp [intOf]; omega
          case' false =>
            obtain ⟨hX, hY⟩ := HM.out.stop hlm hdg
            rw [HA.out] at hX hY
            have HX := hide hX
            by_cases hdt : s[m] = 46
            case' neg =>
              have HPT : Hid ((⟨#[]⟩ : ByteArray).data.toList = partD ((afterSign D).dropWhile digB)) := hide (by rw [partD_no hY hlm hdt])
              have hd2 : ((s[m].toNat : Int) == 46) = false := by
                simp only [beq_eq_false_iff_ne, ne_eq]
                intro e; apply hdt; apply UInt8.toNat_inj.1; show _ = 46; omega
              have hpz : (⟨#[]⟩ : ByteArray).size ≤ s.size := Nat.zero_le _
              clear hX hY hdt
              go_wp2_with (go_at_call 93; refine (digitR_any _ _).mono ?_; rintro e w' ⟨rfl, rfl⟩)
            case' pos =>
              have HP := hide (partD_yes hY hlm hdt)
              have hd2 : ((s[m].toNat : Int) == 46) = true := by rw [hdt]; rfl
              clear hX hY hdt
              go_wp2_with (go_at_call 93; refine (digitR_any _ _).mono ?_; rintro e w' ⟨rfl, rfl⟩)
              have HSC2 := hide (ScanAt.start (s := s) (a := m + 1) (by omega))
              go_loop [5] (fun v => ∃ q : Nat, v = .int .i64 (q : Int) ∧ Hid (ScanAt s (m + 1) q)) (fun v => s.size - (intOf v).toNat)
              case atStart => exact ⟨m + 1, by go_num, HSC2⟩
              case' round =>
                obtain ⟨q, rfl, HQ⟩ := hrel
                obtain ⟨hmq, hqs, _, _⟩ := HQ.out
                by_cases hlq : q < s.size
                case' neg =>
                  obtain ⟨hX2, _⟩ := HQ.out.fin hlq
                  have HPT : Hid ((s.extract (m + 1) q).data.toList = partD ((afterSign D).dropWhile digB)) := hide (by rw [HP.out, hX2])
                  have hpz : (s.extract (m + 1) q).size ≤ s.size := by rw [ByteArray.size_extract]; omega
                  clear hX2
                  go_wp2_with fail
                case' pos =>
                  cases hdq : digB s[q]
                  case' true =>
                    have HN := hide (HQ.out.go hlq hdq)
                    go_wp2_with (go_at_call 93; refine (digitR_any _ _).mono ?_; rintro e w' ⟨rfl, rfl⟩)
                    go_round
                    case rel => exact ⟨q + 1, by go_num, HN⟩
                    case measure => simp [intOf]; omega
                  case' false =>
                    obtain ⟨hX2, _⟩ := HQ.out.stop hlq hdq
                    have HPT : Hid ((s.extract (m + 1) q).data.toList = partD ((afterSign D).dropWhile digB)) := hide (by rw [HP.out, hX2])
                    have hpz : (s.extract (m + 1) q).size ≤ s.size := by rw [ByteArray.size_extract]; omega
                    clear hX2
                    go_wp2_with (go_at_call 93; refine (digitR_any _ _).mono ?_; rintro e w' ⟨rfl, rfl⟩)
        all_goals
          have HW0 : Hid ((s.extract a m).data.toList.dropWhile (· == 48) = ((afterSign D).takeWhile digB).dropWhile (· == 48)) := hide (by rw [HX.out])
          have hz0 : (s.extract a m).size ≤ s.size := by rw [ByteArray.size_extract]; omega
          first | have HP0 := tail_of HPT | have HP0 := tail_of (t := ⟨#[]⟩) HPT
          have HPZ := hide hpz
          clear hpz
          go_loop [3] (fun v => ∃ t : ByteArray, t.size ≤ s.size ∧ v = .string t ∧ Hid (t.data.toList.dropWhile (· == 48) = ((afterSign D).takeWhile digB).dropWhile (· == 48))) (fun v => strLen v)
          case atStart => exact ⟨s.extract a m, hz0, rfl, HW0⟩
          case round =>
            obtain ⟨t, ht, rfl, HT⟩ := hrel
            by_cases h0 : 0 < t.size
            case' neg =>
              have HW := zero_none h0 HT
              have hte : t.toList.isEmpty = true := by rw [Lib.toList_data, empty_of (s := t) (by omega)]; rfl
              have hte2 : t.toList = [] := by rw [Lib.toList_data, empty_of (s := t) (by omega)]
              go_wp2_with fail
            case' pos =>
              have hte := isEmpty_of h0
              by_cases hz : t[0] = 48
              case' pos =>
                have HN := zero_go h0 hz HT
                have hd3 : ((t[0].toNat : Int) == 48) = true := by rw [hz]; rfl
                have hsz : (t.extract 1 t.size).size = t.size - 1 := by rw [ByteArray.size_extract]; omega
                have HZ := hide hsz
                clear hsz hz
                go_wp2_with fail
                go_round
                case rel => exact ⟨t.extract 1 t.size, by rw [HZ.out]; omega, rfl, HN⟩
                case measure => show (t.extract 1 t.size).size < t.size; rw [HZ.out]; omega
              case' neg =>
                have HW := zero_stop h0 hz HT
                have hd3 : ((t[0].toNat : Int) == 48) = false := by
                  simp only [beq_eq_false_iff_ne, ne_eq]
                  intro e; apply hz; apply UInt8.toNat_inj.1; show _ = 48; omega
                clear hz
                go_wp2_with fail
            all_goals
              go_loop [4] (fun v => ∃ u : ByteArray, u.size ≤ s.size ∧ v = .string u ∧ Hid (tailZ u.data.toList = tailZ (partD ((afterSign D).dropWhile digB)))) (fun v => strLen v)
              case atStart => exact ⟨_, HPZ.out, rfl, HP0⟩
              case round =>
                obtain ⟨u, hu, rfl, HU⟩ := hrel
                by_cases hu0 : 0 < u.size
                · have hue := isEmpty_of hu0
                  have hlu : u.size - 1 < u.size := by omega
                  have hw1 : IntKind.i64.wrap ((u.size : Int) - 1) = (u.size : Int) - 1 := IntWalk.i64_in _ (by omega)
                  have hw2 : ((u.size : Int) - 1).toNat = u.size - 1 := by omega
                  have hw6 : (1 : Int) ≤ (u.size : Int) := by omega
                  by_cases hz : u[u.size - 1] = 48
                  · have HN := tail_go hu0 hz HU
                    have hd4 : ((u[u.size - 1].toNat : Int) == 48) = true := by rw [hz]; rfl
                    have hsz : (u.extract 0 (u.size - 1)).size = u.size - 1 := by rw [ByteArray.size_extract]; omega
                    have HZ := hide hsz
                    clear hsz hz
                    go_wp2_with fail
                    go_round
                    case rel => exact ⟨u.extract 0 (u.size - 1), by rw [HZ.out]; omega, rfl, HN⟩
                    case measure => show (u.extract 0 (u.size - 1)).size < u.size; rw [HZ.out]; omega
                  · have HPA := tail_stop hu0 hz HU
                    have hd4 : ((u[u.size - 1].toNat : Int) == 48) = false := by
                      simp only [beq_eq_false_iff_ne, ne_eq]
                      intro e; apply hz; apply UInt8.toNat_inj.1; show _ = 48; omega
                    clear hz
                    have HES := hide (app_some (wh := t) (pa := u) (.inr hu0))
                    go_wp2_with fail
                    all_goals
                      go_ret3
                      exact ⟨nm_fin3 HR HSG HW HPA (by rw [HES.out]; rfl), rfl⟩
                · have HPA := tail_none hu0 HU
                  have hue : u.toList.isEmpty = true := by rw [Lib.toList_data, empty_of (s := u) (by omega)]; rfl
                  have hue2 : u.toList = [] := by rw [Lib.toList_data, empty_of (s := u) (by omega)]
                  have HEE := hide (fun (h : ¬ 0 < t.size) => app_empty (wh := t) (pa := u) h hu0)
                  have HES := hide (fun (h : 0 < t.size) => app_some (wh := t) (pa := u) (.inl h))
                  go_wp2_with fail
                  all_goals
                    go_ret3
                    exact ⟨nm_fin3 HR HSG HW HPA (by first | (rw [HEE.out h0]; rfl) | (rw [HES.out h0]; rfl)), rfl⟩
end Go.Proofs.YtkikbejpgfhfoaaGreatDoor
