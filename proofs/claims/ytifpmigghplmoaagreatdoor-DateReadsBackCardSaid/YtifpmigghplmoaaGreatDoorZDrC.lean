/- A time is read along a format: plain: what the reader makes of the steps of a directive. -/
import Derived.Test.YtifpmigghplmoaaGreatDoorZDrB
/- DReadF -/
set_option linter.unusedVariables false
namespace Go.Pw
open Go.RowKit
/-- what the program notes of what was read -/
def nt (i : It) : UInt8 × Int := (mapL i.c, i.n)
/-- what some steps make of the reader -/
structure DirP (T : List UInt8) (st : List Stp) (bad : Bool) (at_ : Nat) (hs : List (UInt8 × Int)) (bad' : Bool) (at' : Nat) (hs' : List (UInt8 × Int)) : Prop where
  was : bad = true → bad' = true ∧ at' = at_
  go : bad = false → (rdL T st at_ [] = .inl at' ∧ bad' = true) ∨ (∃ its, rdL T st at_ [] = .inr (at', its) ∧ bad' = false ∧ hs' = hs ++ its.map nt)
  len : hs'.length ≤ hs.length + st.length
  le : at_ ≤ T.length → at' ≤ T.length
theorem DirP.trans {T : List UInt8} {a b : List Stp} {bad b1 b2 : Bool} {at_ a1 a2 : Nat} {hs h1 h2 : List (UInt8 × Int)} (h : DirP T a bad at_ hs b1 a1 h1) (g : DirP T b b1 a1 h1 b2 a2 h2) : DirP T (a ++ b) bad at_ hs b2 a2 h2 := by
  refine ⟨fun e => ?_, fun e => ?_, by have := h.len; have := g.len; rw [List.length_append]; omega, fun e => g.le (h.le e)⟩
  · obtain ⟨e1, e2⟩ := h.was e
    obtain ⟨e3, e4⟩ := g.was e1
    exact ⟨e3, e4.trans e2⟩
  · rw [rdL_append]
    rcases h.go e with ⟨h3, h4⟩ | ⟨its, h3, h4, h5⟩
    · obtain ⟨e3, e4⟩ := g.was h4
      rw [h3, e4]
      exact .inl ⟨rfl, e3⟩
    · rw [h3]
      show (rdL T b a1 its = _ ∧ _) ∨ _
      rcases g.go h4 with ⟨g3, g4⟩ | ⟨its2, g3, g4, g5⟩
      · left
        refine ⟨?_, g4⟩
        rw [rdL_acc, g3]; rfl
      · right
        refine ⟨its ++ its2, ?_, g4, ?_⟩
        · show rdL T b a1 its = _
          rw [rdL_acc, g3]; rfl
        · rw [g5, h5, List.map_append, List.append_assoc]
theorem digsN_le {T : List UInt8} : ∀ (k a : Nat) (acc : Int) (q : Nat), digsN T a k acc = .inl q → q ≤ max a T.length
  | 0, a, acc, q, h => by rw [digsN] at h; cases h
  | k + 1, a, acc, q, h => by
    rw [digsN] at h
    by_cases hg : isDg (T.getD a 0) = true
    · rw [if_pos hg] at h
      have := digsN_le k (a + 1) _ q h
      have := isDg_getD hg
      omega
    · rw [if_neg hg] at h
      have : a = q := Sum.inl.inj h
      omega
theorem rdL_one (T : List UInt8) (s : Stp) (at_ : Nat) : rdL T [s] at_ [] = rdS T s at_ := by
  rw [rdL_cons]
  cases rdS T s at_ with
  | inl q => rfl
  | inr x => simp [thenR, rdL]
theorem dir_num {T : List UInt8} {c : UInt8} {at_ f m : Nat} (hc : rd1 T c at_ = rdNum T c at_ f m) (hf : at_ ≤ T.length → f ≤ T.length) (bad : Bool) (hs : List (UInt8 × Int)) (hb : bad = true → f = at_) :
    DirP T [.dir c] bad at_ hs (digsR T bad f m).2.1 (digsR T bad f m).1 (hs ++ [(mapL c, (digsR T bad f m).2.2)]) := by
  refine ⟨fun e => ?_, fun e => ?_, by simp, fun e => ?_⟩
  · subst e
    unfold digsR
    rw [if_pos rfl]
    exact ⟨rfl, hb rfl⟩
  · subst e
    rw [rdL_one]
    show (rd1 T c at_ = _ ∧ _) ∨ (∃ its, rd1 T c at_ = _ ∧ _)
    rw [hc]
    unfold rdNum digsR
    cases hd : digsN T f m 0 with
    | inl q => exact .inl ⟨rfl, rfl⟩
    | inr v => exact .inr ⟨_, rfl, rfl, rfl⟩
  · have hf' := hf e
    unfold digsR
    cases bad with
    | true => exact hf'
    | false =>
      cases hd : digsN T f m 0 with
      | inl q => have := digsN_le m f 0 q hd; show q ≤ _; omega
      | inr v => have := (digsN_val m f 0 v hd).2.2.2; show f + m ≤ _; omega
theorem dir_name {T : List UInt8} {c : UInt8} {names : List (List UInt8)} {at_ : Nat} (h3 : ∀ s ∈ names, s.length = 3) (hc : rd1 T c at_ = rdName names T c at_) (hs : List (UInt8 × Int)) :
    DirP T [.dir c] false at_ hs (nmR names T at_).2.2 (nmR names T at_).2.1 (hs ++ [(mapL c, (nmR names T at_).1 + 1)]) := by
  refine ⟨(fun e => by cases e), fun _ => ?_, by simp, fun e => ?_⟩
  · rw [rdL_one]
    show (rd1 T c at_ = _ ∧ _) ∨ (∃ its, rd1 T c at_ = _ ∧ _)
    rw [hc]
    unfold rdName nmR
    by_cases h1 : hasP names T at_ 1 = false
    · rw [if_pos h1, if_pos h1]; exact .inl ⟨rfl, rfl⟩
    · rw [if_neg h1, if_neg h1]
      by_cases h2 : hasP names T at_ 2 = false
      · rw [if_pos h2, if_pos h2]; exact .inl ⟨rfl, rfl⟩
      · rw [if_neg h2, if_neg h2]
        by_cases h4 : hasP names T at_ 3 = false
        · rw [if_pos h4, if_pos h4]; exact .inl ⟨rfl, rfl⟩
        · rw [if_neg h4, if_neg h4]; exact .inr ⟨_, rfl, rfl, rfl⟩
  · unfold nmR
    by_cases h1 : hasP names T at_ 1 = false
    · rw [if_pos h1]; exact e
    · rw [if_neg h1]
      have r1 := hasP_room h3 (k := 1) (by omega) e (by simpa using h1)
      by_cases h2 : hasP names T at_ 2 = false
      · rw [if_pos h2]; exact r1
      · rw [if_neg h2]
        have r2 := hasP_room h3 (k := 2) (by omega) e (by simpa using h2)
        by_cases h4 : hasP names T at_ 3 = false
        · rw [if_pos h4]; exact r2
        · rw [if_neg h4]
          exact hasP_room h3 (k := 3) (by omega) e (by simpa using h4)
theorem dir_time {T : List UInt8} {at_ : Nat} (hs : List (UInt8 × Int)) :
    DirP T [.dir 115] false at_ hs (tmR T at_).2.2 (tmR T at_).2.1 (hs ++ [(115, (tmR T at_).1)]) := by
  have hc : rd1 T 115 at_ = rdTime T at_ := by simp [rd1]
  refine ⟨(fun e => by cases e), fun _ => ?_, by simp, fun e => ?_⟩
  · rw [rdL_one]
    show (rd1 T 115 at_ = _ ∧ _) ∨ (∃ its, rd1 T 115 at_ = _ ∧ _)
    rw [hc]
    unfold tmR rdTime
    simp only
    by_cases h0 : digCnt T (at_ + signOf T at_) 12 = 0
    · rw [if_pos h0]; exact .inl ⟨rfl, rfl⟩
    · rw [if_neg h0]; exact .inr ⟨_, rfl, rfl, rfl⟩
  · unfold tmR
    cases hr : rdTime T at_ with
    | inl q =>
      unfold rdTime at hr
      simp only at hr
      by_cases h0 : digCnt T (at_ + signOf T at_) 12 = 0
      · rw [if_pos h0] at hr
        have hq : at_ + signOf T at_ = q := Sum.inl.inj hr
        show q ≤ _
        rw [← hq]
        unfold signOf
        by_cases h45 : T.getD at_ 0 = 45
        · rw [if_pos h45]
          rcases Nat.lt_or_ge at_ T.length with h | h
          · omega
          · rw [List.getD_eq_getElem?_getD, List.getElem?_eq_none h] at h45
            exact absurd h45 (by decide)
        · rw [if_neg h45]; omega
      · rw [if_neg h0] at hr; cases hr
    | inr x =>
      obtain ⟨a, its⟩ := x
      exact (rdTime_ok hr).2.1
theorem dir_bad {T : List UInt8} {st : List Stp} {at_ : Nat} {hs hs' : List (UInt8 × Int)} (hl : hs'.length ≤ hs.length + st.length) : DirP T st true at_ hs true at_ hs' :=
  ⟨fun _ => ⟨rfl, rfl⟩, (fun e => by cases e), hl, fun e => e⟩
theorem dir_byte {T : List UInt8} {c : UInt8} {at_ : Nat} (bad : Bool) (hs : List (UInt8 × Int)) (R : Nat × Bool) (hR : R = if bad then (at_, true) else if T[at_]? = some c then (at_ + 1, false) else (at_, true)) :
    DirP T [.byte c] bad at_ hs R.2 R.1 hs := by
  subst hR
  refine ⟨fun e => by subst e; exact ⟨rfl, rfl⟩, fun e => ?_, by simp, fun e => ?_⟩
  · subst e
    rw [rdL_one]
    show ((if T[at_]? = some c then Sum.inr (at_ + 1, []) else Sum.inl at_) = _ ∧ _) ∨ (∃ its, (if T[at_]? = some c then Sum.inr (at_ + 1, []) else Sum.inl at_) = _ ∧ _)
    by_cases h : T[at_]? = some c
    · refine .inr ⟨[], ?_, ?_, by simp⟩
      · rw [if_pos h]; simp only [if_pos h, Bool.false_eq_true, if_false]
      · simp only [if_pos h, Bool.false_eq_true, if_false]
    · refine .inl ⟨?_, ?_⟩
      · rw [if_neg h]; simp only [if_neg h, Bool.false_eq_true, if_false]
      · simp only [if_neg h, Bool.false_eq_true, if_false]
  · cases bad with
    | true => exact e
    | false =>
      by_cases h : T[at_]? = some c
      · simp only [if_pos h, Bool.false_eq_true, if_false]
        have := (List.getElem?_eq_some_iff.1 h).1; omega
      · simp only [if_neg h, Bool.false_eq_true, if_false]; exact e
end Go.Pw

/- DReadG -/
set_option linter.unusedVariables false
set_option linter.unusedSimpArgs false
namespace Go.Pw
open Go.RowKit
/-- what a directive makes of the reader -/
def DirPost (tR tH b : Nat) (T : ByteArray) (st : List Stp) (bad : Bool) (at_ : Nat) (hs : List (UInt8 × Int)) (w : World) (e : Ending) (w' : World) : Prop :=
  e = .returned (.tuple #[]) ∧ Below b w w' ∧ ∃ bad' at' hs', RSt tR tH b T at' bad' hs' w' ∧ DirP T.data.toList st bad at_ hs bad' at' hs'
theorem rd1_num2 {T : List UInt8} {c : UInt8} {at_ : Nat} (h : c ∈ ([121, 109, 100, 72, 77, 83] : List UInt8)) : rd1 T c at_ = rdNum T c at_ at_ 2 := by
  simp only [List.mem_cons, List.not_mem_nil, or_false] at h
  rcases h with rfl | rfl | rfl | rfl | rfl | rfl <;> simp [rd1]
theorem name_range {names : List (List UInt8)} (hn : names.length ≤ 12) (h3 : ∀ s ∈ names, s.length = 3) (T : List UInt8) (at_ : Nat) : 0 ≤ (nmR names T at_).1 ∧ (nmR names T at_).1 ≤ 12 := by
  unfold nmR
  by_cases h1 : hasP names T at_ 1 = false
  · rw [if_pos h1]; simp
  · rw [if_neg h1]
    by_cases h2 : hasP names T at_ 2 = false
    · rw [if_pos h2]; simp
    · rw [if_neg h2]
      by_cases h4 : hasP names T at_ 3 = false
      · rw [if_pos h4]; simp
      · rw [if_neg h4]
        have := (mem_take3 h3 (T := T) (a := at_) (by simpa using h4)).1
        simp only; omega
end Go.Pw
namespace Go.Proofs.YtifpmigghplmoaaGreatDoor
open Go.RowKit Go.Pw
theorem SpTab.base {M : Nat} {w w' : World} (h : SpTab w) (hb : Below M w w') (hM : 0 < M) : SpTab w' := by
  have hg : Tryz.prog.globalNamed "strings.asciiSpace" = some 0 := by kernel_rfl
  unfold SpTab Lib.TabIs World.var? at h ⊢
  rw [hg] at h ⊢
  simp only [Option.bind_some] at h ⊢
  rw [hb.block _ hM]
  exact h
set_option maxHeartbeats 2000000 in
set_option maxRecDepth 100000 in
theorem dir_Y (b : Nat) (T : ByteArray) (at_ : Nat) (bad : Bool) (hs : List (UInt8 × Int)) (w : World) (h : RSt 47 108 b T at_ bad hs w) (hat : at_ ≤ T.size) (hT : T.size ≤ 1000000) (hl : hs.length ≤ 900000) :
    Calls Tryz.prog 19 #[.pointer (some ⟨b, 0, none⟩), .int .u8 89] w (DirPost 47 108 b T [.dir 89] bad at_ hs w) := by
  obtain ⟨hv, hr, ho⟩ := h
  have hb : b ≤ w.heap.size := Nat.le_of_lt hr.lt
  have HO := hide ho
  have HNT : Hid (∀ (a : Nat) (bd : Bool) (x : Int) (W : World), RSt 47 108 b T a bd hs W → Calls Tryz.prog 43 #[.pointer (some ⟨b, 0, none⟩), .int .u8 89, .int .i64 x] W fun e w' => e = .returned (.tuple #[]) ∧ RSt 47 108 b T a bd (hs ++ [(89, x)]) w' ∧ Below b W w') := hide (fun a bd x W h => note_any b T a bd hs 89 x W h (by omega))
  have HDG := hide (digits_any b T at_ 4 bad hv w hr hat hT (by omega) (by omega))
  have HD := hide (dir_num (T := T.data.toList) (c := 89) (at_ := at_) (f := at_) (m := 4) (by simp [rd1]) (fun e => e) bad hs (fun _ => rfl))
  rw [show mapL 89 = 89 from rfl] at HD
  obtain ⟨R, hR⟩ : ∃ R, digsR T.data.toList bad at_ 4 = R := ⟨_, rfl⟩
  rw [hR] at HDG HD
  clear hr ho hR
  go_enter Tryz.func19, Tryz.ntmps19
  go_wp2_with fail
  refine HDG.out.mono ?_
  rintro e w1 ⟨rfl, hr1, hg1⟩
  have HST := hide (RSt.only HO.out hr1 hg1)
  have HB1 := hide (below_only hb hg1)
  clear hr1 hg1
  go_wp2_with fail
  refine (HNT.out _ _ _ _ HST.out).mono ?_
  rintro e w2 ⟨rfl, hst2, hb2⟩
  have HST2 := hide hst2
  have HB2 := hide (HB1.out.trans hb2)
  clear hst2 hb2
  go_wp2_with fail
  go_end0
  exact ⟨rfl, HB2.out, _, _, _, HST2.out, HD.out⟩
set_option maxHeartbeats 2000000 in
set_option maxRecDepth 100000 in
theorem dir_j (b : Nat) (T : ByteArray) (at_ : Nat) (bad : Bool) (hs : List (UInt8 × Int)) (w : World) (h : RSt 47 108 b T at_ bad hs w) (hat : at_ ≤ T.size) (hT : T.size ≤ 1000000) (hl : hs.length ≤ 900000) :
    Calls Tryz.prog 19 #[.pointer (some ⟨b, 0, none⟩), .int .u8 106] w (DirPost 47 108 b T [.dir 106] bad at_ hs w) := by
  obtain ⟨hv, hr, ho⟩ := h
  have hb : b ≤ w.heap.size := Nat.le_of_lt hr.lt
  have HO := hide ho
  have HNT : Hid (∀ (a : Nat) (bd : Bool) (x : Int) (W : World), RSt 47 108 b T a bd hs W → Calls Tryz.prog 43 #[.pointer (some ⟨b, 0, none⟩), .int .u8 106, .int .i64 x] W fun e w' => e = .returned (.tuple #[]) ∧ RSt 47 108 b T a bd (hs ++ [(106, x)]) w' ∧ Below b W w') := hide (fun a bd x W h => note_any b T a bd hs 106 x W h (by omega))
  have HDG := hide (digits_any b T at_ 3 bad hv w hr hat hT (by omega) (by omega))
  have HD := hide (dir_num (T := T.data.toList) (c := 106) (at_ := at_) (f := at_) (m := 3) (by simp [rd1]) (fun e => e) bad hs (fun _ => rfl))
  rw [show mapL 106 = 106 from rfl] at HD
  obtain ⟨R, hR⟩ : ∃ R, digsR T.data.toList bad at_ 3 = R := ⟨_, rfl⟩
  rw [hR] at HDG HD
  clear hr ho hR
  go_enter Tryz.func19, Tryz.ntmps19
  go_wp2_with fail
  refine HDG.out.mono ?_
  rintro e w1 ⟨rfl, hr1, hg1⟩
  have HST := hide (RSt.only HO.out hr1 hg1)
  have HB1 := hide (below_only hb hg1)
  clear hr1 hg1
  go_wp2_with fail
  refine (HNT.out _ _ _ _ HST.out).mono ?_
  rintro e w2 ⟨rfl, hst2, hb2⟩
  have HST2 := hide hst2
  have HB2 := hide (HB1.out.trans hb2)
  clear hst2 hb2
  go_wp2_with fail
  go_end0
  exact ⟨rfl, HB2.out, _, _, _, HST2.out, HD.out⟩
set_option maxHeartbeats 2000000 in
set_option maxRecDepth 100000 in
theorem dir_u (b : Nat) (T : ByteArray) (at_ : Nat) (bad : Bool) (hs : List (UInt8 × Int)) (w : World) (h : RSt 47 108 b T at_ bad hs w) (hat : at_ ≤ T.size) (hT : T.size ≤ 1000000) (hl : hs.length ≤ 900000) :
    Calls Tryz.prog 19 #[.pointer (some ⟨b, 0, none⟩), .int .u8 117] w (DirPost 47 108 b T [.dir 117] bad at_ hs w) := by
  obtain ⟨hv, hr, ho⟩ := h
  have hb : b ≤ w.heap.size := Nat.le_of_lt hr.lt
  have HO := hide ho
  have HNT : Hid (∀ (a : Nat) (bd : Bool) (x : Int) (W : World), RSt 47 108 b T a bd hs W → Calls Tryz.prog 43 #[.pointer (some ⟨b, 0, none⟩), .int .u8 117, .int .i64 x] W fun e w' => e = .returned (.tuple #[]) ∧ RSt 47 108 b T a bd (hs ++ [(117, x)]) w' ∧ Below b W w') := hide (fun a bd x W h => note_any b T a bd hs 117 x W h (by omega))
  have HDG := hide (digits_any b T at_ 1 bad hv w hr hat hT (by omega) (by omega))
  have HD := hide (dir_num (T := T.data.toList) (c := 117) (at_ := at_) (f := at_) (m := 1) (by simp [rd1]) (fun e => e) bad hs (fun _ => rfl))
  rw [show mapL 117 = 117 from rfl] at HD
  obtain ⟨R, hR⟩ : ∃ R, digsR T.data.toList bad at_ 1 = R := ⟨_, rfl⟩
  rw [hR] at HDG HD
  clear hr ho hR
  go_enter Tryz.func19, Tryz.ntmps19
  go_wp2_with fail
  refine HDG.out.mono ?_
  rintro e w1 ⟨rfl, hr1, hg1⟩
  have HST := hide (RSt.only HO.out hr1 hg1)
  have HB1 := hide (below_only hb hg1)
  clear hr1 hg1
  go_wp2_with fail
  refine (HNT.out _ _ _ _ HST.out).mono ?_
  rintro e w2 ⟨rfl, hst2, hb2⟩
  have HST2 := hide hst2
  have HB2 := hide (HB1.out.trans hb2)
  clear hst2 hb2
  go_wp2_with fail
  go_end0
  exact ⟨rfl, HB2.out, _, _, _, HST2.out, HD.out⟩
set_option maxHeartbeats 2000000 in
set_option maxRecDepth 100000 in
theorem dir_y (b : Nat) (T : ByteArray) (at_ : Nat) (bad : Bool) (hs : List (UInt8 × Int)) (w : World) (h : RSt 47 108 b T at_ bad hs w) (hat : at_ ≤ T.size) (hT : T.size ≤ 1000000) (hl : hs.length ≤ 900000) :
    Calls Tryz.prog 19 #[.pointer (some ⟨b, 0, none⟩), .int .u8 121] w (DirPost 47 108 b T [.dir 121] bad at_ hs w) := by
  obtain ⟨hv, hr, ho⟩ := h
  have hb : b ≤ w.heap.size := Nat.le_of_lt hr.lt
  have HO := hide ho
  have HNT : Hid (∀ (a : Nat) (bd : Bool) (x : Int) (W : World), RSt 47 108 b T a bd hs W → Calls Tryz.prog 43 #[.pointer (some ⟨b, 0, none⟩), .int .u8 121, .int .i64 x] W fun e w' => e = .returned (.tuple #[]) ∧ RSt 47 108 b T a bd (hs ++ [(121, x)]) w' ∧ Below b W w') := hide (fun a bd x W h => note_any b T a bd hs 121 x W h (by omega))
  have HDG := hide (digits_any b T at_ 2 bad hv w hr hat hT (by omega) (by omega))
  have HD := hide (dir_num (T := T.data.toList) (c := 121) (at_ := at_) (f := at_) (m := 2) (rd1_num2 (by decide)) (fun e => e) bad hs (fun _ => rfl))
  rw [show mapL 121 = 121 from rfl] at HD
  obtain ⟨R, hR⟩ : ∃ R, digsR T.data.toList bad at_ 2 = R := ⟨_, rfl⟩
  rw [hR] at HDG HD
  clear hr ho hR
  go_enter Tryz.func19, Tryz.ntmps19
  go_wp2_with fail
  refine HDG.out.mono ?_
  rintro e w1 ⟨rfl, hr1, hg1⟩
  have HST := hide (RSt.only HO.out hr1 hg1)
  have HB1 := hide (below_only hb hg1)
  clear hr1 hg1
  go_wp2_with fail
  refine (HNT.out _ _ _ _ HST.out).mono ?_
  rintro e w2 ⟨rfl, hst2, hb2⟩
  have HST2 := hide hst2
  have HB2 := hide (HB1.out.trans hb2)
  clear hst2 hb2
  go_wp2_with fail
  go_end0
  exact ⟨rfl, HB2.out, _, _, _, HST2.out, HD.out⟩
set_option maxHeartbeats 2000000 in
set_option maxRecDepth 100000 in
theorem dir_m (b : Nat) (T : ByteArray) (at_ : Nat) (bad : Bool) (hs : List (UInt8 × Int)) (w : World) (h : RSt 47 108 b T at_ bad hs w) (hat : at_ ≤ T.size) (hT : T.size ≤ 1000000) (hl : hs.length ≤ 900000) :
    Calls Tryz.prog 19 #[.pointer (some ⟨b, 0, none⟩), .int .u8 109] w (DirPost 47 108 b T [.dir 109] bad at_ hs w) := by
  obtain ⟨hv, hr, ho⟩ := h
  have hb : b ≤ w.heap.size := Nat.le_of_lt hr.lt
  have HO := hide ho
  have HNT : Hid (∀ (a : Nat) (bd : Bool) (x : Int) (W : World), RSt 47 108 b T a bd hs W → Calls Tryz.prog 43 #[.pointer (some ⟨b, 0, none⟩), .int .u8 109, .int .i64 x] W fun e w' => e = .returned (.tuple #[]) ∧ RSt 47 108 b T a bd (hs ++ [(109, x)]) w' ∧ Below b W w') := hide (fun a bd x W h => note_any b T a bd hs 109 x W h (by omega))
  have HDG := hide (digits_any b T at_ 2 bad hv w hr hat hT (by omega) (by omega))
  have HD := hide (dir_num (T := T.data.toList) (c := 109) (at_ := at_) (f := at_) (m := 2) (rd1_num2 (by decide)) (fun e => e) bad hs (fun _ => rfl))
  rw [show mapL 109 = 109 from rfl] at HD
  obtain ⟨R, hR⟩ : ∃ R, digsR T.data.toList bad at_ 2 = R := ⟨_, rfl⟩
  rw [hR] at HDG HD
  clear hr ho hR
  go_enter Tryz.func19, Tryz.ntmps19
  go_wp2_with fail
  refine HDG.out.mono ?_
  rintro e w1 ⟨rfl, hr1, hg1⟩
  have HST := hide (RSt.only HO.out hr1 hg1)
  have HB1 := hide (below_only hb hg1)
  clear hr1 hg1
  go_wp2_with fail
  refine (HNT.out _ _ _ _ HST.out).mono ?_
  rintro e w2 ⟨rfl, hst2, hb2⟩
  have HST2 := hide hst2
  have HB2 := hide (HB1.out.trans hb2)
  clear hst2 hb2
  go_wp2_with fail
  go_end0
  exact ⟨rfl, HB2.out, _, _, _, HST2.out, HD.out⟩
set_option maxHeartbeats 2000000 in
set_option maxRecDepth 100000 in
theorem dir_d (b : Nat) (T : ByteArray) (at_ : Nat) (bad : Bool) (hs : List (UInt8 × Int)) (w : World) (h : RSt 47 108 b T at_ bad hs w) (hat : at_ ≤ T.size) (hT : T.size ≤ 1000000) (hl : hs.length ≤ 900000) :
    Calls Tryz.prog 19 #[.pointer (some ⟨b, 0, none⟩), .int .u8 100] w (DirPost 47 108 b T [.dir 100] bad at_ hs w) := by
  obtain ⟨hv, hr, ho⟩ := h
  have hb : b ≤ w.heap.size := Nat.le_of_lt hr.lt
  have HO := hide ho
  have HNT : Hid (∀ (a : Nat) (bd : Bool) (x : Int) (W : World), RSt 47 108 b T a bd hs W → Calls Tryz.prog 43 #[.pointer (some ⟨b, 0, none⟩), .int .u8 100, .int .i64 x] W fun e w' => e = .returned (.tuple #[]) ∧ RSt 47 108 b T a bd (hs ++ [(100, x)]) w' ∧ Below b W w') := hide (fun a bd x W h => note_any b T a bd hs 100 x W h (by omega))
  have HDG := hide (digits_any b T at_ 2 bad hv w hr hat hT (by omega) (by omega))
  have HD := hide (dir_num (T := T.data.toList) (c := 100) (at_ := at_) (f := at_) (m := 2) (rd1_num2 (by decide)) (fun e => e) bad hs (fun _ => rfl))
  rw [show mapL 100 = 100 from rfl] at HD
  obtain ⟨R, hR⟩ : ∃ R, digsR T.data.toList bad at_ 2 = R := ⟨_, rfl⟩
  rw [hR] at HDG HD
  clear hr ho hR
  go_enter Tryz.func19, Tryz.ntmps19
  go_wp2_with fail
  refine HDG.out.mono ?_
  rintro e w1 ⟨rfl, hr1, hg1⟩
  have HST := hide (RSt.only HO.out hr1 hg1)
  have HB1 := hide (below_only hb hg1)
  clear hr1 hg1
  go_wp2_with fail
  refine (HNT.out _ _ _ _ HST.out).mono ?_
  rintro e w2 ⟨rfl, hst2, hb2⟩
  have HST2 := hide hst2
  have HB2 := hide (HB1.out.trans hb2)
  clear hst2 hb2
  go_wp2_with fail
  go_end0
  exact ⟨rfl, HB2.out, _, _, _, HST2.out, HD.out⟩
set_option maxHeartbeats 2000000 in
set_option maxRecDepth 100000 in
theorem dir_H (b : Nat) (T : ByteArray) (at_ : Nat) (bad : Bool) (hs : List (UInt8 × Int)) (w : World) (h : RSt 47 108 b T at_ bad hs w) (hat : at_ ≤ T.size) (hT : T.size ≤ 1000000) (hl : hs.length ≤ 900000) :
    Calls Tryz.prog 19 #[.pointer (some ⟨b, 0, none⟩), .int .u8 72] w (DirPost 47 108 b T [.dir 72] bad at_ hs w) := by
  obtain ⟨hv, hr, ho⟩ := h
  have hb : b ≤ w.heap.size := Nat.le_of_lt hr.lt
  have HO := hide ho
  have HNT : Hid (∀ (a : Nat) (bd : Bool) (x : Int) (W : World), RSt 47 108 b T a bd hs W → Calls Tryz.prog 43 #[.pointer (some ⟨b, 0, none⟩), .int .u8 72, .int .i64 x] W fun e w' => e = .returned (.tuple #[]) ∧ RSt 47 108 b T a bd (hs ++ [(72, x)]) w' ∧ Below b W w') := hide (fun a bd x W h => note_any b T a bd hs 72 x W h (by omega))
  have HDG := hide (digits_any b T at_ 2 bad hv w hr hat hT (by omega) (by omega))
  have HD := hide (dir_num (T := T.data.toList) (c := 72) (at_ := at_) (f := at_) (m := 2) (rd1_num2 (by decide)) (fun e => e) bad hs (fun _ => rfl))
  rw [show mapL 72 = 72 from rfl] at HD
  obtain ⟨R, hR⟩ : ∃ R, digsR T.data.toList bad at_ 2 = R := ⟨_, rfl⟩
  rw [hR] at HDG HD
  clear hr ho hR
  go_enter Tryz.func19, Tryz.ntmps19
  go_wp2_with fail
  refine HDG.out.mono ?_
  rintro e w1 ⟨rfl, hr1, hg1⟩
  have HST := hide (RSt.only HO.out hr1 hg1)
  have HB1 := hide (below_only hb hg1)
  clear hr1 hg1
  go_wp2_with fail
  refine (HNT.out _ _ _ _ HST.out).mono ?_
  rintro e w2 ⟨rfl, hst2, hb2⟩
  have HST2 := hide hst2
  have HB2 := hide (HB1.out.trans hb2)
  clear hst2 hb2
  go_wp2_with fail
  go_end0
  exact ⟨rfl, HB2.out, _, _, _, HST2.out, HD.out⟩
set_option maxHeartbeats 2000000 in
set_option maxRecDepth 100000 in
theorem dir_M (b : Nat) (T : ByteArray) (at_ : Nat) (bad : Bool) (hs : List (UInt8 × Int)) (w : World) (h : RSt 47 108 b T at_ bad hs w) (hat : at_ ≤ T.size) (hT : T.size ≤ 1000000) (hl : hs.length ≤ 900000) :
    Calls Tryz.prog 19 #[.pointer (some ⟨b, 0, none⟩), .int .u8 77] w (DirPost 47 108 b T [.dir 77] bad at_ hs w) := by
  obtain ⟨hv, hr, ho⟩ := h
  have hb : b ≤ w.heap.size := Nat.le_of_lt hr.lt
  have HO := hide ho
  have HNT : Hid (∀ (a : Nat) (bd : Bool) (x : Int) (W : World), RSt 47 108 b T a bd hs W → Calls Tryz.prog 43 #[.pointer (some ⟨b, 0, none⟩), .int .u8 77, .int .i64 x] W fun e w' => e = .returned (.tuple #[]) ∧ RSt 47 108 b T a bd (hs ++ [(77, x)]) w' ∧ Below b W w') := hide (fun a bd x W h => note_any b T a bd hs 77 x W h (by omega))
  have HDG := hide (digits_any b T at_ 2 bad hv w hr hat hT (by omega) (by omega))
  have HD := hide (dir_num (T := T.data.toList) (c := 77) (at_ := at_) (f := at_) (m := 2) (rd1_num2 (by decide)) (fun e => e) bad hs (fun _ => rfl))
  rw [show mapL 77 = 77 from rfl] at HD
  obtain ⟨R, hR⟩ : ∃ R, digsR T.data.toList bad at_ 2 = R := ⟨_, rfl⟩
  rw [hR] at HDG HD
  clear hr ho hR
  go_enter Tryz.func19, Tryz.ntmps19
  go_wp2_with fail
  refine HDG.out.mono ?_
  rintro e w1 ⟨rfl, hr1, hg1⟩
  have HST := hide (RSt.only HO.out hr1 hg1)
  have HB1 := hide (below_only hb hg1)
  clear hr1 hg1
  go_wp2_with fail
  refine (HNT.out _ _ _ _ HST.out).mono ?_
  rintro e w2 ⟨rfl, hst2, hb2⟩
  have HST2 := hide hst2
  have HB2 := hide (HB1.out.trans hb2)
  clear hst2 hb2
  go_wp2_with fail
  go_end0
  exact ⟨rfl, HB2.out, _, _, _, HST2.out, HD.out⟩
set_option maxHeartbeats 2000000 in
set_option maxRecDepth 100000 in
theorem dir_S (b : Nat) (T : ByteArray) (at_ : Nat) (bad : Bool) (hs : List (UInt8 × Int)) (w : World) (h : RSt 47 108 b T at_ bad hs w) (hat : at_ ≤ T.size) (hT : T.size ≤ 1000000) (hl : hs.length ≤ 900000) :
    Calls Tryz.prog 19 #[.pointer (some ⟨b, 0, none⟩), .int .u8 83] w (DirPost 47 108 b T [.dir 83] bad at_ hs w) := by
  obtain ⟨hv, hr, ho⟩ := h
  have hb : b ≤ w.heap.size := Nat.le_of_lt hr.lt
  have HO := hide ho
  have HNT : Hid (∀ (a : Nat) (bd : Bool) (x : Int) (W : World), RSt 47 108 b T a bd hs W → Calls Tryz.prog 43 #[.pointer (some ⟨b, 0, none⟩), .int .u8 83, .int .i64 x] W fun e w' => e = .returned (.tuple #[]) ∧ RSt 47 108 b T a bd (hs ++ [(83, x)]) w' ∧ Below b W w') := hide (fun a bd x W h => note_any b T a bd hs 83 x W h (by omega))
  have HDG := hide (digits_any b T at_ 2 bad hv w hr hat hT (by omega) (by omega))
  have HD := hide (dir_num (T := T.data.toList) (c := 83) (at_ := at_) (f := at_) (m := 2) (rd1_num2 (by decide)) (fun e => e) bad hs (fun _ => rfl))
  rw [show mapL 83 = 83 from rfl] at HD
  obtain ⟨R, hR⟩ : ∃ R, digsR T.data.toList bad at_ 2 = R := ⟨_, rfl⟩
  rw [hR] at HDG HD
  clear hr ho hR
  go_enter Tryz.func19, Tryz.ntmps19
  go_wp2_with fail
  refine HDG.out.mono ?_
  rintro e w1 ⟨rfl, hr1, hg1⟩
  have HST := hide (RSt.only HO.out hr1 hg1)
  have HB1 := hide (below_only hb hg1)
  clear hr1 hg1
  go_wp2_with fail
  refine (HNT.out _ _ _ _ HST.out).mono ?_
  rintro e w2 ⟨rfl, hst2, hb2⟩
  have HST2 := hide hst2
  have HB2 := hide (HB1.out.trans hb2)
  clear hst2 hb2
  go_wp2_with fail
  go_end0
  exact ⟨rfl, HB2.out, _, _, _, HST2.out, HD.out⟩
set_option maxHeartbeats 2000000 in
set_option maxRecDepth 100000 in
theorem dir_e (b : Nat) (T : ByteArray) (at_ : Nat) (bad : Bool) (hs : List (UInt8 × Int)) (w : World) (h : RSt 47 108 b T at_ bad hs w) (hat : at_ ≤ T.size) (hT : T.size ≤ 1000000) (hl : hs.length ≤ 900000) :
    Calls Tryz.prog 19 #[.pointer (some ⟨b, 0, none⟩), .int .u8 101] w (DirPost 47 108 b T [.dir 101] bad at_ hs w) := by
  obtain ⟨hv, hr, ho⟩ := h
  have hb : b ≤ w.heap.size := Nat.le_of_lt hr.lt
  have HO := hide ho
  have HNT : Hid (∀ (a : Nat) (bd : Bool) (x : Int) (W : World), RSt 47 108 b T a bd hs W → Calls Tryz.prog 43 #[.pointer (some ⟨b, 0, none⟩), .int .u8 100, .int .i64 x] W fun e w' => e = .returned (.tuple #[]) ∧ RSt 47 108 b T a bd (hs ++ [(100, x)]) w' ∧ Below b W w') := hide (fun a bd x W h => note_any b T a bd hs 100 x W h (by omega))
  have HIS := hide (is_any b T at_ bad hv 32 w hr hat hT (by decide))
  have HR := hide hr
  by_cases hbl : bad = false ∧ T.data.toList.getD at_ 0 = 32
  · obtain ⟨rfl, h32⟩ := hbl
    have hlt1 : at_ < T.size := by
      rcases Nat.lt_or_ge at_ T.size with h | h
      · exact h
      · rw [getD_off h] at h32; exact absurd h32 (by decide)
    rw [decide_eq_true h32] at HIS
    simp only [Bool.not_false, Bool.true_and] at HIS
    have HD := hide (dir_num (T := T.data.toList) (c := 101) (at_ := at_) (f := at_ + 1) (m := 1) (by unfold rd1; rw [if_neg (by decide), if_neg (by decide), if_neg (by decide), if_pos rfl, if_pos h32]) (fun e => by rw [len_size]; omega) false hs (fun e => by cases e))
    rw [show mapL 101 = 100 from rfl] at HD
    obtain ⟨R, hR⟩ : ∃ R, digsR T.data.toList false (at_ + 1) 1 = R := ⟨_, rfl⟩
    rw [hR] at HD
    have HRR := hide hR
    clear hr ho hR h32
    go_enter Tryz.func19, Tryz.ntmps19
    go_wp2_with fail
    refine HIS.out.mono ?_
    rintro e w0 ⟨rfl, n1, hw1⟩
    have HR0 : Hid (RdRow 47 b T at_ false hv w0) := hide (by rw [hw1]; exact HR.out.drewN n1)
    have HG0 : Hid (w.grownBy w0 (some b)) := hide (by rw [hw1]; exact only_drewN w b n1)
    clear hw1
    obtain ⟨c0, c1, c2, c3⟩ := HR0.out.cells
    have f1 := HR0.out.frozen 1
    go_wp2_with fail
    have HR1 := hide (HR0.out.setAt' (at_ + 1) ((at_ : Int) + 1) (by omega))
    have HG1 := hide (HG0.out.trans (only_set w0 b 1 (.int .i64 ((at_ : Int) + 1))))
    obtain ⟨w1, hw1⟩ : ∃ w1, w0.setCell ⟨b, 1, none⟩ (.int .i64 ((at_ : Int) + 1)) = w1 := ⟨_, rfl⟩
    rw [hw1] at HR1 HG1 ⊢
    clear hw1 c0 c1 c2 c3 f1
    have HDG := hide (digits_any b T (at_ + 1) 1 false hv w1 HR1.out (by omega) hT (by omega) (by omega))
    rw [HRR.out] at HDG
    refine HDG.out.mono ?_
    rintro e w2 ⟨rfl, hr2, hg2⟩
    have HG2 := hide (HG1.out.trans hg2)
    have HST := hide (RSt.only HO.out hr2 HG2.out)
    have HB2 := hide (below_only hb HG2.out)
    clear hr2 hg2
    go_wp2_with fail
    refine (HNT.out _ _ _ _ HST.out).mono ?_
    rintro e w3 ⟨rfl, hst3, hb3⟩
    have HST3 := hide hst3
    have HB3 := hide (HB2.out.trans hb3)
    clear hst3 hb3
    go_wp2_with fail
    go_end0
    exact ⟨rfl, HB3.out, _, _, _, HST3.out, HD.out⟩
  · have hfl : (!bad && decide (T.data.toList.getD at_ 0 = 32)) = false := by
      cases bad
      · simp at hbl; simp [hbl]
      · rfl
    rw [hfl] at HIS
    have HD : Hid (DirP T.data.toList [.dir 101] bad at_ hs (digsR T.data.toList bad at_ 2).2.1 (digsR T.data.toList bad at_ 2).1 (hs ++ [(100, (digsR T.data.toList bad at_ 2).2.2)])) := hide (by
      cases bad with
      | true =>
        unfold digsR
        rw [if_pos rfl]
        exact dir_bad (by simp)
      | false =>
        have h32 : ¬ T.data.toList.getD at_ 0 = 32 := fun e => hbl ⟨rfl, e⟩
        exact dir_num (T := T.data.toList) (c := 101) (at_ := at_) (f := at_) (m := 2) (by unfold rd1; simp only [if_neg h32]; simp) (fun e => e) false hs (fun e => by cases e))
    obtain ⟨R, hR⟩ : ∃ R, digsR T.data.toList bad at_ 2 = R := ⟨_, rfl⟩
    rw [hR] at HD
    have HRR := hide hR
    clear hr ho hR hfl hbl
    go_enter Tryz.func19, Tryz.ntmps19
    go_wp2_with fail
    refine HIS.out.mono ?_
    rintro e w1 ⟨rfl, n1, hw1⟩
    have HR1 : Hid (RdRow 47 b T at_ bad hv w1) := hide (by rw [hw1]; exact HR.out.drewN n1)
    have HG1 : Hid (w.grownBy w1 (some b)) := hide (by rw [hw1]; exact only_drewN w b n1)
    clear hw1
    have HDG := hide (digits_any b T at_ 2 bad hv w1 HR1.out hat hT (by omega) (by omega))
    rw [HRR.out] at HDG
    go_wp2_with fail
    refine HDG.out.mono ?_
    rintro e w2 ⟨rfl, hr2, hg2⟩
    have HG2 := hide (HG1.out.trans hg2)
    have HST := hide (RSt.only HO.out hr2 HG2.out)
    have HB2 := hide (below_only hb HG2.out)
    clear hr2 hg2
    go_wp2_with fail
    refine (HNT.out _ _ _ _ HST.out).mono ?_
    rintro e w3 ⟨rfl, hst3, hb3⟩
    have HST3 := hide hst3
    have HB3 := hide (HB2.out.trans hb3)
    clear hst3 hb3
    go_wp2_with fail
    go_end0
    exact ⟨rfl, HB3.out, _, _, _, HST3.out, HD.out⟩
set_option maxHeartbeats 2000000 in
set_option maxRecDepth 100000 in
theorem dir_a (b : Nat) (T : ByteArray) (at_ : Nat) (bad : Bool) (hs : List (UInt8 × Int)) (w : World) (h : RSt 47 108 b T at_ bad hs w) (hat : at_ ≤ T.size) (hT : T.size ≤ 1000000) (hl : hs.length ≤ 900000) (hS : SpTab w) :
    Calls Tryz.prog 19 #[.pointer (some ⟨b, 0, none⟩), .int .u8 97] w (DirPost 47 108 b T [.dir 97] bad at_ hs w) := by
  obtain ⟨hv, hr, ho⟩ := h
  have hb : b ≤ w.heap.size := Nat.le_of_lt hr.lt
  have HO := hide ho
  have HNT : Hid (∀ (a : Nat) (bd : Bool) (x : Int) (W : World), RSt 47 108 b T a bd hs W → Calls Tryz.prog 43 #[.pointer (some ⟨b, 0, none⟩), .int .u8 117, .int .i64 x] W fun e w' => e = .returned (.tuple #[]) ∧ RSt 47 108 b T a bd (hs ++ [(117, x)]) w' ∧ Below b W w') := hide (fun a bd x W h => note_any b T a bd hs 117 x W h (by omega))
  have HNM : Hid (∃ R : Int × Nat × Bool, (Calls Tryz.prog 46 #[.pointer (some ⟨b, 0, none⟩), .string dayStr] w fun e w' => e = .returned (.int .i64 R.1) ∧ RdRow 47 b T R.2.1 R.2.2 hv w' ∧ w.grownBy w' (some b)) ∧ DirP T.data.toList [.dir 97] bad at_ hs R.2.2 R.2.1 (hs ++ [(117, R.1 + 1)]) ∧ 0 ≤ R.1 ∧ R.1 ≤ 12) := hide (by
    cases bad with
    | true => exact ⟨(0, at_, true), name_bad dNames dayStr (fun W hW => days_any W hW) b T at_ hv w hr hS, dir_bad (by simp), by simp, by simp⟩
    | false => exact ⟨nmR dNames T.data.toList at_, name_go dNames dayStr (by decide) dNames3 (fun W hW => days_any W hW) b T at_ hv w hr hat hT hS, dir_name dNames3 (by simp [rd1]) hs, (name_range (by decide) dNames3 _ _).1, (name_range (by decide) dNames3 _ _).2⟩)
  obtain ⟨R, hn, hd, hr0, hr1⟩ := HNM.out
  have HN := hide hn
  have HD := hide hd
  unfold dayStr at HN
  clear hr ho hn hd HNM hS
  go_enter Tryz.func19, Tryz.ntmps19
  go_wp2_with fail
  refine HN.out.mono ?_
  rintro e w1 ⟨rfl, hr1, hg1⟩
  have HST := hide (RSt.only HO.out hr1 hg1)
  have HB1 := hide (below_only hb hg1)
  clear hr1 hg1
  go_wp2_with fail
  refine (HNT.out _ _ _ _ HST.out).mono ?_
  rintro e w2 ⟨rfl, hst2, hb2⟩
  have HST2 := hide hst2
  have HB2 := hide (HB1.out.trans hb2)
  clear hst2 hb2
  go_wp2_with fail
  go_end0
  exact ⟨rfl, HB2.out, _, _, _, HST2.out, HD.out⟩
set_option maxHeartbeats 2000000 in
set_option maxRecDepth 100000 in
theorem dir_b (b : Nat) (T : ByteArray) (at_ : Nat) (bad : Bool) (hs : List (UInt8 × Int)) (w : World) (h : RSt 47 108 b T at_ bad hs w) (hat : at_ ≤ T.size) (hT : T.size ≤ 1000000) (hl : hs.length ≤ 900000) (hS : SpTab w) :
    Calls Tryz.prog 19 #[.pointer (some ⟨b, 0, none⟩), .int .u8 98] w (DirPost 47 108 b T [.dir 98] bad at_ hs w) := by
  obtain ⟨hv, hr, ho⟩ := h
  have hb : b ≤ w.heap.size := Nat.le_of_lt hr.lt
  have HO := hide ho
  have HNT : Hid (∀ (a : Nat) (bd : Bool) (x : Int) (W : World), RSt 47 108 b T a bd hs W → Calls Tryz.prog 43 #[.pointer (some ⟨b, 0, none⟩), .int .u8 109, .int .i64 x] W fun e w' => e = .returned (.tuple #[]) ∧ RSt 47 108 b T a bd (hs ++ [(109, x)]) w' ∧ Below b W w') := hide (fun a bd x W h => note_any b T a bd hs 109 x W h (by omega))
  have HNM : Hid (∃ R : Int × Nat × Bool, (Calls Tryz.prog 46 #[.pointer (some ⟨b, 0, none⟩), .string monStr] w fun e w' => e = .returned (.int .i64 R.1) ∧ RdRow 47 b T R.2.1 R.2.2 hv w' ∧ w.grownBy w' (some b)) ∧ DirP T.data.toList [.dir 98] bad at_ hs R.2.2 R.2.1 (hs ++ [(109, R.1 + 1)]) ∧ 0 ≤ R.1 ∧ R.1 ≤ 12) := hide (by
    cases bad with
    | true => exact ⟨(0, at_, true), name_bad mNames monStr (fun W hW => months_any W hW) b T at_ hv w hr hS, dir_bad (by simp), by simp, by simp⟩
    | false => exact ⟨nmR mNames T.data.toList at_, name_go mNames monStr (by decide) mNames3 (fun W hW => months_any W hW) b T at_ hv w hr hat hT hS, dir_name mNames3 (by simp [rd1]) hs, (name_range (by decide) mNames3 _ _).1, (name_range (by decide) mNames3 _ _).2⟩)
  obtain ⟨R, hn, hd, hr0, hr1⟩ := HNM.out
  have HN := hide hn
  have HD := hide hd
  unfold monStr at HN
  clear hr ho hn hd HNM hS
  go_enter Tryz.func19, Tryz.ntmps19
  go_wp2_with fail
  refine HN.out.mono ?_
  rintro e w1 ⟨rfl, hr1, hg1⟩
  have HST := hide (RSt.only HO.out hr1 hg1)
  have HB1 := hide (below_only hb hg1)
  clear hr1 hg1
  go_wp2_with fail
  refine (HNT.out _ _ _ _ HST.out).mono ?_
  rintro e w2 ⟨rfl, hst2, hb2⟩
  have HST2 := hide hst2
  have HB2 := hide (HB1.out.trans hb2)
  clear hst2 hb2
  go_wp2_with fail
  go_end0
  exact ⟨rfl, HB2.out, _, _, _, HST2.out, HD.out⟩
set_option maxHeartbeats 2000000 in
set_option maxRecDepth 100000 in
theorem dir_s (b : Nat) (T : ByteArray) (at_ : Nat) (bad : Bool) (hs : List (UInt8 × Int)) (w : World) (h : RSt 47 108 b T at_ bad hs w) (hat : at_ ≤ T.size) (hT : T.size ≤ 1000000) (hl : hs.length ≤ 900000) :
    Calls Tryz.prog 19 #[.pointer (some ⟨b, 0, none⟩), .int .u8 115] w (DirPost 47 108 b T [.dir 115] bad at_ hs w) := by
  obtain ⟨hv, hr, ho⟩ := h
  have hb : b ≤ w.heap.size := Nat.le_of_lt hr.lt
  have HO := hide ho
  have HNT : Hid (∀ (a : Nat) (bd : Bool) (x : Int) (W : World), RSt 47 108 b T a bd hs W → Calls Tryz.prog 43 #[.pointer (some ⟨b, 0, none⟩), .int .u8 115, .int .i64 x] W fun e w' => e = .returned (.tuple #[]) ∧ RSt 47 108 b T a bd (hs ++ [(115, x)]) w' ∧ Below b W w') := hide (fun a bd x W h => note_any b T a bd hs 115 x W h (by omega))
  have HNM : Hid (∃ R : Int × Nat × Bool, (Calls Tryz.prog 47 #[.pointer (some ⟨b, 0, none⟩)] w fun e w' => e = .returned (.int .i64 R.1) ∧ RdRow 47 b T R.2.1 R.2.2 hv w' ∧ w.grownBy w' (some b)) ∧ DirP T.data.toList [.dir 115] bad at_ hs R.2.2 R.2.1 (hs ++ [(115, R.1)])) := hide (by
    cases bad with
    | true => exact ⟨(0, at_, true), time_bad b T at_ hv w hr hat hT, dir_bad (by simp)⟩
    | false => exact ⟨tmR T.data.toList at_, time_go b T at_ hv w hr hat hT, dir_time hs⟩)
  obtain ⟨R, hn, hd⟩ := HNM.out
  have HN := hide hn
  have HD := hide hd
  clear hr ho hn hd HNM
  go_enter Tryz.func19, Tryz.ntmps19
  go_wp2_with fail
  refine HN.out.mono ?_
  rintro e w1 ⟨rfl, hr1, hg1⟩
  have HST := hide (RSt.only HO.out hr1 hg1)
  have HB1 := hide (below_only hb hg1)
  clear hr1 hg1
  go_wp2_with fail
  refine (HNT.out _ _ _ _ HST.out).mono ?_
  rintro e w2 ⟨rfl, hst2, hb2⟩
  have HST2 := hide hst2
  have HB2 := hide (HB1.out.trans hb2)
  clear hst2 hb2
  go_wp2_with fail
  go_end0
  exact ⟨rfl, HB2.out, _, _, _, HST2.out, HD.out⟩
end Go.Proofs.YtifpmigghplmoaaGreatDoor

/- DReadH -/
set_option linter.unusedVariables false
set_option linter.unusedSimpArgs false
namespace Go.Proofs.YtifpmigghplmoaaGreatDoor
open Go.RowKit Go.Pw
theorem byteP {b : Nat} {T : ByteArray} {at_ : Nat} {bad : Bool} {hs : List (UInt8 × Int)} (c : UInt8) (w : World) (h : RSt 47 108 b T at_ bad hs w) (hat : at_ ≤ T.size) (hT : T.size ≤ 1000000) :
    Calls Tryz.prog 18 #[.pointer (some ⟨b, 0, none⟩), .int .u8 (c.toNat : Int)] w (DirPost 47 108 b T [.byte c] bad at_ hs w) := by
  obtain ⟨hv, hr, ho⟩ := h
  refine (byte_any b T at_ bad hv c w hr hat hT).mono ?_
  rintro e w' ⟨rfl, hr', hg⟩
  exact ⟨rfl, below_only (Nat.le_of_lt hr.lt) hg, _, _, _, RSt.only ho hr' hg, dir_byte bad hs _ rfl⟩
set_option maxHeartbeats 2000000 in
set_option maxRecDepth 100000 in
theorem dir_n (b : Nat) (T : ByteArray) (at_ : Nat) (bad : Bool) (hs : List (UInt8 × Int)) (w : World) (h : RSt 47 108 b T at_ bad hs w) (hat : at_ ≤ T.size) (hT : T.size ≤ 1000000) :
    Calls Tryz.prog 19 #[.pointer (some ⟨b, 0, none⟩), .int .u8 110] w (DirPost 47 108 b T [.byte 10] bad at_ hs w) := by
  have HB : Hid (Calls Tryz.prog 18 #[.pointer (some ⟨b, 0, none⟩), .int .u8 10] w (DirPost 47 108 b T [.byte 10] bad at_ hs w)) := hide (byteP 10 w h hat hT)
  clear h
  go_enter Tryz.func19, Tryz.ntmps19
  go_wp2_with fail
  refine HB.out.mono ?_
  rintro e w1 ⟨rfl, hp⟩
  have HP := hide hp
  clear hp
  go_wp2_with fail
  go_end0
  exact ⟨rfl, HP.out⟩
set_option maxHeartbeats 2000000 in
set_option maxRecDepth 100000 in
theorem dir_t (b : Nat) (T : ByteArray) (at_ : Nat) (bad : Bool) (hs : List (UInt8 × Int)) (w : World) (h : RSt 47 108 b T at_ bad hs w) (hat : at_ ≤ T.size) (hT : T.size ≤ 1000000) :
    Calls Tryz.prog 19 #[.pointer (some ⟨b, 0, none⟩), .int .u8 116] w (DirPost 47 108 b T [.byte 9] bad at_ hs w) := by
  have HB : Hid (Calls Tryz.prog 18 #[.pointer (some ⟨b, 0, none⟩), .int .u8 9] w (DirPost 47 108 b T [.byte 9] bad at_ hs w)) := hide (byteP 9 w h hat hT)
  clear h
  go_enter Tryz.func19, Tryz.ntmps19
  go_wp2_with fail
  refine HB.out.mono ?_
  rintro e w1 ⟨rfl, hp⟩
  have HP := hide hp
  clear hp
  go_wp2_with fail
  go_end0
  exact ⟨rfl, HP.out⟩
set_option maxHeartbeats 2000000 in
set_option maxRecDepth 100000 in
theorem dir_p (b : Nat) (T : ByteArray) (at_ : Nat) (bad : Bool) (hs : List (UInt8 × Int)) (w : World) (h : RSt 47 108 b T at_ bad hs w) (hat : at_ ≤ T.size) (hT : T.size ≤ 1000000) :
    Calls Tryz.prog 19 #[.pointer (some ⟨b, 0, none⟩), .int .u8 37] w (DirPost 47 108 b T [.byte 37] bad at_ hs w) := by
  have HB : Hid (Calls Tryz.prog 18 #[.pointer (some ⟨b, 0, none⟩), .int .u8 37] w (DirPost 47 108 b T [.byte 37] bad at_ hs w)) := hide (byteP 37 w h hat hT)
  clear h
  go_enter Tryz.func19, Tryz.ntmps19
  go_wp2_with fail
  refine HB.out.mono ?_
  rintro e w1 ⟨rfl, hp⟩
  have HP := hide hp
  clear hp
  go_wp2_with fail
  go_end0
  exact ⟨rfl, HP.out⟩
set_option maxHeartbeats 4000000 in
set_option maxRecDepth 100000 in
theorem chain_F (b : Nat) (T : ByteArray) (at_ : Nat) (bad : Bool) (hs : List (UInt8 × Int)) (w : World) (h : RSt 47 108 b T at_ bad hs w) (hat : at_ ≤ T.size) (hT : T.size ≤ 1000000) (hl : hs.length ≤ 800000) :
    Calls Tryz.prog 48 #[.pointer (some ⟨b, 0, none⟩), .string ⟨#[89, 109, 100]⟩, .int .u8 45] w (DirPost 47 108 b T [.dir 89, .byte 45, .dir 109, .byte 45, .dir 100] bad at_ hs w) := by
  have HLS := hide (len_size T)
  have HST0 := hide h
  have HBY : Hid (∀ (a : Nat) (bd : Bool) (g : List (UInt8 × Int)) (W : World), RSt 47 108 b T a bd g W → a ≤ T.size → Calls Tryz.prog 18 #[.pointer (some ⟨b, 0, none⟩), .int .u8 45] W (DirPost 47 108 b T [.byte 45] bd a g W)) := hide (fun a bd g W h ha => byteP 45 W h ha hT)
  clear h
  go_enter Tryz.func48, Tryz.ntmps48
  go_wp2_with fail
  refine wp_loop_rounds 4 ?_
  rw [rounds_succ]
  go_wp2_with fail
  refine (dir_Y b T at_ bad hs w HST0.out hat hT (by omega)).mono ?_
  rintro e w1 ⟨rfl, hb1, bad1, at1, hs1, hst1, hd1⟩
  have HB1 := hide hb1
  have HST1 := hide hst1
  have HD1 := hide hd1
  have ha1 : at1 ≤ T.size := by have h1 := HD1.out.le; have h2 := HLS.out; omega
  have hl1 := hd1.len
  simp only [List.length_cons, List.length_nil] at hl1
  clear hb1 hst1 hd1
  go_wp2_with fail
  rw [rounds_succ]
  go_wp2_with fail
  refine (HBY.out _ _ _ _ HST1.out ha1).mono ?_
  rintro e w2 ⟨rfl, hb2, bad2, at2, hs2, hst2, hd2⟩
  have HB2 := hide (HB1.out.trans hb2)
  have HST2 := hide hst2
  have HD2 := hide (HD1.out.trans hd2)
  have ha2 : at2 ≤ T.size := by have h1 := HD2.out.le; have h2 := HLS.out; omega
  have hl2 := hd2.len
  simp only [List.length_cons, List.length_nil] at hl2
  clear hb2 hst2 hd2
  go_wp2_with fail
  refine (dir_m b T at2 bad2 hs2 w2 HST2.out ha2 hT (by omega)).mono ?_
  rintro e w3 ⟨rfl, hb3, bad3, at3, hs3, hst3, hd3⟩
  have HB3 := hide (HB2.out.trans hb3)
  have HST3 := hide hst3
  have HD3 := hide (HD2.out.trans hd3)
  have ha3 : at3 ≤ T.size := by have h1 := HD3.out.le; have h2 := HLS.out; omega
  have hl3 := hd3.len
  simp only [List.length_cons, List.length_nil] at hl3
  clear hb3 hst3 hd3
  go_wp2_with fail
  rw [rounds_succ]
  go_wp2_with fail
  refine (HBY.out _ _ _ _ HST3.out ha3).mono ?_
  rintro e w4 ⟨rfl, hb4, bad4, at4, hs4, hst4, hd4⟩
  have HB4 := hide (HB3.out.trans hb4)
  have HST4 := hide hst4
  have HD4 := hide (HD3.out.trans hd4)
  have ha4 : at4 ≤ T.size := by have h1 := HD4.out.le; have h2 := HLS.out; omega
  have hl4 := hd4.len
  simp only [List.length_cons, List.length_nil] at hl4
  clear hb4 hst4 hd4
  go_wp2_with fail
  refine (dir_d b T at4 bad4 hs4 w4 HST4.out ha4 hT (by omega)).mono ?_
  rintro e w5 ⟨rfl, hb5, bad5, at5, hs5, hst5, hd5⟩
  have HB5 := hide (HB4.out.trans hb5)
  have HST5 := hide hst5
  have HD5 := hide (HD4.out.trans hd5)
  have ha5 : at5 ≤ T.size := by have h1 := HD5.out.le; have h2 := HLS.out; omega
  have hl5 := hd5.len
  simp only [List.length_cons, List.length_nil] at hl5
  clear hb5 hst5 hd5
  go_wp2_with fail
  rw [rounds_succ]
  go_wp2_with fail
  go_end0
  exact ⟨rfl, HB5.out, _, _, _, HST5.out, HD5.out⟩
set_option maxHeartbeats 2000000 in
set_option maxRecDepth 100000 in
theorem dir_F (b : Nat) (T : ByteArray) (at_ : Nat) (bad : Bool) (hs : List (UInt8 × Int)) (w : World) (h : RSt 47 108 b T at_ bad hs w) (hat : at_ ≤ T.size) (hT : T.size ≤ 1000000) (hl : hs.length ≤ 800000) :
    Calls Tryz.prog 19 #[.pointer (some ⟨b, 0, none⟩), .int .u8 70] w (DirPost 47 108 b T [.dir 89, .byte 45, .dir 109, .byte 45, .dir 100] bad at_ hs w) := by
  have HB := hide (chain_F b T at_ bad hs w h hat hT hl)
  clear h
  go_enter Tryz.func19, Tryz.ntmps19
  go_wp2_with fail
  refine HB.out.mono ?_
  rintro e w1 ⟨rfl, hp⟩
  have HP := hide hp
  clear hp
  go_wp2_with fail
  go_end0
  exact ⟨rfl, HP.out⟩
set_option maxHeartbeats 4000000 in
set_option maxRecDepth 100000 in
theorem chain_T (b : Nat) (T : ByteArray) (at_ : Nat) (bad : Bool) (hs : List (UInt8 × Int)) (w : World) (h : RSt 47 108 b T at_ bad hs w) (hat : at_ ≤ T.size) (hT : T.size ≤ 1000000) (hl : hs.length ≤ 800000) :
    Calls Tryz.prog 48 #[.pointer (some ⟨b, 0, none⟩), .string ⟨#[72, 77, 83]⟩, .int .u8 58] w (DirPost 47 108 b T [.dir 72, .byte 58, .dir 77, .byte 58, .dir 83] bad at_ hs w) := by
  have HLS := hide (len_size T)
  have HST0 := hide h
  have HBY : Hid (∀ (a : Nat) (bd : Bool) (g : List (UInt8 × Int)) (W : World), RSt 47 108 b T a bd g W → a ≤ T.size → Calls Tryz.prog 18 #[.pointer (some ⟨b, 0, none⟩), .int .u8 58] W (DirPost 47 108 b T [.byte 58] bd a g W)) := hide (fun a bd g W h ha => byteP 58 W h ha hT)
  clear h
  go_enter Tryz.func48, Tryz.ntmps48
  go_wp2_with fail
  refine wp_loop_rounds 4 ?_
  rw [rounds_succ]
  go_wp2_with fail
  refine (dir_H b T at_ bad hs w HST0.out hat hT (by omega)).mono ?_
  rintro e w1 ⟨rfl, hb1, bad1, at1, hs1, hst1, hd1⟩
  have HB1 := hide hb1
  have HST1 := hide hst1
  have HD1 := hide hd1
  have ha1 : at1 ≤ T.size := by have h1 := HD1.out.le; have h2 := HLS.out; omega
  have hl1 := hd1.len
  simp only [List.length_cons, List.length_nil] at hl1
  clear hb1 hst1 hd1
  go_wp2_with fail
  rw [rounds_succ]
  go_wp2_with fail
  refine (HBY.out _ _ _ _ HST1.out ha1).mono ?_
  rintro e w2 ⟨rfl, hb2, bad2, at2, hs2, hst2, hd2⟩
  have HB2 := hide (HB1.out.trans hb2)
  have HST2 := hide hst2
  have HD2 := hide (HD1.out.trans hd2)
  have ha2 : at2 ≤ T.size := by have h1 := HD2.out.le; have h2 := HLS.out; omega
  have hl2 := hd2.len
  simp only [List.length_cons, List.length_nil] at hl2
  clear hb2 hst2 hd2
  go_wp2_with fail
  refine (dir_M b T at2 bad2 hs2 w2 HST2.out ha2 hT (by omega)).mono ?_
  rintro e w3 ⟨rfl, hb3, bad3, at3, hs3, hst3, hd3⟩
  have HB3 := hide (HB2.out.trans hb3)
  have HST3 := hide hst3
  have HD3 := hide (HD2.out.trans hd3)
  have ha3 : at3 ≤ T.size := by have h1 := HD3.out.le; have h2 := HLS.out; omega
  have hl3 := hd3.len
  simp only [List.length_cons, List.length_nil] at hl3
  clear hb3 hst3 hd3
  go_wp2_with fail
  rw [rounds_succ]
  go_wp2_with fail
  refine (HBY.out _ _ _ _ HST3.out ha3).mono ?_
  rintro e w4 ⟨rfl, hb4, bad4, at4, hs4, hst4, hd4⟩
  have HB4 := hide (HB3.out.trans hb4)
  have HST4 := hide hst4
  have HD4 := hide (HD3.out.trans hd4)
  have ha4 : at4 ≤ T.size := by have h1 := HD4.out.le; have h2 := HLS.out; omega
  have hl4 := hd4.len
  simp only [List.length_cons, List.length_nil] at hl4
  clear hb4 hst4 hd4
  go_wp2_with fail
  refine (dir_S b T at4 bad4 hs4 w4 HST4.out ha4 hT (by omega)).mono ?_
  rintro e w5 ⟨rfl, hb5, bad5, at5, hs5, hst5, hd5⟩
  have HB5 := hide (HB4.out.trans hb5)
  have HST5 := hide hst5
  have HD5 := hide (HD4.out.trans hd5)
  have ha5 : at5 ≤ T.size := by have h1 := HD5.out.le; have h2 := HLS.out; omega
  have hl5 := hd5.len
  simp only [List.length_cons, List.length_nil] at hl5
  clear hb5 hst5 hd5
  go_wp2_with fail
  rw [rounds_succ]
  go_wp2_with fail
  go_end0
  exact ⟨rfl, HB5.out, _, _, _, HST5.out, HD5.out⟩
set_option maxHeartbeats 2000000 in
set_option maxRecDepth 100000 in
theorem dir_T (b : Nat) (T : ByteArray) (at_ : Nat) (bad : Bool) (hs : List (UInt8 × Int)) (w : World) (h : RSt 47 108 b T at_ bad hs w) (hat : at_ ≤ T.size) (hT : T.size ≤ 1000000) (hl : hs.length ≤ 800000) :
    Calls Tryz.prog 19 #[.pointer (some ⟨b, 0, none⟩), .int .u8 84] w (DirPost 47 108 b T [.dir 72, .byte 58, .dir 77, .byte 58, .dir 83] bad at_ hs w) := by
  have HB := hide (chain_T b T at_ bad hs w h hat hT hl)
  clear h
  go_enter Tryz.func19, Tryz.ntmps19
  go_wp2_with fail
  refine HB.out.mono ?_
  rintro e w1 ⟨rfl, hp⟩
  have HP := hide hp
  clear hp
  go_wp2_with fail
  go_end0
  exact ⟨rfl, HP.out⟩
theorem directive_any (c : UInt8) (hc : c ∈ dLetters) (b : Nat) (T : ByteArray) (at_ : Nat) (bad : Bool) (hs : List (UInt8 × Int)) (w : World) (h : RSt 47 108 b T at_ bad hs w) (hat : at_ ≤ T.size) (hT : T.size ≤ 1000000) (hl : hs.length ≤ 800000) (hS : SpTab w) :
    Calls Tryz.prog 19 #[.pointer (some ⟨b, 0, none⟩), .int .u8 (c.toNat : Int)] w (DirPost 47 108 b T (expand c) bad at_ hs w) := by
  unfold dLetters at hc
  simp only [List.mem_cons, List.not_mem_nil, or_false] at hc
  have hl2 : hs.length ≤ 900000 := by omega
  rcases hc with rfl | rfl | rfl | rfl | rfl | rfl | rfl | rfl | rfl | rfl | rfl | rfl | rfl | rfl | rfl | rfl | rfl | rfl
  · exact dir_Y b T at_ bad hs w h hat hT hl2
  · exact dir_y b T at_ bad hs w h hat hT hl2
  · exact dir_m b T at_ bad hs w h hat hT hl2
  · exact dir_d b T at_ bad hs w h hat hT hl2
  · exact dir_H b T at_ bad hs w h hat hT hl2
  · exact dir_M b T at_ bad hs w h hat hT hl2
  · exact dir_S b T at_ bad hs w h hat hT hl2
  · exact dir_j b T at_ bad hs w h hat hT hl2
  · exact dir_e b T at_ bad hs w h hat hT hl2
  · exact dir_u b T at_ bad hs w h hat hT hl2
  · exact dir_a b T at_ bad hs w h hat hT hl2 hS
  · exact dir_b b T at_ bad hs w h hat hT hl2 hS
  · exact dir_s b T at_ bad hs w h hat hT hl2
  · exact dir_F b T at_ bad hs w h hat hT hl
  · exact dir_T b T at_ bad hs w h hat hT hl
  · exact dir_n b T at_ bad hs w h hat hT
  · exact dir_t b T at_ bad hs w h hat hT
  · exact dir_p b T at_ bad hs w h hat hT
end Go.Proofs.YtifpmigghplmoaaGreatDoor
