/- A time is read along a format: the reference: digitsAt, oneOf, samePart. -/
import Derived.Test.YtifpmigghplmoaaGreatDoorZDrE
import Derived.Test.YtifpmigghplmoaaGreatDoorInB
import Derived.Test.YtifpmigghplmoaaGreatDoorZDtA
/- DReadU -/
set_option linter.unusedVariables false
set_option linter.unusedSimpArgs false
namespace Go.Pw
open Go.RowKit
/-- what digitsAt returns -/
def dgV (T : List UInt8) (at_ m : Nat) : Int × Int := match digsN T at_ m 0 with
  | .inl q => (0, (q : Int))
  | .inr v => (v, -1)
/-- how many bytes of two lists are the same -/
def cpl : List UInt8 → List UInt8 → Nat
  | a :: l, b :: r => if a = b then cpl l r + 1 else 0
  | _, _ => 0
theorem cpl_le : ∀ a b, cpl a b ≤ a.length ∧ cpl a b ≤ b.length
  | [], b => by simp [cpl]
  | a :: l, [] => by simp [cpl]
  | a :: l, b :: r => by
    rw [cpl]
    by_cases h : a = b
    · rw [if_pos h]; have := cpl_le l r; simp; omega
    · rw [if_neg h]; simp
theorem cpl_take : ∀ (n : Nat) (a b : List UInt8), n ≤ a.length → (a.take n = b.take n ↔ n ≤ cpl a b)
  | 0, a, b, _ => by simp
  | n + 1, [], b, h => by simp at h
  | n + 1, a :: l, [], h => by simp [cpl]
  | n + 1, a :: l, b :: r, h => by
    rw [cpl, List.take_succ_cons, List.take_succ_cons]
    by_cases e : a = b
    · rw [if_pos e, e]
      have := cpl_take n l r (by simpa using h)
      rw [List.cons.injEq, this]; simp
    · rw [if_neg e]; simp [e]
/-- the most bytes that fit a name -/
def bestN (names : List (List UInt8)) (u : List UInt8) : Nat := names.foldl (fun b s => max b (cpl s u)) 0
theorem foldl_max_ge (f : List UInt8 → Nat) : ∀ (l : List (List UInt8)) (b : Nat), b ≤ l.foldl (fun b s => max b (f s)) b ∧ (∀ s ∈ l, f s ≤ l.foldl (fun b s => max b (f s)) b) ∧ (l.foldl (fun b s => max b (f s)) b = b ∨ ∃ s ∈ l, l.foldl (fun b s => max b (f s)) b = f s)
  | [], b => ⟨Nat.le_refl _, (fun s h => by cases h), .inl rfl⟩
  | a :: l, b => by
    obtain ⟨h1, h2, h3⟩ := foldl_max_ge f l (max b (f a))
    rw [List.foldl_cons]
    refine ⟨by omega, fun s hs => ?_, ?_⟩
    · rcases List.mem_cons.1 hs with rfl | hs
      · omega
      · exact h2 s hs
    · rcases h3 with h3 | ⟨s, hs, h3⟩
      · rcases Nat.le_total (f a) b with h | h
        · left; rw [h3]; omega
        · right; exact ⟨a, List.mem_cons_self, by rw [h3]; omega⟩
      · exact .inr ⟨s, List.mem_cons_of_mem _ hs, h3⟩
theorem hasP_best {names : List (List UInt8)} (h3 : ∀ s ∈ names, s.length = 3) (T : List UInt8) (at_ : Nat) {n : Nat} (hn : n ≤ 3) (h0 : 1 ≤ n) : hasP names T at_ n = decide (n ≤ bestN names (T.drop at_)) := by
  obtain ⟨g1, g2, g3⟩ := foldl_max_ge (fun s => cpl s (T.drop at_)) names 0
  by_cases h : n ≤ bestN names (T.drop at_)
  · rw [decide_eq_true h]
    unfold hasP
    unfold bestN at h
    rcases g3 with g3 | ⟨s, hs, g3⟩
    · omega
    · refine List.any_eq_true.2 ⟨s, hs, ?_⟩
      rw [beq_iff_eq]
      exact (cpl_take n s _ (by rw [h3 s hs]; exact hn)).2 (by omega)
  · rw [decide_eq_false h]
    unfold hasP
    rw [List.any_eq_false]
    intro s hs
    rw [beq_iff_eq]
    intro e
    have := (cpl_take n s (T.drop at_) (by rw [h3 s hs]; exact hn)).1 e
    have := g2 s hs
    unfold bestN at h
    omega
/-- what oneOf returns -/
def oneV (names : List (List UInt8)) (u : List UInt8) : Nat × Nat :=
  if bestN names u = 3 then (3, (names.findIdx fun s => s.take 3 == u.take 3) + 1) else (bestN names u, 0)
theorem bestN_le {names : List (List UInt8)} (h3 : ∀ s ∈ names, s.length = 3) (u : List UInt8) : bestN names u ≤ 3 := by
  obtain ⟨g1, g2, g3⟩ := foldl_max_ge (fun s => cpl s u) names 0
  unfold bestN
  rcases g3 with g3 | ⟨s, hs, g3⟩
  · omega
  · rw [g3]
    have := (cpl_le s u).1
    rw [h3 s hs] at this; exact this
theorem rdName_oneV {names : List (List UInt8)} (h3 : ∀ s ∈ names, s.length = 3) (T : List UInt8) (c : UInt8) (at_ : Nat) :
    rdName names T c at_ = if (oneV names (T.drop at_)).2 = 0 then .inl (at_ + (oneV names (T.drop at_)).1) else .inr (at_ + 3, [⟨c, ((oneV names (T.drop at_)).2 : Int), piece T at_ (at_ + 3)⟩]) := by
  have hb := bestN_le h3 (T.drop at_)
  unfold rdName oneV
  rw [hasP_best h3 T at_ (by omega) (by omega), hasP_best h3 T at_ (by omega) (by omega), hasP_best h3 T at_ (by omega) (by omega)]
  obtain ⟨B, hB⟩ : ∃ B, bestN names (T.drop at_) = B := ⟨_, rfl⟩
  rw [hB] at hb ⊢
  rcases Nat.lt_or_ge 2 B with h | h
  · obtain rfl : B = 3 := by omega
    simp [nameK]
  · rw [if_neg (show ¬ B = 3 by omega)]
    rcases Nat.lt_or_ge 1 B with h1 | h1
    · obtain rfl : B = 2 := by omega
      simp
    · rcases Nat.lt_or_ge 0 B with h2 | h2
      · obtain rfl : B = 1 := by omega
        simp
      · obtain rfl : B = 0 := by omega
        simp
theorem u8_sub48 {c : UInt8} (h : isDg c = true) : IntKind.u8.wrap ((c.toNat : Int) - 48) = (c.toNat : Int) - 48 := by
  have := (isDg_iff c).1 h
  exact IntWalk.u8_in _ (by omega)
end Go.Pw
namespace Go.Proofs.YtifpmigghplmoaaGreatDoor
open Go.RowKit Go.Pw
theorem digitD_any (c : UInt8) (w : World) : Calls Tryz.prog 56 #[.int .u8 (c.toNat : Int)] w fun e w' => e = .returned (.bool (isDg c)) ∧ w = w' := by
  have H := hide (isDg_iff c)
  by_cases h1 : 48 ≤ (c.toNat : Int)
  · by_cases h2 : (c.toNat : Int) ≤ 57
    · have HV : Hid (isDg c = true) := hide (H.out.2 ⟨by omega, by omega⟩)
      go_enter Tryz.func56, Tryz.ntmps56
      go_wp2_with fail
      go_ret
      exact ⟨by rw [HV.out]; simp [h2], rfl⟩
    · have HV : Hid (isDg c = false) := hide (by rw [Bool.eq_false_iff]; intro e; have := (H.out.1 e).2; omega)
      go_enter Tryz.func56, Tryz.ntmps56
      go_wp2_with fail
      go_ret
      exact ⟨by rw [HV.out]; simp [h2], rfl⟩
  · have HV : Hid (isDg c = false) := hide (by rw [Bool.eq_false_iff]; intro e; have := (H.out.1 e).1; omega)
    go_enter Tryz.func56, Tryz.ntmps56
    go_wp2_with fail
    go_ret
    exact ⟨by rw [HV.out]; rfl, rfl⟩
set_option maxHeartbeats 4000000 in
set_option maxRecDepth 100000 in
theorem digitsAt_any (s : ByteArray) (at_ m : Nat) (w : World) (hs : s.size ≤ 1000000) (hat : at_ ≤ 1000001) (hm : m ≤ 12) :
    Calls Tryz.prog 57 #[.string s, .int .i64 (at_ : Int), .int .i64 (m : Int)] w fun e w' => e = .returned (.tuple #[.int .i64 (dgV s.data.toList at_ m).1, .int .i64 (dgV s.data.toList at_ m).2]) ∧ w = w' := by
  have HLS := hide (len_size s)
  have HDG := hide (fun c W => digitD_any c W)
  obtain ⟨R, hRd⟩ : ∃ R, dgV s.data.toList at_ m = R := ⟨_, rfl⟩
  have HD : Hid (digsR s.data.toList false at_ m = (if R.2 = -1 then (at_ + m, false, R.1) else (R.2.toNat, true, 0)) ∧ (R.2 = -1 ∨ (0 ≤ R.2 ∧ R.1 = 0))) := hide (by
    rw [← hRd]
    unfold digsR dgV
    cases digsN s.data.toList at_ m 0 with
    | inl q => refine ⟨?_, .inr ⟨by simp, rfl⟩⟩; simp only [Bool.false_eq_true, if_false]; rw [if_neg (by omega)]; simp
    | inr v => exact ⟨by simp, .inl rfl⟩)
  rw [hRd]
  clear hRd
  go_enter Tryz.func57, Tryz.ntmps57
  go_wp2_with fail
  go_loopw [6, 10] (fun n i wr => ∃ (k : Nat) (acc : Int), k ≤ m ∧ i = .int .i64 (k : Int) ∧ n = .int .i64 acc ∧ Hid (DgAt s.data.toList at_ m k acc) ∧ Hid (w = wr)) (fun _ i _ => m - (intOf i).toNat)
  case atStart => exact ⟨0, 0, by omega, rfl, rfl, hide (DgAt.start _ _ _), hide rfl⟩
  case round =>
    obtain ⟨k, acc, hk, rfl, rfl, HG, HW⟩ := hrel
    have u1 : IntKind.i64.wrap ((at_ : Int) + (k : Int)) = ((at_ + k : Nat) : Int) := by
      rw [show ((at_ : Int) + (k : Int)) = ((at_ + k : Nat) : Int) by omega]; exact IntWalk.i64_in _ (by omega)
    obtain ⟨p, hp⟩ : ∃ p, at_ + k = p := ⟨_, rfl⟩
    have HP := hide hp
    rw [hp] at u1
    clear hp
    by_cases hlt : k < m
    · have hl2 : (k : Int) < (m : Int) := by omega
      have HSTOP : Hid (isDg (s.data.toList.getD p 0) = false → R = (0, (p : Int))) := hide (fun h => by
        have h1 := HG.out.stop hlt (by rw [HP.out]; exact h)
        rw [HP.out, HD.out.1] at h1
        rcases HD.out.2 with h2 | ⟨h2, h3⟩
        · rw [if_pos h2] at h1; exact absurd (congrArg (fun x => x.2.1) h1) (by simp)
        · rw [if_neg (by omega)] at h1
          have h4 := congrArg (fun x => x.1) h1
          simp only at h4
          obtain ⟨a, b⟩ := R
          simp only at h2 h3 h4
          rw [h3]; congr 1; omega)
      by_cases hend : s.size ≤ p
      · have hq : (s.size : Int) ≤ (p : Int) := by omega
        have HS := hide (HSTOP.out (by rw [getD_off hend]; rfl))
        clear hend
        go_wp2_with fail
        go_ret2
        exact ⟨by rw [HS.out]; rfl, HW.out⟩
      · have hpl : p < s.size := by omega
        have hq : ¬ (s.size : Int) ≤ (p : Int) := by omega
        have hp0 : (0 : Int) ≤ (p : Int) := by omega
        have hp1 : (p : Int) < (s.size : Int) := by omega
        have hgd := getD_at hpl
        have HDC := hide (HDG.out s[p])
        clear hend
        cases hdg : isDg s[p]
        · have HS := hide (HSTOP.out (by rw [hgd]; exact hdg))
          rw [hdg] at HDC
          clear hgd hdg
          go_wp2_with fail
          refine (HDC.out _).mono ?_
          rintro e w' ⟨rfl, rfl⟩
          go_wp2_with fail
          go_ret2
          exact ⟨by rw [HS.out]; rfl, HW.out⟩
        · have HN := hide (HG.out.next hlt (by rw [HP.out, hgd]; exact hdg))
          rw [HP.out, hgd] at HN
          have u2 := u8_sub48 hdg
          have g0 := (isDg_iff _).1 hdg
          have g1 : 48 ≤ (s[p].toNat : Int) := by omega
          have g2 : (s[p].toNat : Int) ≤ 57 := by omega
          have ha0 := HG.out.2.2.1
          have ha1 : acc ≤ 1000000000000 := by
            have h1 := HG.out.2.2.2.1
            have h2 : (10 : Int) ^ k ≤ (10 : Int) ^ 12 := by
              have : (10 : Nat) ^ k ≤ 10 ^ 12 := Nat.pow_le_pow_right (by decide) (by omega)
              exact_mod_cast this
            have h3 : (10 : Int) ^ 12 = 1000000000000 := by decide
            omega
          rw [hdg] at HDC
          clear hgd hdg g0
          go_wp2_with fail
          refine (HDC.out _).mono ?_
          rintro e w' ⟨rfl, rfl⟩
          go_wp2_with fail
          go_roundw
          case rel => exact ⟨k + 1, _, by omega, by go_num, rfl, HN, HW⟩
          case measure => simp [intOf]; omega
    · obtain rfl : k = m := by omega
      have HS : Hid (R = (acc, -1)) := hide (by
        have h1 := HG.out.done
        rw [HD.out.1] at h1
        rcases HD.out.2 with h2 | ⟨h2, h3⟩
        · rw [if_pos h2] at h1
          have h4 := congrArg (fun x => x.2.2) h1
          simp only at h4
          obtain ⟨a, b⟩ := R
          simp only at h2 h4
          rw [h2, h4]
        · rw [if_neg (by omega)] at h1; exact absurd (congrArg (fun x => x.2.1) h1) (by simp))
      go_wp2_with fail
      go_ret2
      exact ⟨by rw [HS.out]; rfl, HW.out⟩
/-- plain's loop -/
theorem stripZ_stay {l : List UInt8} (h : l.length ≤ 1) : stripZ l = l := by
  match l, h with
  | [], _ => rfl
  | [c], _ => rfl
def szOf (v : Value) : Nat := match v with | .string b => b.size | _ => 0
theorem u8_ne' {c : UInt8} {n : UInt8} (h : ¬ c = n) : ((c.toNat : Int) == (n.toNat : Int)) = false := by
  have : c.toNat ≠ n.toNat := fun e => h (UInt8.toNat_inj.1 e)
  simp; omega
theorem first_byte (q : ByteArray) (h : 0 < q.size) : q.data.toList = q[0] :: (q.extract 1 q.size).data.toList := by
  have e : (q.extract 1 q.size).data.toList = q.data.toList.drop 1 := by
    rw [ByteArray.data_extract, Array.toList_extract, List.extract_eq_take_drop]
    rw [List.take_of_length_le (by rw [List.length_drop, len_size]; exact Nat.le_refl _)]
  rw [e]
  have h2 : 0 < q.data.toList.length := by rw [len_size]; exact h
  rw [show q[0] = q.data.toList[0] from rfl]
  rw [← List.drop_eq_getElem_cons h2]; rfl
set_option maxHeartbeats 8000000 in
set_option maxRecDepth 100000 in
theorem plainS_any (s : ByteArray) (w : World) (hs : s.size ≤ 1000000) :
    Calls Tryz.prog 63 #[.string s] w fun e w' => e = .returned (.string (mkB (plainS s.data.toList))) ∧ Below w.heap.size w w' := by
  have HLS := hide (len_size s)
  obtain ⟨T, hT⟩ : ∃ T, plainS s.data.toList = T := ⟨_, rfl⟩
  have HT := hide hT
  rw [hT]
  clear hT
  by_cases h0 : 0 < s.size
  · have g0 : (0 : Int) < (s.size : Int) := by omega
    have g1 : (1 : Int) ≤ (s.size : Int) := by omega
    by_cases h45 : s[0] = 45
    · have d1 : ((s[0].toNat : Int) == 45) = true := by rw [h45]; rfl
      have HF := hide (first_byte s h0)
      have HE : Hid (s.data.toList = 45 :: (s.extract 1 s.size).data.toList) := hide (by rw [HF.out, h45])
      obtain ⟨Z, hZ⟩ : ∃ Z, stripZ (s.extract 1 s.size).data.toList = Z := ⟨_, rfl⟩
      have HZ0 := hide hZ
      have HTT : Hid (T = if Z = [48] then [48] else 45 :: Z) := hide (by rw [← HT.out, HE.out, plainS_neg, hZ])
      have hx0 : (s.extract 1 s.size).size ≤ 1000000 := by rw [ByteArray.size_extract]; omega
      clear h45 hZ
      go_enter Tryz.func63, Tryz.ntmps63
      go_wp2_with fail
      go_quiet (fail)
      have HBQ : Hid (Below w.heap.size w (w.drewN nq)) := hide ⟨rfl, rfl, rfl, Nat.le_refl _, fun _ _ => rfl⟩
      go_wp2_with fail
      go_loopw [0] (fun v wr => ∃ q : ByteArray, v = .string q ∧ q.size ≤ 1000000 ∧ Hid (stripZ q.data.toList = Z) ∧ Hid (Below w.heap.size w wr)) (fun v _ => szOf v)
      case atStart => exact ⟨_, rfl, hx0, HZ0, HBQ⟩
      case round =>
        obtain ⟨q, rfl, hqz, HZ, HW⟩ := hrel
        have HLQ := hide (len_size q)
        by_cases c1 : 1 < q.size
        · have t1 : decide ((q.size : Int) > 1) = true := by simp; omega
          have t1' : (1 : Int) < (q.size : Int) := by omega
          have t0 : (0 : Int) < (q.size : Int) := by omega
          have t2 : (1 : Int) ≤ (q.size : Int) := by omega
          have t3 : 0 < q.size := by omega
          have HGO : Hid (q[0] = 48 ∨ q[0] = 32 → stripZ (q.extract 1 q.size).data.toList = Z) := hide (fun h => by
            rw [← HZ.out, first_byte q t3, stripZ_go (by intro e; have := congrArg List.length e; rw [len_size, ByteArray.size_extract] at this; simp at this; omega) h])
          have HST : Hid (¬ (q[0] = 48 ∨ q[0] = 32) → q = mkB Z) := hide (fun h => by
            rw [← HZ.out, first_byte q t3, stripZ_stop h, ← first_byte q t3, mkB_list])
          have hx : (q.extract 1 q.size).size ≤ 1000000 := by rw [ByteArray.size_extract]; omega
          have hxm : (q.extract 1 q.size).size < q.size := by rw [ByteArray.size_extract]; omega
          by_cases c2 : q[0] = 48
          · have hn := hide (HGO.out (.inl c2))
            have d2 : ((q[0].toNat : Int) == 48) = true := by rw [c2]; rfl
            clear c2 HST HGO
            go_wp2_with fail
            go_roundw
            case rel => exact ⟨_, rfl, hx, hn, HW⟩
            case measure => exact hxm
          · have d2 : ((q[0].toNat : Int) == 48) = false := u8_ne' c2
            by_cases c3 : q[0] = 32
            · have hn := hide (HGO.out (.inr c3))
              have d3 : ((q[0].toNat : Int) == 32) = true := by rw [c3]; rfl
              clear c2 c3 HST HGO
              go_wp2_with fail
              go_roundw
              case rel => exact ⟨_, rfl, hx, hn, HW⟩
              case measure => exact hxm
            · have d3 : ((q[0].toNat : Int) == 32) = false := u8_ne' c3
              have hq := HST.out (by rintro (e | e); exact c2 e; exact c3 e)
              have HQ := hide hq
              clear hq c2 c3 HST HGO
              by_cases c9 : q = ⟨#[48]⟩
              · have HC : Hid (Z = [48]) := hide (by have := HQ.out; rw [c9] at this; have h2 := congrArg (fun b : ByteArray => b.data.toList) this; rw [mkB_data] at h2; exact h2.symm)
                have d9 : (q.toList == [48]) = true := by rw [Lib.toList_data, c9]; rfl
                clear c9
                go_wp2_with fail
                go_ret
                exact ⟨by rw [HTT.out, if_pos HC.out]; show Ending.returned (.string ((⟨#[]⟩ : ByteArray) ++ q)) = _; rw [HQ.out, HC.out, nil_mkB], HW.out⟩
              · have HC : Hid (Z ≠ [48]) := hide (fun e => c9 (by rw [HQ.out, e]; rfl))
                have d9 : (q.toList == [48]) = false := by rw [Lib.toList_data]; rw [beq_eq_false_iff_ne]; intro e; exact c9 (by rw [← mkB_list q, e]; rfl)
                clear c9
                go_wp2_with fail
                go_ret
                exact ⟨by rw [HTT.out, if_neg HC.out]; show Ending.returned (.string ((⟨#[45]⟩ : ByteArray) ++ q)) = _; rw [HQ.out]; rfl, HW.out⟩
        · have t1 : decide ((q.size : Int) > 1) = false := by simp; omega
          have t1' : ¬ (1 : Int) < (q.size : Int) := by omega
          have HQ : Hid (q = mkB Z) := hide (by rw [← HZ.out, stripZ_stay (by rw [len_size]; omega), mkB_list])
          by_cases c9 : q = ⟨#[48]⟩
          · have HC : Hid (Z = [48]) := hide (by have := HQ.out; rw [c9] at this; have h2 := congrArg (fun b : ByteArray => b.data.toList) this; rw [mkB_data] at h2; exact h2.symm)
            have d9 : (q.toList == [48]) = true := by rw [Lib.toList_data, c9]; rfl
            clear c9
            go_wp2_with fail
            go_ret
            exact ⟨by rw [HTT.out, if_pos HC.out]; show Ending.returned (.string ((⟨#[]⟩ : ByteArray) ++ q)) = _; rw [HQ.out, HC.out, nil_mkB], HW.out⟩
          · have HC : Hid (Z ≠ [48]) := hide (fun e => c9 (by rw [HQ.out, e]; rfl))
            have d9 : (q.toList == [48]) = false := by rw [Lib.toList_data]; rw [beq_eq_false_iff_ne]; intro e; exact c9 (by rw [← mkB_list q, e]; rfl)
            clear c9
            go_wp2_with fail
            go_ret
            exact ⟨by rw [HTT.out, if_neg HC.out]; show Ending.returned (.string ((⟨#[45]⟩ : ByteArray) ++ q)) = _; rw [HQ.out]; rfl, HW.out⟩
    · have d1 : ((s[0].toNat : Int) == 45) = false := u8_ne' h45
      have HTT : Hid (T = stripZ s.data.toList) := hide (by rw [← HT.out, first_byte s h0, plainS_pos (fun r e => h45 (List.cons.inj e).1)])
      obtain ⟨Z, hZ⟩ : ∃ Z, stripZ s.data.toList = Z := ⟨_, rfl⟩
      have HZ0 := hide hZ
      rw [hZ] at HTT
      clear h45 hZ
      go_enter Tryz.func63, Tryz.ntmps63
      go_wp2_with fail
      go_loopw [0] (fun v wr => ∃ q : ByteArray, v = .string q ∧ q.size ≤ 1000000 ∧ Hid (stripZ q.data.toList = Z) ∧ Hid (Below w.heap.size w wr)) (fun v _ => szOf v)
      case atStart => exact ⟨_, rfl, hs, HZ0, hide (Below.refl _ _)⟩
      case round =>
        obtain ⟨q, rfl, hqz, HZ, HW⟩ := hrel
        have HLQ := hide (len_size q)
        by_cases c1 : 1 < q.size
        · have t1 : decide ((q.size : Int) > 1) = true := by simp; omega
          have t1' : (1 : Int) < (q.size : Int) := by omega
          have t0 : (0 : Int) < (q.size : Int) := by omega
          have t2 : (1 : Int) ≤ (q.size : Int) := by omega
          have t3 : 0 < q.size := by omega
          have HGO : Hid (q[0] = 48 ∨ q[0] = 32 → stripZ (q.extract 1 q.size).data.toList = Z) := hide (fun h => by
            rw [← HZ.out, first_byte q t3, stripZ_go (by intro e; have := congrArg List.length e; rw [len_size, ByteArray.size_extract] at this; simp at this; omega) h])
          have HST : Hid (¬ (q[0] = 48 ∨ q[0] = 32) → q = mkB Z) := hide (fun h => by
            rw [← HZ.out, first_byte q t3, stripZ_stop h, ← first_byte q t3, mkB_list])
          have hx : (q.extract 1 q.size).size ≤ 1000000 := by rw [ByteArray.size_extract]; omega
          have hxm : (q.extract 1 q.size).size < q.size := by rw [ByteArray.size_extract]; omega
          by_cases c2 : q[0] = 48
          · have hn := hide (HGO.out (.inl c2))
            have d2 : ((q[0].toNat : Int) == 48) = true := by rw [c2]; rfl
            clear c2 HST HGO
            go_wp2_with fail
            go_roundw
            case rel => exact ⟨_, rfl, hx, hn, HW⟩
            case measure => exact hxm
          · have d2 : ((q[0].toNat : Int) == 48) = false := u8_ne' c2
            by_cases c3 : q[0] = 32
            · have hn := hide (HGO.out (.inr c3))
              have d3 : ((q[0].toNat : Int) == 32) = true := by rw [c3]; rfl
              clear c2 c3 HST HGO
              go_wp2_with fail
              go_roundw
              case rel => exact ⟨_, rfl, hx, hn, HW⟩
              case measure => exact hxm
            · have d3 : ((q[0].toNat : Int) == 32) = false := u8_ne' c3
              have hq := HST.out (by rintro (e | e); exact c2 e; exact c3 e)
              have HQ := hide hq
              clear hq c2 c3 HST HGO
              by_cases c9 : q = ⟨#[48]⟩
              · have HC : Hid (Z = [48]) := hide (by have := HQ.out; rw [c9] at this; have h2 := congrArg (fun b : ByteArray => b.data.toList) this; rw [mkB_data] at h2; exact h2.symm)
                have d9 : (q.toList == [48]) = true := by rw [Lib.toList_data, c9]; rfl
                clear c9
                go_wp2_with fail
                go_ret
                exact ⟨by rw [HTT.out]; show Ending.returned (.string ((⟨#[]⟩ : ByteArray) ++ q)) = _; rw [HQ.out, HC.out, nil_mkB], HW.out⟩
              · have HC : Hid (Z ≠ [48]) := hide (fun e => c9 (by rw [HQ.out, e]; rfl))
                have d9 : (q.toList == [48]) = false := by rw [Lib.toList_data]; rw [beq_eq_false_iff_ne]; intro e; exact c9 (by rw [← mkB_list q, e]; rfl)
                clear c9
                go_wp2_with fail
                go_ret
                exact ⟨by rw [HTT.out]; show Ending.returned (.string ((⟨#[]⟩ : ByteArray) ++ q)) = _; rw [HQ.out, nil_mkB], HW.out⟩
        · have t1 : decide ((q.size : Int) > 1) = false := by simp; omega
          have t1' : ¬ (1 : Int) < (q.size : Int) := by omega
          have HQ : Hid (q = mkB Z) := hide (by rw [← HZ.out, stripZ_stay (by rw [len_size]; omega), mkB_list])
          by_cases c9 : q = ⟨#[48]⟩
          · have HC : Hid (Z = [48]) := hide (by have := HQ.out; rw [c9] at this; have h2 := congrArg (fun b : ByteArray => b.data.toList) this; rw [mkB_data] at h2; exact h2.symm)
            have d9 : (q.toList == [48]) = true := by rw [Lib.toList_data, c9]; rfl
            clear c9
            go_wp2_with fail
            go_ret
            exact ⟨by rw [HTT.out]; show Ending.returned (.string ((⟨#[]⟩ : ByteArray) ++ q)) = _; rw [HQ.out, HC.out, nil_mkB], HW.out⟩
          · have HC : Hid (Z ≠ [48]) := hide (fun e => c9 (by rw [HQ.out, e]; rfl))
            have d9 : (q.toList == [48]) = false := by rw [Lib.toList_data]; rw [beq_eq_false_iff_ne]; intro e; exact c9 (by rw [← mkB_list q, e]; rfl)
            clear c9
            go_wp2_with fail
            go_ret
            exact ⟨by rw [HTT.out]; show Ending.returned (.string ((⟨#[]⟩ : ByteArray) ++ q)) = _; rw [HQ.out, nil_mkB], HW.out⟩
  · have g0 : ¬ (0 : Int) < (s.size : Int) := by omega
    have HTT : Hid (T = stripZ s.data.toList) := hide (by
      have : s.data.toList = [] := List.eq_nil_of_length_eq_zero (by rw [len_size]; omega)
      rw [← HT.out, this]; rfl)
    obtain ⟨Z, hZ⟩ : ∃ Z, stripZ s.data.toList = Z := ⟨_, rfl⟩
    have HZ0 := hide hZ
    rw [hZ] at HTT
    clear hZ
    go_enter Tryz.func63, Tryz.ntmps63
    go_wp2_with fail
    go_loopw [0] (fun v wr => ∃ q : ByteArray, v = .string q ∧ q.size ≤ 1000000 ∧ Hid (stripZ q.data.toList = Z) ∧ Hid (Below w.heap.size w wr)) (fun v _ => szOf v)
    case atStart => exact ⟨_, rfl, hs, HZ0, hide (Below.refl _ _)⟩
    case round =>
      obtain ⟨q, rfl, hqz, HZ, HW⟩ := hrel
      have HLQ := hide (len_size q)
      by_cases c1 : 1 < q.size
      · have t1 : decide ((q.size : Int) > 1) = true := by simp; omega
        have t1' : (1 : Int) < (q.size : Int) := by omega
        have t0 : (0 : Int) < (q.size : Int) := by omega
        have t2 : (1 : Int) ≤ (q.size : Int) := by omega
        have t3 : 0 < q.size := by omega
        have HGO : Hid (q[0] = 48 ∨ q[0] = 32 → stripZ (q.extract 1 q.size).data.toList = Z) := hide (fun h => by
          rw [← HZ.out, first_byte q t3, stripZ_go (by intro e; have := congrArg List.length e; rw [len_size, ByteArray.size_extract] at this; simp at this; omega) h])
        have HST : Hid (¬ (q[0] = 48 ∨ q[0] = 32) → q = mkB Z) := hide (fun h => by
          rw [← HZ.out, first_byte q t3, stripZ_stop h, ← first_byte q t3, mkB_list])
        have hx : (q.extract 1 q.size).size ≤ 1000000 := by rw [ByteArray.size_extract]; omega
        have hxm : (q.extract 1 q.size).size < q.size := by rw [ByteArray.size_extract]; omega
        by_cases c2 : q[0] = 48
        · have hn := hide (HGO.out (.inl c2))
          have d2 : ((q[0].toNat : Int) == 48) = true := by rw [c2]; rfl
          clear c2 HST HGO
          go_wp2_with fail
          go_roundw
          case rel => exact ⟨_, rfl, hx, hn, HW⟩
          case measure => exact hxm
        · have d2 : ((q[0].toNat : Int) == 48) = false := u8_ne' c2
          by_cases c3 : q[0] = 32
          · have hn := hide (HGO.out (.inr c3))
            have d3 : ((q[0].toNat : Int) == 32) = true := by rw [c3]; rfl
            clear c2 c3 HST HGO
            go_wp2_with fail
            go_roundw
            case rel => exact ⟨_, rfl, hx, hn, HW⟩
            case measure => exact hxm
          · have d3 : ((q[0].toNat : Int) == 32) = false := u8_ne' c3
            have hq := HST.out (by rintro (e | e); exact c2 e; exact c3 e)
            have HQ := hide hq
            clear hq c2 c3 HST HGO
            by_cases c9 : q = ⟨#[48]⟩
            · have HC : Hid (Z = [48]) := hide (by have := HQ.out; rw [c9] at this; have h2 := congrArg (fun b : ByteArray => b.data.toList) this; rw [mkB_data] at h2; exact h2.symm)
              have d9 : (q.toList == [48]) = true := by rw [Lib.toList_data, c9]; rfl
              clear c9
              go_wp2_with fail
              go_ret
              exact ⟨by rw [HTT.out]; show Ending.returned (.string ((⟨#[]⟩ : ByteArray) ++ q)) = _; rw [HQ.out, HC.out, nil_mkB], HW.out⟩
            · have HC : Hid (Z ≠ [48]) := hide (fun e => c9 (by rw [HQ.out, e]; rfl))
              have d9 : (q.toList == [48]) = false := by rw [Lib.toList_data]; rw [beq_eq_false_iff_ne]; intro e; exact c9 (by rw [← mkB_list q, e]; rfl)
              clear c9
              go_wp2_with fail
              go_ret
              exact ⟨by rw [HTT.out]; show Ending.returned (.string ((⟨#[]⟩ : ByteArray) ++ q)) = _; rw [HQ.out, nil_mkB], HW.out⟩
      · have t1 : decide ((q.size : Int) > 1) = false := by simp; omega
        have t1' : ¬ (1 : Int) < (q.size : Int) := by omega
        have HQ : Hid (q = mkB Z) := hide (by rw [← HZ.out, stripZ_stay (by rw [len_size]; omega), mkB_list])
        by_cases c9 : q = ⟨#[48]⟩
        · have HC : Hid (Z = [48]) := hide (by have := HQ.out; rw [c9] at this; have h2 := congrArg (fun b : ByteArray => b.data.toList) this; rw [mkB_data] at h2; exact h2.symm)
          have d9 : (q.toList == [48]) = true := by rw [Lib.toList_data, c9]; rfl
          clear c9
          go_wp2_with fail
          go_ret
          exact ⟨by rw [HTT.out]; show Ending.returned (.string ((⟨#[]⟩ : ByteArray) ++ q)) = _; rw [HQ.out, HC.out, nil_mkB], HW.out⟩
        · have HC : Hid (Z ≠ [48]) := hide (fun e => c9 (by rw [HQ.out, e]; rfl))
          have d9 : (q.toList == [48]) = false := by rw [Lib.toList_data]; rw [beq_eq_false_iff_ne]; intro e; exact c9 (by rw [← mkB_list q, e]; rfl)
          clear c9
          go_wp2_with fail
          go_ret
          exact ⟨by rw [HTT.out]; show Ending.returned (.string ((⟨#[]⟩ : ByteArray) ++ q)) = _; rw [HQ.out, nil_mkB], HW.out⟩
--PL
/-! oneOf -/
theorem cpl_next {a b : List UInt8} {n : Nat} (ha : n < a.length) (hb : n < b.length) (h : n ≤ cpl a b) : (a[n] = b[n] → n + 1 ≤ cpl a b) ∧ (a[n] ≠ b[n] → cpl a b = n) := by
  have h0 := (cpl_take n a b (by omega)).2 h
  have h1 := cpl_take (n + 1) a b (by omega)
  have e1 : a.take (n + 1) = a.take n ++ [a[n]] := List.take_succ_eq_append_getElem ha
  have e2 : b.take (n + 1) = b.take n ++ [b[n]] := List.take_succ_eq_append_getElem hb
  rw [e1, e2, h0] at h1
  refine ⟨fun e => h1.1 (by rw [e]), fun e => ?_⟩
  have : ¬ n + 1 ≤ cpl a b := fun hh => e (List.cons.inj (List.append_cancel_left (h1.2 hh))).1
  omega
theorem flat3_at : ∀ (names : List (List UInt8)) (hn : ∀ s ∈ names, s.length = 3) (k n : Nat) (hk : k < names.length) (hn3 : n < 3), names.flatten[3 * k + n]? = (names[k])[n]?
  | [], _, k, n, hk, _ => by simp at hk
  | s :: r, hn, 0, n, hk, hn3 => by
    have := hn s List.mem_cons_self
    simp only [List.flatten_cons, List.getElem_cons_zero]
    rw [List.getElem?_append_left (by omega)]; simp
  | s :: r, hn, k + 1, n, hk, hn3 => by
    have := hn s List.mem_cons_self
    have ih := flat3_at r (fun x hx => hn x (List.mem_cons_of_mem _ hx)) k n (by simpa using hk) hn3
    simp only [List.flatten_cons, List.getElem_cons_succ]
    rw [List.getElem?_append_right (by omega), show 3 * (k + 1) + n - s.length = 3 * k + n by omega, ih]
theorem flat3_len : ∀ (names : List (List UInt8)) (hn : ∀ s ∈ names, s.length = 3), names.flatten.length = 3 * names.length
  | [], _ => rfl
  | s :: r, hn => by
    have := hn s List.mem_cons_self
    have ih := flat3_len r (fun x hx => hn x (List.mem_cons_of_mem _ hx))
    rw [List.flatten_cons, List.length_append, List.length_cons]; omega
theorem bestN_snoc (names : List (List UInt8)) (s u : List UInt8) : bestN (names ++ [s]) u = max (bestN names u) (cpl s u) := by
  unfold bestN; rw [List.foldl_append]; rfl
theorem oneV_hit {names : List (List UInt8)} (h3 : ∀ s ∈ names, s.length = 3) {u : List UInt8} {k : Nat} (hk : k < names.length) (hb : bestN (names.take k) u < 3) (hc : cpl names[k] u = 3) : oneV names u = (3, k + 1) := by
  have g := foldl_max_ge (fun s => cpl s u) names 0
  have g' := foldl_max_ge (fun s => cpl s u) (names.take k) 0
  have h1 : 3 ≤ bestN names u := by have := g.2.1 _ (List.getElem_mem hk); unfold bestN; omega
  have h2 := bestN_le h3 u
  have hu : ∀ s ∈ names, ((s.take 3 == u.take 3) = true ↔ 3 ≤ cpl s u) := fun s hs => by rw [beq_iff_eq]; exact cpl_take 3 s u (by rw [h3 s hs]; omega)
  unfold oneV
  rw [if_pos (by omega)]
  congr 2
  refine (List.findIdx_eq hk).2 ⟨(hu _ (List.getElem_mem hk)).2 (by omega), fun j hj => ?_⟩
  rw [Bool.eq_false_iff]
  intro e
  have h4 := (hu _ (List.getElem_mem _)).1 e
  have h5 := g'.2.1 (names[j]) (by rw [List.mem_take_iff_getElem]; exact ⟨j, by omega, rfl⟩)
  unfold bestN at hb
  omega
set_option maxHeartbeats 8000000 in
set_option maxRecDepth 100000 in
theorem oneOf_any (u nm : ByteArray) (names : List (List UInt8)) (hn : ∀ s ∈ names, s.length = 3) (hl : names.length ≤ 12) (he : nm.data.toList = names.flatten) (hu : u.size ≤ 1000000) (w : World) :
    Calls Tryz.prog 55 #[.string u, .string nm] w fun e w' => e = .returned (.tuple #[.int .i64 ((oneV names u.data.toList).1 : Int), .int .i64 ((oneV names u.data.toList).2 : Int)]) ∧ Below w.heap.size w w' := by
  have HLU := hide (len_size u)
  have hz : nm.size = 3 * names.length := by rw [← len_size nm, he]; exact flat3_len names hn
  have HIX : Hid (∀ (k n : Nat) (hk : k < names.length) (hn3 : n < 3) (hi : 3 * k + n < nm.size), nm[3 * k + n] = (names[k]).getD n 0) := hide (fun k n hk hn3 hi => by
    have h1 := flat3_at names hn k n hk hn3
    rw [← he] at h1
    have h2 : nm.data.toList[3 * k + n]? = some nm[3 * k + n] := by
      rw [List.getElem?_eq_getElem (by rw [len_size]; exact hi)]; rfl
    rw [h2] at h1
    rw [List.getD_eq_getElem?_getD, ← h1]; rfl)
  have HN := hide hn
  have HZ := hide hz
  clear hn he hz
  go_enter Tryz.func55, Tryz.ntmps55
  go_wp2_with fail
  go_loopw [6, 7] (fun best i wr => ∃ (k B : Nat), k ≤ names.length ∧ i = .int .i64 (k : Int) ∧ best = .int .i64 (B : Int) ∧ B < 3 ∧ Hid (bestN (names.take k) u.data.toList = B) ∧ Hid (Below w.heap.size w wr)) (fun _ i _ => names.length - (intOf i).toNat)
  case atStart => exact ⟨0, 0, by omega, rfl, rfl, by omega, hide rfl, hide (Below.refl _ _)⟩
  case round =>
    obtain ⟨k, B, hk, rfl, rfl, hB, HB, HW⟩ := hrel
    by_cases hlt : k < names.length
    · have hq : 3 * (k : Int) < (nm.size : Int) := by have := HZ.out; omega
      have h3 : (names[k]).length = 3 := HN.out _ (List.getElem_mem hlt)
      have HX := hide (HIX.out k)
      have HIT := hide (oneV_hit (u := u.data.toList) HN.out hlt (by rw [HB.out]; exact hB))
      have HSN : Hid (bestN (names.take (k + 1)) u.data.toList = max B (cpl names[k] u.data.toList)) := hide (by rw [List.take_succ_eq_append_getElem hlt, bestN_snoc, HB.out])
      have HCN := hide (fun n => cpl_next (a := names[k]) (b := u.data.toList) (n := n))
      have HCL := hide (cpl_le names[k] u.data.toList)
      obtain ⟨q, hq0⟩ : ∃ q, names[k] = q := ⟨_, rfl⟩
      obtain ⟨C, hC⟩ : ∃ C, cpl q u.data.toList = C := ⟨_, rfl⟩
      rw [hq0] at HIT HSN HCN HCL h3
      rw [hC] at HIT HSN HCL
      rw [h3] at HCL
      simp only [hC] at HCN
      have HQ := hide hq0
      have HH3 := hide h3
      clear hq0 hC h3
      go_wp2_with fail
      go_loopw [8] (fun j wq => ∃ n : Nat, n ≤ 3 ∧ n ≤ u.size ∧ n ≤ C ∧ j = .int .i64 (n : Int) ∧ Hid (Below w.heap.size w wq)) (fun j _ => 3 - (intOf j).toNat)
      case atStart => exact ⟨0, by omega, by omega, by omega, rfl, HW⟩
      case round =>
        obtain ⟨n, hn3, hnu, hnC, rfl, HWQ⟩ := hrel
        by_cases c1 : n < 3
        · have t1 : decide ((n : Int) < 3) = true := by simp; omega
          have t1' : (n : Int) < 3 := by omega
          by_cases c2 : n < u.size
          · have t2 : decide ((n : Int) < (u.size : Int)) = true := by simp; omega
            have t2' : (n : Int) < (u.size : Int) := by omega
            have t3 : (0 : Int) ≤ (n : Int) := by omega
            have hixn : n < q.length := by have := HH3.out; omega
            have hun : n < u.data.toList.length := by have := HLU.out; omega
            have hk3 : 3 * k + n < nm.size := by have := HZ.out; omega
            have HBY0 : Hid (nm[3 * k + n] = q[n]) := hide (by rw [HX.out n hlt c1 hk3, HQ.out, List.getD_eq_getElem?_getD, List.getElem?_eq_getElem hixn]; rfl)
            have HUB : Hid (u[n] = u.data.toList[n]) := hide (by rw [← getD_at c2, List.getD_eq_getElem?_getD, List.getElem?_eq_getElem hun]; rfl)
            have u1 : IntKind.i64.wrap (3 * (k : Int)) = 3 * (k : Int) := IntWalk.i64_in _ (by omega)
            obtain ⟨p, hp⟩ : ∃ p, p = 3 * k + n := ⟨_, rfl⟩
            have u2 : IntKind.i64.wrap (3 * (k : Int) + (n : Int)) = (p : Int) := by rw [show 3 * (k : Int) + (n : Int) = (p : Int) by omega]; exact IntWalk.i64_in _ (by omega)
            have hp1 : p < nm.size := by rw [hp]; exact hk3
            have HBY : Hid (nm[p] = q[n]) := hide (by rw [← HBY0.out]; congr 1)
            have t4 : (0 : Int) ≤ (p : Int) := by omega
            have t5 : (p : Int) < (nm.size : Int) := by omega
            clear hp hk3 HBY0
            have hcn := HCN.out n hixn hun hnC
            by_cases c3 : u[n] = nm[p]
            · have d3 : ((u[n].toNat : Int) == (nm[p].toNat : Int)) = true := by rw [c3]; simp
              have hn2 : n + 1 ≤ C := hcn.1 (by rw [← HBY.out, ← c3, HUB.out])
              clear hcn c3
              go_wp2_with fail
              go_quiet (fail)
              have HWQ2 : Hid (Below w.heap.size w (wr.drewN nq)) := hide ⟨HWQ.out.os, HWQ.out.tape, HWQ.out.output, HWQ.out.size, HWQ.out.block⟩
              go_wp2_with fail
              go_roundw
              case rel => exact ⟨n + 1, by omega, by omega, hn2, by go_num, HWQ2⟩
              case measure => simp [intOf]; omega
            · have d3 : ((u[n].toNat : Int) == (nm[p].toNat : Int)) = false := by
                have : u[n].toNat ≠ nm[p].toNat := fun e => c3 (UInt8.toNat_inj.1 e)
                simp; omega
              have hce := hcn.2 (fun e => c3 (by rw [HUB.out, HBY.out, e]))
              clear hcn
              have HCE : Hid (C = n) := hide (hce)
              obtain rfl : C = n := HCE.out
              have HBN : Hid (bestN (names.take (k + 1)) u.data.toList = max B C) := HSN
              have e9 : ((C : Int) == 3) = false := by simp; omega
              go_wp2_with fail
              go_quiet (fail)
              have HWQ2 : Hid (Below w.heap.size w (wr.drewN nq)) := hide ⟨HWQ.out.os, HWQ.out.tape, HWQ.out.output, HWQ.out.size, HWQ.out.block⟩
              go_wp2_with fail
              go_roundw
              case rel => exact ⟨k + 1, max B C, by omega, by go_num, by go_num, by omega, HBN, HWQ2⟩
              case measure => simp [intOf]; omega
          · have t2 : decide ((n : Int) < (u.size : Int)) = false := by simp; omega
            have t2' : ¬ (n : Int) < (u.size : Int) := by omega
            have hce : C = n := by have h1 := HCL.out.2; have h2 := HLU.out; omega
            have HCE : Hid (C = n) := hide (hce)
            obtain rfl : C = n := HCE.out
            have HBN : Hid (bestN (names.take (k + 1)) u.data.toList = max B C) := HSN
            have e9 : ((C : Int) == 3) = false := by simp; omega
            go_wp2_with fail
            go_quiet (fail)
            have HWQ2 : Hid (Below w.heap.size w (wr.drewN nq)) := hide ⟨HWQ.out.os, HWQ.out.tape, HWQ.out.output, HWQ.out.size, HWQ.out.block⟩
            go_wp2_with fail
            go_roundw
            case rel => exact ⟨k + 1, max B C, by omega, by go_num, by go_num, by omega, HBN, HWQ2⟩
            case measure => simp [intOf]; omega
        · have t1 : decide ((n : Int) < 3) = false := by simp; omega
          have t1' : ¬ (n : Int) < 3 := by omega
          have hce : C = 3 := by have h1 := HCL.out.1; omega
          obtain rfl : n = 3 := by omega
          have HV := hide (HIT.out hce)
          go_wp2_with fail
          go_quiet (fail)
          have HWQ2 : Hid (Below w.heap.size w (wr.drewN nq)) := hide ⟨HWQ.out.os, HWQ.out.tape, HWQ.out.output, HWQ.out.size, HWQ.out.block⟩
          go_wp2_with fail
          go_ret2
          exact ⟨by rw [HV.out]; rfl, HWQ2.out⟩
    · obtain rfl : k = names.length := by omega
      have hq : ¬ 3 * (names.length : Int) < (nm.size : Int) := by have := HZ.out; omega
      have HV : Hid (oneV names u.data.toList = (B, 0)) := hide (by
        have h := HB.out
        rw [List.take_length] at h
        unfold oneV
        rw [h, if_neg (by omega)])
      go_wp2_with fail
      go_ret2
      exact ⟨by rw [HV.out]; rfl, HW.out⟩
end Go.Proofs.YtifpmigghplmoaaGreatDoor

/- DReadV -/
set_option linter.unusedVariables false
set_option linter.unusedSimpArgs false
namespace Go.Pw
open Go.RowKit
/-- the fields of a date that has been read -/
structure FV where
  y : Int
  m : Int
  d : Int
  h : Int
  mi : Int
  s : Int
  t : Int
  timed : Bool
def fvOf (L : List It) : FV := ⟨lastOf L 89 1970, lastOf L 109 1, lastOf L 100 1, lastOf L 72 0, lastOf L 77 0, lastOf L 83 0, lastOf L 115 0, timedL L⟩
def FRow (tF b : Nat) (F : FV) (pv : Value) (w : World) : Prop := w.heap[b]? = some (.cells #[.int .i64 F.y, .int .i64 F.m, .int .i64 F.d, .int .i64 F.h, .int .i64 F.mi, .int .i64 F.s, .int .i64 F.t, .bool F.timed, pv] tF (0, 0))
section
variable {tF b : Nat} {F : FV} {pv : Value} {w w' : World}
theorem FRow.lt (h : FRow tF b F pv w) : b < w.heap.size := (Array.getElem?_eq_some_iff.1 h).1
theorem FRow.cells (h : FRow tF b F pv w) : (w.cell? ⟨b, 0, none⟩ = some (.int .i64 F.y) ∧ w.cell? ⟨b, 1, none⟩ = some (.int .i64 F.m) ∧ w.cell? ⟨b, 2, none⟩ = some (.int .i64 F.d)) ∧ (w.cell? ⟨b, 3, none⟩ = some (.int .i64 F.h) ∧ w.cell? ⟨b, 4, none⟩ = some (.int .i64 F.mi) ∧ w.cell? ⟨b, 5, none⟩ = some (.int .i64 F.s)) ∧ w.cell? ⟨b, 6, none⟩ = some (.int .i64 F.t) ∧ w.cell? ⟨b, 7, none⟩ = some (.bool F.timed) ∧ w.cell? ⟨b, 8, none⟩ = some pv := by
  unfold FRow at h
  refine ⟨⟨?_, ?_, ?_⟩, ⟨?_, ?_, ?_⟩, ?_, ?_, ?_⟩ <;> rw [cell_of_row _ _ _ _ _ _ h] <;> rfl
theorem FRow.frozen (h : FRow tF b F pv w) (j : Nat) : w.frozen? ⟨b, j, none⟩ = false := Lib.frozen_of_heap h j
theorem FRow.setPv (h : FRow tF b F pv w) (x : Value) : FRow tF b F x (w.setCell ⟨b, 8, none⟩ x) := by
  unfold FRow at h ⊢
  simp [World.setCell, Array.getElem?_modify, h]
theorem FRow.set0 (h : FRow tF b F pv w) (x : Int) : FRow tF b {F with y := x} pv (w.setCell ⟨b, 0, none⟩ (.int .i64 x)) := by
  unfold FRow at h ⊢
  simp [World.setCell, Array.getElem?_modify, h]
theorem FRow.set1 (h : FRow tF b F pv w) (x : Int) : FRow tF b {F with m := x} pv (w.setCell ⟨b, 1, none⟩ (.int .i64 x)) := by
  unfold FRow at h ⊢
  simp [World.setCell, Array.getElem?_modify, h]
theorem FRow.set2 (h : FRow tF b F pv w) (x : Int) : FRow tF b {F with d := x} pv (w.setCell ⟨b, 2, none⟩ (.int .i64 x)) := by
  unfold FRow at h ⊢
  simp [World.setCell, Array.getElem?_modify, h]
theorem FRow.set3 (h : FRow tF b F pv w) (x : Int) : FRow tF b {F with h := x} pv (w.setCell ⟨b, 3, none⟩ (.int .i64 x)) := by
  unfold FRow at h ⊢
  simp [World.setCell, Array.getElem?_modify, h]
theorem FRow.set4 (h : FRow tF b F pv w) (x : Int) : FRow tF b {F with mi := x} pv (w.setCell ⟨b, 4, none⟩ (.int .i64 x)) := by
  unfold FRow at h ⊢
  simp [World.setCell, Array.getElem?_modify, h]
theorem FRow.set5 (h : FRow tF b F pv w) (x : Int) : FRow tF b {F with s := x} pv (w.setCell ⟨b, 5, none⟩ (.int .i64 x)) := by
  unfold FRow at h ⊢
  simp [World.setCell, Array.getElem?_modify, h]
theorem FRow.setT (h : FRow tF b F pv w) (x : Int) : FRow tF b {F with t := x, timed := true} pv ((w.setCell ⟨b, 6, none⟩ (.int .i64 x)).setCell ⟨b, 7, none⟩ (.bool true)) := by
  unfold FRow at h ⊢
  simp [World.setCell, Array.getElem?_modify, h]
theorem FRow.keep (h : FRow tF b F pv w) (hb : Below w.heap.size w w') : FRow tF b F pv w' := (hb.block b h.lt).trans h
end
def pCells (L : List It) : List Value := L.flatMap fun i => [.int .u8 (i.c.toNat : Int), .string (mkB i.p)]
theorem pCells_snoc (L : List It) (i : It) : pCells (L ++ [i]) = pCells L ++ [.int .u8 (i.c.toNat : Int), .string (mkB i.p)] := by
  unfold pCells; rw [List.flatMap_append]; rfl
theorem pCells_at : ∀ (L : List It) (k : Nat) (i : It), L[k]? = some i → (pCells L)[k * 2]? = some (.int .u8 (i.c.toNat : Int)) ∧ (pCells L)[k * 2 + 1]? = some (.string (mkB i.p))
  | [], k, p, h => by simp at h
  | q :: r, 0, p, h => by
    obtain rfl : q = p := by simpa using h
    exact ⟨rfl, rfl⟩
  | q :: r, k + 1, p, h => by
    have := pCells_at r k p (by simpa using h)
    rw [show (k + 1) * 2 = k * 2 + 2 by omega]
    exact this
/-- the fields and the parts: the fields may be ahead of the parts -/
def FStF (tF tP b : Nat) (F : FV) (L : List It) (w : World) : Prop :=
  ∃ pv, FRow tF b F pv w ∧ w.ownsRow (b + 1) tP 2 pv L.length (pCells L)
def FSt (tF tP b : Nat) (L : List It) (w : World) : Prop := FStF tF tP b (fvOf L) L w
theorem FStF.set {tF tP b j : Nat} {F F' : FV} {L : List It} {w : World} {u : Value} (h : FStF tF tP b F L w) (hs : ∀ pv, FRow tF b F pv w → FRow tF b F' pv (w.setCell ⟨b, j, none⟩ u)) : FStF tF tP b F' L (w.setCell ⟨b, j, none⟩ u) := by
  obtain ⟨pv, h1, h2⟩ := h
  exact ⟨pv, hs pv h1, own_only h2 (only_set w b j u)⟩
/-- the fields behind one more part -/
theorem fv_next (L : List It) (i : It) : fvOf (L ++ [i]) = ⟨if mapL i.c = 89 then i.n else lastOf L 89 1970, if mapL i.c = 109 then i.n else lastOf L 109 1, if mapL i.c = 100 then i.n else lastOf L 100 1, if mapL i.c = 72 then i.n else lastOf L 72 0, if mapL i.c = 77 then i.n else lastOf L 77 0, if mapL i.c = 83 then i.n else lastOf L 83 0, if mapL i.c = 115 then i.n else lastOf L 115 0, timedL L || i.c == 115⟩ := by
  unfold fvOf
  rw [lastOf_snoc, lastOf_snoc, lastOf_snoc, lastOf_snoc, lastOf_snoc, lastOf_snoc, lastOf_snoc, timedL_app]
  congr 1
  unfold timedL; simp
/-- the row, the parts (which may be ahead of the row) and the way from a world -/
structure PSt (tF tP b : Nat) (F : FV) (L : List It) (pr po : Value) (w0 w : World) : Prop where
  row : FRow tF b F pr w
  own : w.ownsRow (b + 1) tP 2 po L.length (pCells L)
  bel : Below b w0 w
theorem PSt.alloc {tF tP b : Nat} {F : FV} {L : List It} {pr po : Value} {w0 w : World} (h : PSt tF tP b F L pr po w0 w) (o : Obj) : PSt tF tP b F L pr po w0 (w.alloc o) :=
  ⟨(heap_alloc_old w o h.row.lt).trans h.row, h.own.alloc o, h.bel.alloc (Nat.le_of_lt h.row.lt) o⟩
theorem PSt.drew {tF tP b : Nat} {F : FV} {L : List It} {pr po : Value} {w0 w : World} (h : PSt tF tP b F L pr po w0 w) : PSt tF tP b F L pr po w0 w.drew :=
  ⟨h.row, h.own.drew, h.bel.drew⟩
theorem PSt.step {tF tP b : Nat} {F : FV} {L : List It} {pr po : Value} {w0 w w' : World} (h : PSt tF tP b F L pr po w0 w) (hb : Below w.heap.size w w') : PSt tF tP b F L pr po w0 w' :=
  ⟨h.row.keep hb, h.own.kept (row := none) ⟨hb.os, hb.tape, hb.output, hb.size, fun k hk _ => hb.block k hk⟩ (by cases hk : po.ownBlock <;> simp), h.bel.trans (hb.mono (Nat.le_of_lt h.row.lt))⟩
theorem PSt.facts {tF tP b : Nat} {F : FV} {L : List It} {pr po : Value} {w0 w : World} (h : PSt tF tP b F L pr po w0 w) : w.cell? ⟨b, 8, none⟩ = some pr ∧ w.frozen? ⟨b, 8, none⟩ = false :=
  ⟨h.row.cells.2.2.2.2, h.row.frozen 8⟩
theorem PSt.fin {tF tP b : Nat} {F : FV} {L : List It} {pr po : Value} {w0 w : World} (h : PSt tF tP b F L pr po w0 w) (hF : F = fvOf L) : FSt tF tP b L (w.setCell ⟨b, 8, none⟩ po) ∧ Below b w0 (w.setCell ⟨b, 8, none⟩ po) := by
  subst hF
  exact ⟨⟨po, h.row.setPv po, own_only h.own (only_set w b 8 po)⟩, h.bel.setCell (p := ⟨b, 8, none⟩) (Nat.le_refl _) _⟩
end Go.Pw
namespace Go.Pw
open Go.RowKit
theorem oneV_le {names : List (List UInt8)} (h3 : ∀ s ∈ names, s.length = 3) (u : List UInt8) : (oneV names u).1 ≤ 3 := by
  unfold oneV
  by_cases h : bestN names u = 3
  · rw [if_pos h]; exact Nat.le_refl _
  · rw [if_neg h]; exact bestN_le h3 u
theorem oneV_room {names : List (List UInt8)} (h3 : ∀ s ∈ names, s.length = 3) {T : List UInt8} {at_ : Nat} (h : (oneV names (T.drop at_)).2 ≠ 0) : at_ + 3 ≤ T.length := by
  unfold oneV at h
  by_cases hb : bestN names (T.drop at_) = 3
  · exact (mem_take3 h3 (T := T) (a := at_) (by rw [hasP_best h3 T at_ (by omega) (by omega), hb]; rfl)).2.2
  · rw [if_neg hb] at h; exact absurd rfl h
theorem rdTime_no {T : List UInt8} {at_ : Nat} (h : isDg (T.getD (at_ + signOf T at_) 0) = false) : rdTime T at_ = .inl (at_ + signOf T at_) := by
  unfold rdTime
  simp only [digCnt_stop 12 h, if_true]
theorem rdTime_yes {T : List UInt8} {at_ j : Nat} {v : Int} (hj : 0 < j) (hj2 : j ≤ 12) (h : digsN T (at_ + signOf T at_) j 0 = .inr v) (he : j = 12 ∨ isDg (T.getD (at_ + signOf T at_ + j) 0) = false) :
    rdTime T at_ = .inr (at_ + signOf T at_ + j, [⟨115, (if T.getD at_ 0 = 45 then -v else v), piece T at_ (at_ + signOf T at_ + j)⟩]) := by
  have hc : digCnt T (at_ + signOf T at_) 12 = j := by
    have := digCnt_add j (at_ + signOf T at_) (12 - j) 0 v h
    rw [show j + (12 - j) = 12 by omega] at this
    rw [this]
    rcases he with he | he
    · subst he; rfl
    · rw [digCnt_stop _ he]; rfl
  obtain ⟨h1, h2, h3, h4⟩ := digsN_val j _ 0 v h
  rw [Int.zero_mul, Int.zero_add] at h3
  unfold rdTime
  simp only [hc, if_neg (show ¬ j = 0 by omega), ← h3]
theorem extract_piece {T : ByteArray} {a b : Nat} (h : b ≤ T.size) : T.extract a b = mkB (piece T.data.toList a b) := by
  rw [← mkB_list (T.extract a b)]
  unfold piece
  rw [ByteArray.data_extract, Array.toList_extract, List.extract_eq_take_drop]
theorem dgV_l {T : List UInt8} {a m q : Nat} (h : digsN T a m 0 = .inl q) : dgV T a m = (0, (q : Int)) := by unfold dgV; rw [h]
theorem dgV_r {T : List UInt8} {a m : Nat} {v : Int} (h : digsN T a m 0 = .inr v) : dgV T a m = (v, -1) := by unfold dgV; rw [h]
theorem FSt.lt {tF tP b : Nat} {L : List It} {w : World} (h : FSt tF tP b L w) : b < w.heap.size := by
  obtain ⟨pv, h1, h2⟩ := h
  exact h1.lt
end Go.Pw
namespace Go.Proofs.YtifpmigghplmoaaGreatDoor
open Go.RowKit Go.Pw
theorem info_part : (Tryz.prog.info? 64).map (fun i => (i.zero, i.size, i.bytes)) = some (some (.agg #[.int .u8 0, .string ⟨#[]⟩]), 2, 24) := by kernel_rfl
theorem step_part {w0 V : World} {ops : Array Oper} {o : Oper} {a : Act} {K : Act → World → Prop} {Q : Exit → Act → World → Prop} {E : Prop} {tF b : Nat} {F : FV} {L : List It} {pr po : Value} (hgd : o.guard = none) (s x : Operand)
    (ho : o.op = .call { callee := .builtin .append, args := #[s, x], argTypes := #[52, 52] }) (hs : a.eval s = po) (i : It)
    (h : PSt tF 64 b F L pr po w0 V) (hx : ∃ Kb, a.eval x = .slice (some ⟨Kb, 0, none⟩) 1 1 ∧ V.cell? ⟨Kb, 0, none⟩ = some (.int .u8 (i.c.toNat : Int)) ∧ V.cell? ⟨Kb, 1, none⟩ = some (.string (mkB i.p))) (hlen : L.length ≤ 1000000)
    (H : ∀ g cap w', PSt tF 64 b F (L ++ [i]) pr (.slice (some ⟨g, 0, none⟩) (L.length + 1) cap) w0 w' → K (a.put o.dst (.slice (some ⟨g, 0, none⟩) (L.length + 1) cap)) w') :
    if Region.wanted o (yielded ops a.tmps) = true then Oper.wp Tryz.prog o a V K Q else E := by
  have hb := Nat.le_of_lt h.row.lt
  obtain ⟨ip, hip, hpz, hps, hpb⟩ := info_parts info_part
  obtain ⟨Kb, hx, hc0, hc1⟩ := hx
  refine step_append_lies _ hgd s x 52 ho (b + 1) 64 ip (.agg #[.int .u8 0, .string ⟨#[]⟩]) 2 24 Tryz.underlying52 hip hpz hps hpb rfl (by decide) po _ _ hs h.own ⟨Kb, 0, none⟩ 1 1 [.int .u8 (i.c.toNat : Int), .string (mkB i.p)] hx rfl ?_ (by intro u hu; simp at hu; rcases hu with rfl | rfl <;> rfl) (by omega) (by unfold maxLen; omega) (by omega) h.row.lt V.heap.size rfl ?_
  · intro j u hu
    match j, hu with
    | 0, hu =>
      obtain rfl := Option.some.inj hu
      exact hc0
    | 1, hu =>
      obtain rfl := Option.some.inj hu
      exact hc1
  · intro g cap w' hown hg hat hlt
    refine H g cap w' ⟨?_, ?_, ?_⟩
    · have hr := h.row
      unfold FRow at hr ⊢
      rw [hg.block b h.row.lt (fun e => by have := (h.own.lt b e.symm).1; omega)]
      exact hr
    · rw [pCells_snoc, List.length_append]
      exact hown
    · exact h.bel.grown hg (by have := h.bel.size; omega) (fun k hk => by have := (h.own.lt k hk).1; omega)
/-- what a directive makes of the fields -/
def ReadPost (b : Nat) (T : List UInt8) (st : List Stp) (at_ : Nat) (L : List It) (w : World) (e : Ending) (w' : World) : Prop :=
  Below b w w' ∧ ((∃ q, rdL T st at_ [] = .inl q ∧ e = .returned (.tuple #[.int .i64 0, .int .i64 (q : Int)])) ∨
    (∃ a its, rdL T st at_ [] = .inr (a, its) ∧ e = .returned (.tuple #[.int .i64 (a : Int), .int .i64 (-1)]) ∧ FSt 54 64 b (L ++ its) w'))
end Go.Proofs.YtifpmigghplmoaaGreatDoor
