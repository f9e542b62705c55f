/- slices.SortStableFunc of a slice of ints, of any length. -/
import Derived.Test.YtfjbdbdjhkmifaaIStabU
import Derived.Test.YtfjbdbdjhkmifaaStabX
set_option linter.unusedVariables false
set_option linter.unusedSimpArgs false
namespace Go.Proofs.Ytfjbdbdjhkmifaa
open Go.RowKit Go.Pw
theorem symMergeI_any (cf : Cfn) (sv : Value) (N B o cap len : Nat) (w0 : World) (hB : B < N) (hcap : len ≤ cap) (hc2 : len ≤ 140737488355328) (hswo : Swo (ltI cf)) (hcmp : CmpOkI cf sv N B w0) : ∀ n, SymOkI cf sv N B o cap len w0 n := by
  intro n
  induction n with
  | zero =>
    intro P L R T a m b w hn ea em eb h1 h2
    omega
  | succ n ih =>
    intro P L R T a m b w hn ea em eb h1 h2 hN hrow hlen hsz hsL hsR hb0
    by_cases hL : L.length = 1
    · obtain ⟨x, rfl⟩ : ∃ x, L = [x] := List.length_eq_one_iff.1 hL
      exact symLeftI_any cf sv N B o cap len a m b P R T x w0 w ea em eb h2 hB hN hrow hlen hcap hc2 hsz hswo hsR hcmp hb0
    · by_cases hR : R.length = 1
      · obtain ⟨y, rfl⟩ : ∃ y, R = [y] := List.length_eq_one_iff.1 hR
        exact symRightI_any cf sv N B o cap len a m b P L T y w0 w ea em eb h1 hL hB hN hrow hlen hcap hc2 hsz hswo hsL hcmp hb0
      · exact symGenI_any cf sv N B o cap len a m b P L R T w0 w ea em eb (by omega) (by omega) hB hN hrow hlen hcap hc2 hsz hswo hsL hsR hcmp hb0 n hn ih
set_option maxHeartbeats 4000000 in
set_option maxRecDepth 100000 in
theorem stableI_any (cf : Cfn) (sv : Value) (N B o cap len : Nat) (l : List Int) (w : World) (hB : B < N) (hN : N ≤ w.heap.size) (hrow : RowI w B o l) (hlen : l.length = len) (hcap : len ≤ cap) (hc2 : len ≤ 1000000000)
    (hsz : ∀ s ∈ l, IOk cf s) (hswo : Swo (ltI cf)) (hcmp : CmpOkI cf sv N B w) :
    Calls Try.prog 93 #[.slice (some ⟨B, o, none⟩) len cap, .int .i64 (len : Int), .func (.func 78) #[] #[sv]] w
      fun e w' => e = .returned (.tuple #[]) ∧ RowI w' B o (isrt (ltI cf) l) ∧ But N B w w' := by
  have HL := hide hlen
  have HSZ := hide hsz
  have HSW := hide hswo
  have HC := hide hcmp
  have HSY := hide (fun n => symMergeI_any cf sv N B o cap len w hB hcap (by omega) hswo hcmp n)
  have HINS : Hid (∀ (a b : Nat) (l1 : List Int) (w1 : World), l1.length = len → (∀ x ∈ l1, x ∈ l) → RowI w1 B o l1 → But N B w w1 → a ≤ b → b ≤ len → Calls Try.prog 99 #[.slice (some ⟨B, o, none⟩) len cap, .int .i64 (a : Int), .int .i64 (b : Int), .func (.func 78) #[] #[sv]] w1
      fun e w' => e = .returned (.tuple #[]) ∧ RowI w' B o (insL (ltI cf) a (b - a) l1) ∧ But N B w w') := hide (fun a b l1 w1 h1 h2 h3 h4 h5 h6 => by
    have hz := h4.size
    have := insertionI_any cf sv N B o cap a b l1 w1 hB (by omega) h3 h5 (by omega) (by omega) (by omega) (fun s hs => hsz s (h2 s hs)) (fun x y w2 q1 q2 q3 => hcmp x y w2 q1 q2 (h4.trans q3))
    rw [h1] at this
    exact this.mono fun e w' ⟨q1, q2, q3⟩ => ⟨q1, q2, h4.trans q3⟩)
  clear hlen hsz hswo hcmp
  go_enter Try.func93, Try.ntmps93
  go_wp2_with fail
  go_loopw [7, 8] (fun x y wr => ∃ (a : Nat) (l1 : List Int), x = .int .i64 (a : Int) ∧ y = .int .i64 ((a : Int) + 20) ∧ Hid (BAt (ltI cf) 20 l l l1 a) ∧ RowI wr B o l1 ∧ But N B w wr) (fun _ y _ => len + 21 - (intOf y).toNat)
  case atStart => exact ⟨0, l, rfl, rfl, hide (BAt.start rfl (fun _ h => h)), hrow, But.refl _ _ _⟩
  case round =>
    obtain ⟨a, l1, rfl, rfl, hat, hr, hb⟩ := hrel
    have hll := hat.out.len
    have hle := hat.out.le
    rw [HL.out] at hll hle
    by_cases hlt : a + 20 ≤ len
    · have hd1 : (a : Int) + 20 ≤ (len : Int) := by omega
      have HI := HINS.out a (a + 20) l1 wr hll hat.out.mem hr hb (by omega) hlt
      have HN := hide (hat.out.ins HSW.out (by rw [HL.out]; exact hlt))
      rw [show ((a + 20 : Nat) : Int) = (a : Int) + 20 by omega] at HI
      have HII := hide HI
      clear HI hr hb hat
      go_wp2_with fail
      refine HII.out.mono ?_
      rintro e w2 ⟨rfl, hr2, hb2⟩
      go_wp2_with fail
      go_roundw
      case rel => exact ⟨a + 20, _, by go_num, by go_num, HN, hr2, hb2⟩
      case measure => simp [intOf]; omega
    · have hd1 : ¬ ((a : Int) + 20 ≤ (len : Int)) := by omega
      have HII := hide (HINS.out a len l1 wr hll hat.out.mem hr hb hle (Nat.le_refl _))
      have HN : Hid (BDone (ltI cf) 20 l (insL (ltI cf) a (len - a) l1)) := hide (by
        have := hat.out.insLast HSW.out (by omega) (by rw [HL.out]; omega)
        rwa [HL.out] at this)
      obtain ⟨l2, hl2⟩ : ∃ l2, insL (ltI cf) a (len - a) l1 = l2 := ⟨_, rfl⟩
      rw [hl2] at HII HN
      clear hr hb hat hl2 hll
      go_wp2_with fail
      refine HII.out.mono ?_
      rintro e w2 ⟨rfl, hr2, hb2⟩
      have HR2 := hide hr2
      have HB2 := hide hb2
      clear hr2 hb2 HII
      go_wp2_with fail
      go_loopw [6] (fun x wr => ∃ (s : Nat) (l2 : List Int), x = .int .i64 (s : Int) ∧ 0 < s ∧ (s = 20 ∨ s < 2 * len) ∧ Hid (BDone (ltI cf) s l l2) ∧ RowI wr B o l2 ∧ But N B w wr) (fun x _ => len - (intOf x).toNat)
      case atStart => exact ⟨20, l2, rfl, by omega, .inl rfl, HN, HR2.out, HB2.out⟩
      case round =>
        clear HN HR2 HB2
        clear l2
        obtain ⟨s, l2, rfl, hs0, hs1, hdn, hr, hb⟩ := hrel
        by_cases hsl : s < len
        · have hd2 : (s : Int) < (len : Int) := by omega
          have hwm : IntKind.i64.wrap (2 * (s : Int)) = 2 * (s : Int) := IntWalk.i64_in _ (by omega)
          go_wp2_with fail
          obtain ⟨w3, hw3⟩ : ∃ w3, w3 = wr := ⟨_, rfl⟩
          subst hw3
          go_loopw [7, 8] (fun x y wr => ∃ (a : Nat) (l3 : List Int), x = .int .i64 (a : Int) ∧ y = .int .i64 ((a : Int) + 2 * (s : Int)) ∧ Hid (BAt (ltI cf) (2 * s) l l2 l3 a) ∧ RowI wr B o l3 ∧ But N B w wr) (fun _ y _ => len + 1 + 2 * s - (intOf y).toNat)
          case atStart => exact ⟨0, l2, rfl, by go_num, hide (BAt.start hdn.out.len hdn.out.mem), hr, hb⟩
          case round =>
            clear hr hb
            obtain ⟨a, l3, rfl, rfl, hat, hr, hb⟩ := hrel
            have hll := hat.out.len
            have hle := hat.out.le
            rw [HL.out] at hll hle
            have hz := hb.size
            have hwa : IntKind.i64.wrap ((a : Int) + (s : Int)) = (a : Int) + (s : Int) := IntWalk.i64_in _ (by omega)
            by_cases hlt : a + 2 * s ≤ len
            · have hd3 : (a : Int) + 2 * (s : Int) ≤ (len : Int) := by omega
              have ht := BAt.two (b := a + 2 * s) HSW.out hdn.out hat.out (.inl ⟨rfl, by rw [HL.out]; exact hlt⟩)
              have HT := hide ht
              have hr' := hr
              rw [ht.e] at hr'
              have hcall := HSY.out (((l3.drop a).take s).length + ((l3.drop (a + s)).take s).length) _ _ _ _ a (a + s) (a + 2 * s) wr (Nat.le_refl _) ht.p (by rw [ht.lL]) (by have := ht.lR; omega) (by rw [ht.lL]; exact hs0) (by have := ht.lR; omega) (by omega) hr' (by rw [← ht.e]; exact hll) (fun x hx => HSZ.out x (hat.out.mem x (by rw [ht.e]; exact hx))) ht.sL ht.sR hb
              rw [show ((a + s : Nat) : Int) = (a : Int) + (s : Int) by omega, show ((a + 2 * s : Nat) : Int) = (a : Int) + 2 * (s : Int) by omega] at hcall
              have HCALL := hide hcall
              have HN := hide (hat.out.merged rfl (by rw [HL.out]; exact hlt) ht)
              have HB := hide hb
              clear ht hcall hr hr' hb hat HT
              go_wp2_with fail
              refine HCALL.out.mono ?_
              rintro e w4 ⟨rfl, hr2, hb2⟩
              have HB2 := hide (HB.out.trans hb2)
              go_wp2_with fail
              go_roundw
              case rel => exact ⟨a + 2 * s, _, by go_num, by go_num, HN, hr2, HB2.out⟩
              case measure => simp [intOf]; omega
            · have hd3 : ¬ ((a : Int) + 2 * (s : Int) ≤ (len : Int)) := by omega
              have hwm2 : IntKind.i64.wrap ((s : Int) * 2) = (s : Int) * 2 := IntWalk.i64_in _ (by omega)
              by_cases hml : a + s < len
              · have hd4 : (a : Int) + (s : Int) < (len : Int) := by omega
                have ht := BAt.two (b := len) HSW.out hdn.out hat.out (.inr ⟨HL.out.symm, hml, by omega⟩)
                have hr' := hr
                rw [ht.e] at hr'
                have hcall := HSY.out (((l3.drop a).take s).length + ((l3.drop (a + s)).take s).length) _ _ _ _ a (a + s) len wr (Nat.le_refl _) ht.p (by rw [ht.lL]) (by have := ht.lR; omega) (by rw [ht.lL]; exact hs0) (by have := ht.lR; omega) (by omega) hr' (by rw [← ht.e]; exact hll) (fun x hx => HSZ.out x (hat.out.mem x (by rw [ht.e]; exact hx))) ht.sL ht.sR hb
                rw [show ((a + s : Nat) : Int) = (a : Int) + (s : Int) by omega] at hcall
                have HCALL := hide hcall
                have HN := hide (hat.out.mergedLast hs0 HL.out.symm (by omega) ht)
                have HB := hide hb
                clear ht hcall hr hr' hb hat
                go_wp2_with fail
                refine HCALL.out.mono ?_
                rintro e w4 ⟨rfl, hr2, hb2⟩
                have HB2 := hide (HB.out.trans hb2)
                go_wp2_with fail
                go_roundw
                case rel => exact ⟨2 * s, _, by go_num, by omega, by omega, HN, hr2, HB2.out⟩
                case measure => simp [intOf]; omega
              · have hd4 : ¬ ((a : Int) + (s : Int) < (len : Int)) := by omega
                have HN := hide (BAt.skipLast HSW.out hdn.out hat.out hs0 (by rw [HL.out]; omega))
                clear hat
                go_wp2_with fail
                go_roundw
                case rel => exact ⟨2 * s, l3, by go_num, by omega, by omega, HN, hr, hb⟩
                case measure => simp [intOf]; omega
        · have hd2 : ¬ ((s : Int) < (len : Int)) := by omega
          have hw := hdn.out.whole (by rw [HL.out]; omega)
          rw [hw] at hr
          clear hw
          go_wp2_with fail
          go_end0
          exact ⟨rfl, hr, hb⟩
set_option maxHeartbeats 1000000 in
theorem sortStableI_any (cf : Cfn) (sv : Value) (N B o cap len : Nat) (l : List Int) (w : World) (hB : B < N) (hN : N ≤ w.heap.size) (hrow : RowI w B o l) (hlen : l.length = len) (hcap : len ≤ cap) (hc2 : len ≤ 1000000000)
    (hsz : ∀ s ∈ l, IOk cf s) (hswo : Swo (ltI cf)) (hcmp : CmpOkI cf sv N B w) :
    Calls Try.prog 77 #[.slice (some ⟨B, o, none⟩) len cap, .func (.func 78) #[] #[sv]] w
      fun e w' => e = .returned (.tuple #[]) ∧ RowI w' B o (isrt (ltI cf) l) ∧ But N B w w' := by
  have H := hide (stableI_any cf sv N B o cap len l w hB hN hrow hlen hcap hc2 hsz hswo hcmp)
  clear hrow hlen hsz hswo hcmp
  go_enter Try.func77, Try.ntmps77
  go_wp2_with fail
  refine H.out.mono ?_
  rintro e w2 ⟨rfl, hr, hb⟩
  go_wp2_with fail
  go_end0
  exact ⟨rfl, hr, hb⟩
end Go.Proofs.Ytfjbdbdjhkmifaa
