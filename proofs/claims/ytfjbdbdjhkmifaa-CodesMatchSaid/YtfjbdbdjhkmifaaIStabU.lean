/- slices.SortStableFunc of a slice of ints: two runs merged. -/
import Derived.Test.YtfjbdbdjhkmifaaIStabT
import Derived.Deep.DeepCutAuto
set_option linter.unusedVariables false
set_option linter.unusedSimpArgs false
namespace Go.Pw
open Go.RowKit
/-- where the search of a symmetric merge stands -/
structure SeekGI (lt : Int → Int → Bool) (l : List Int) (p s0 r0 st r : Nat) : Prop where
  lo : s0 ≤ st
  sr : st ≤ r
  hi : r ≤ r0
  l1 : st = s0 ∨ ∀ x y, l[st - 1]? = some x → l[p - (st - 1)]? = some y → lt y x = false
  l2 : r = r0 ∨ ∀ x y, l[r]? = some x → l[p - r]? = some y → lt y x = true
theorem SeekGI.up {lt : Int → Int → Bool} {l : List Int} {p s0 r0 st r c : Nat} {x y : Int} (h : SeekGI lt l p s0 r0 st r) (h1 : st ≤ c) (h2 : c < r) (hx : l[c]? = some x) (hy : l[p - c]? = some y) (hl : lt y x = false) : SeekGI lt l p s0 r0 (c + 1) r :=
  ⟨by have := h.lo; omega, h2, h.hi, .inr (fun x' y' ex ey => by
    rw [Nat.add_sub_cancel, hx] at ex
    rw [Nat.add_sub_cancel, hy] at ey
    injection ex with ex; injection ey with ey
    subst ex ey; exact hl), h.l2⟩
theorem SeekGI.dn {lt : Int → Int → Bool} {l : List Int} {p s0 r0 st r c : Nat} {x y : Int} (h : SeekGI lt l p s0 r0 st r) (h1 : st ≤ c) (h2 : c < r) (hx : l[c]? = some x) (hy : l[p - c]? = some y) (hl : lt y x = true) : SeekGI lt l p s0 r0 st c :=
  ⟨h.lo, h1, by have := h.hi; omega, h.l1, .inr (fun x' y' ex ey => by
    rw [hx] at ex
    rw [hy] at ey
    injection ex with ex; injection ey with ey
    subst ex ey; exact hl)⟩
theorem no_rotI {α : Type} {P L R T : List α} {k j : Nat} (h : L.length ≤ k ∨ j = 0) : P ++ (L ++ (R ++ T)) = (P ++ L.take k) ++ (R.take j ++ (L.drop k ++ (R.drop j ++ T))) := by
  have e1 : L = L.take k ++ L.drop k := (List.take_append_drop k L).symm
  have e2 : R = R.take j ++ R.drop j := (List.take_append_drop j R).symm
  rcases h with h | h
  · rw [List.take_of_length_le h, List.drop_of_length_le h]
    conv => lhs; rw [e2]
    simp only [List.append_assoc, List.nil_append]
  · subst h
    rw [List.take_zero, List.drop_zero]
    conv => lhs; rw [e1]
    simp only [List.append_assoc, List.nil_append]
theorem parts_eqI {α : Type} {P L R T : List α} {k j : Nat} : P ++ (L ++ (R ++ T)) = (P ++ L.take k) ++ (L.drop k ++ (R.take j ++ (R.drop j ++ T))) := by
  have e1 : L = L.take k ++ L.drop k := (List.take_append_drop k L).symm
  have e2 : R = R.take j ++ R.drop j := (List.take_append_drop j R).symm
  conv => lhs; rw [e1, e2]
  simp only [List.append_assoc]
theorem mrg_emptyI {α : Type} {lt : α → α → Bool} {A B : List α} (h : A = [] ∨ B = []) : mrg lt A B = A ++ B := by
  rcases h with rfl | rfl
  · rfl
  · rw [mrg_nil, List.append_nil]
end Go.Pw
namespace Go.Proofs.Ytfjbdbdjhkmifaa
open Go.RowKit Go.Pw
/-- the merge of two runs, as it is called -/
def SymOkI (cf : Cfn) (sv : Value) (N B o cap len : Nat) (w0 : World) (n : Nat) : Prop :=
  ∀ (P L R T : List Int) (a m b : Nat) (w : World), L.length + R.length ≤ n → P.length = a → a + L.length = m → m + R.length = b → 0 < L.length → 0 < R.length → N ≤ w.heap.size → RowI w B o (P ++ (L ++ (R ++ T))) → (P ++ (L ++ (R ++ T))).length = len →
    (∀ s ∈ P ++ (L ++ (R ++ T)), IOk cf s) → Srt (ltI cf) L → Srt (ltI cf) R → But N B w0 w →
    Calls Try.prog 100 #[.slice (some ⟨B, o, none⟩) len cap, .int .i64 (a : Int), .int .i64 (m : Int), .int .i64 (b : Int), .func (.func 78) #[] #[sv]] w
      fun e w' => e = .returned (.tuple #[]) ∧ RowI w' B o (P ++ (mrg (ltI cf) L R ++ T)) ∧ But N B w w'
/-- what is left to be done behind the rotation -/
structure SymRestI (cf : Cfn) (w w2 : World) (N B o len a m b mid st en : Nat) (P L R L1 L2 R1 R2 T : List Int) : Prop where
  row : RowI w2 B o ((P ++ L1) ++ (R1 ++ (L2 ++ (R2 ++ T))))
  but : But N B w w2
  l1 : L1.length = st - a
  r1 : R1.length = mid - st
  l2 : L2.length = en - mid
  r2 : R2.length = b - en
  s1 : Srt (ltI cf) L1
  s2 : Srt (ltI cf) L2
  s3 : Srt (ltI cf) R1
  s4 : Srt (ltI cf) R2
  fin : mrg (ltI cf) L R = mrg (ltI cf) L1 R1 ++ mrg (ltI cf) L2 R2
  p : P.length = a
  o1 : a ≤ st ∧ st ≤ mid ∧ mid ≤ en ∧ en ≤ b
  len : ((P ++ L1) ++ (R1 ++ (L2 ++ (R2 ++ T)))).length = len
  sz : ∀ s ∈ (P ++ L1) ++ (R1 ++ (L2 ++ (R2 ++ T))), IOk cf s
structure SymRestI2 (cf : Cfn) (w w3 : World) (N B o len b mid en : Nat) (P L R M L2 R2 T : List Int) : Prop where
  row : RowI w3 B o ((P ++ M) ++ (L2 ++ (R2 ++ T)))
  but : But N B w w3
  l2 : L2.length = en - mid
  r2 : R2.length = b - en
  s2 : Srt (ltI cf) L2
  s4 : Srt (ltI cf) R2
  fin : mrg (ltI cf) L R = M ++ mrg (ltI cf) L2 R2
  p : (P ++ M).length = mid
  o1 : mid ≤ en ∧ en ≤ b
  len : ((P ++ M) ++ (L2 ++ (R2 ++ T))).length = len
  sz : ∀ s ∈ (P ++ M) ++ (L2 ++ (R2 ++ T)), IOk cf s
theorem SymRestI.call1 {cf : Cfn} {w w2 w3 : World} {N B o len a m b mid st en : Nat} {P L R L1 L2 R1 R2 T : List Int} (h : SymRestI cf w w2 N B o len a m b mid st en P L R L1 L2 R1 R2 T)
    (hr : RowI w3 B o (P ++ (mrg (ltI cf) L1 R1 ++ (L2 ++ (R2 ++ T))))) (hb : But N B w2 w3) : SymRestI2 cf w w3 N B o len b mid en P L R (mrg (ltI cf) L1 R1) L2 R2 T := by
  have hl := mrg_len (ltI cf) L1 R1
  have h1 := h.l1
  have h2 := h.r1
  have h3 := h.p
  have h4 := h.o1
  have h5 := h.len
  simp only [List.length_append] at h5
  refine ⟨by rw [List.append_assoc]; exact hr, h.but.trans hb, h.l2, h.r2, h.s2, h.s4, h.fin, by rw [List.length_append]; omega, ⟨h4.2.2.1, h4.2.2.2⟩, by simp only [List.length_append]; omega, fun s hs => h.sz s ?_⟩
  simp only [List.mem_append] at hs ⊢
  rcases hs with (hs | hs) | hs
  · exact .inl (.inl hs)
  · rcases mrg_mem _ hs with hs | hs
    · exact .inl (.inr hs)
    · exact .inr (.inl hs)
  · exact .inr (.inr hs)
theorem SymRestI.skip1 {cf : Cfn} {w w2 : World} {N B o len a m b mid st en : Nat} {P L R L1 L2 R1 R2 T : List Int} (h : SymRestI cf w w2 N B o len a m b mid st en P L R L1 L2 R1 R2 T)
    (hno : st ≤ a ∨ mid ≤ st) : SymRestI2 cf w w2 N B o len b mid en P L R (mrg (ltI cf) L1 R1) L2 R2 T := by
  refine h.call1 ?_ (But.refl _ _ _)
  have h1 := h.l1
  have h2 := h.r1
  rw [mrg_emptyI (lt := ltI cf) (A := L1) (B := R1) (by
    rcases hno with hno | hno
    · exact .inl (List.eq_nil_of_length_eq_zero (by omega))
    · exact .inr (List.eq_nil_of_length_eq_zero (by omega)))]
  have := h.row
  simpa only [List.append_assoc] using this
theorem SymRestI2.call2 {cf : Cfn} {w w3 w4 : World} {N B o len b mid en : Nat} {P L R M L2 R2 T : List Int} (h : SymRestI2 cf w w3 N B o len b mid en P L R M L2 R2 T)
    (hr : RowI w4 B o ((P ++ M) ++ (mrg (ltI cf) L2 R2 ++ T))) (hb : But N B w3 w4) : RowI w4 B o (P ++ (mrg (ltI cf) L R ++ T)) ∧ But N B w w4 := by
  refine ⟨?_, h.but.trans hb⟩
  rw [h.fin]
  simpa only [List.append_assoc] using hr
theorem SymRestI2.skip2 {cf : Cfn} {w w3 : World} {N B o len b mid en : Nat} {P L R M L2 R2 T : List Int} (h : SymRestI2 cf w w3 N B o len b mid en P L R M L2 R2 T)
    (hno : en ≤ mid ∨ b ≤ en) : RowI w3 B o (P ++ (mrg (ltI cf) L R ++ T)) ∧ But N B w w3 := by
  refine h.call2 ?_ (But.refl _ _ _)
  have h1 := h.l2
  have h2 := h.r2
  rw [mrg_emptyI (lt := ltI cf) (A := L2) (B := R2) (by
    rcases hno with hno | hno
    · exact .inl (List.eq_nil_of_length_eq_zero (by omega))
    · exact .inr (List.eq_nil_of_length_eq_zero (by omega)))]
  have := h.row
  simpa only [List.append_assoc] using this
/-- behind the search: what the rotation leads to -/
theorem SymRestI.make {cf : Cfn} {w w2 : World} {N B o len a m b mid st en : Nat} {P L R T : List Int} (hsL : Srt (ltI cf) L) (hsR : Srt (ltI cf) R)
    (hrow : RowI w2 B o ((P ++ L.take (st - a)) ++ (R.take (en - m) ++ (L.drop (st - a) ++ (R.drop (en - m) ++ T))))) (hbut : But N B w w2) (ea : P.length = a) (em : a + L.length = m) (eb : m + R.length = b)
    (hlen : (P ++ (L ++ (R ++ T))).length = len) (hsz : ∀ s ∈ P ++ (L ++ (R ++ T)), IOk cf s) (hen : en + st = mid + m) (o1 : a ≤ st ∧ st ≤ m ∧ st ≤ mid ∧ m ≤ en ∧ en ≤ b)
    (hf : mrg (ltI cf) L R = mrg (ltI cf) (L.take (st - a)) (R.take (mid + m - st - m)) ++ mrg (ltI cf) (L.drop (st - a)) (R.drop (mid + m - st - m))) :
    SymRestI cf w w2 N B o len a m b mid st en P L R (L.take (st - a)) (L.drop (st - a)) (R.take (en - m)) (R.drop (en - m)) T := by
  obtain ⟨q1, q2, q3, q4, q5⟩ := o1
  have e : mid + m - st - m = en - m := by omega
  rw [e] at hf
  have k1 : (L.take (st - a)).length = st - a := by rw [List.length_take]; omega
  have k2 : (L.drop (st - a)).length = m - st := by rw [List.length_drop]; omega
  have k3 : (R.take (en - m)).length = en - m := by rw [List.length_take]; omega
  have k4 : (R.drop (en - m)).length = b - en := by rw [List.length_drop]; omega
  simp only [List.length_append] at hlen
  refine ⟨hrow, hbut, k1, by omega, by omega, k4, hsL.take _, hsL.drop _, hsR.take _, hsR.drop _, hf, ea, ⟨q1, q3, by omega, q5⟩, by simp only [List.length_append, k1, k2, k3, k4]; omega, fun s hs => hsz s ?_⟩
  simp only [List.mem_append] at hs ⊢
  rcases hs with (hs | hs) | hs | hs | hs | hs
  · exact .inl hs
  · exact .inr (.inl (List.mem_of_mem_take hs))
  · exact .inr (.inr (.inl (List.mem_of_mem_take hs)))
  · exact .inr (.inl (List.mem_of_mem_drop hs))
  · exact .inr (.inr (.inl (List.mem_of_mem_drop hs)))
  · exact .inr (.inr (.inr hs))
set_option maxHeartbeats 8000000 in
set_option maxRecDepth 100000 in
theorem symGenI_any (cf : Cfn) (sv : Value) (N B o cap len a m b : Nat) (P L R T : List Int) (w0 w : World) (ea : P.length = a) (em : a + L.length = m) (eb : m + R.length = b) (hL : 1 < L.length) (hR : 1 < R.length) (hB : B < N) (hN : N ≤ w.heap.size) (hrow : RowI w B o (P ++ (L ++ (R ++ T)))) (hlen : (P ++ (L ++ (R ++ T))).length = len) (hcap : len ≤ cap) (hc2 : len ≤ 140737488355328)
    (hsz : ∀ s ∈ P ++ (L ++ (R ++ T)), IOk cf s) (hswo : Swo (ltI cf)) (hsL : Srt (ltI cf) L) (hsR : Srt (ltI cf) R) (hcmp : CmpOkI cf sv N B w0) (hb0 : But N B w0 w) (n : Nat) (hn : L.length + R.length ≤ n + 1) (hih : SymOkI cf sv N B o cap len w0 n) :
    Calls Try.prog 100 #[.slice (some ⟨B, o, none⟩) len cap, .int .i64 (a : Int), .int .i64 (m : Int), .int .i64 (b : Int), .func (.func 78) #[] #[sv]] w
      fun e w' => e = .returned (.tuple #[]) ∧ RowI w' B o (P ++ (mrg (ltI cf) L R ++ T)) ∧ But N B w w' := by
  have hbl : b ≤ len := by rw [← hlen]; simp only [List.length_append]; omega
  obtain ⟨l, hl⟩ : ∃ l, P ++ (L ++ (R ++ T)) = l := ⟨_, rfl⟩
  obtain ⟨mid, hmid⟩ : ∃ mid : Nat, (a + b) / 2 = mid := ⟨_, rfl⟩
  have HIH := hide hih
  have HSZ := hide hsz
  have HL := hide hlen
  rw [hl] at hrow
  unfold CmpOkI at hcmp
  have HC := hide hcmp
  have HSW := hide hswo
  have HSL := hide hsL
  have HSR := hide hsR
  have HI := hide hl
  have HEA := hide ea
  have HEM := hide em
  have HEB := hide eb
  have HNN := hide hn
  have hd1 : (((m : Int) - (a : Int)) == 1) = false := by simp only [beq_eq_false_iff_ne, ne_eq]; omega
  have hd2 : ¬ ((m : Int) - (a : Int) = 1) := by omega
  have hd3 : (((b : Int) - (m : Int)) == 1) = false := by simp only [beq_eq_false_iff_ne, ne_eq]; omega
  have hd4 : ¬ ((b : Int) - (m : Int) = 1) := by omega
  have ham : a + 2 ≤ m := by omega
  have hmb : m + 2 ≤ b := by omega
  have hm1 : ((a : Int) + (b : Int)) / 2 = (mid : Int) := by omega
  have hma : 2 * mid ≤ a + b ∧ a + b < 2 * mid + 2 := by omega
  obtain ⟨nn, hnn⟩ : ∃ nn : Nat, mid + m = nn := ⟨_, rfl⟩
  have hn1 : (mid : Int) + (m : Int) = (nn : Int) := by omega
  obtain ⟨pn, hpn⟩ : ∃ pn : Nat, nn - 1 = pn := ⟨_, rfl⟩
  have hp1 : (nn : Int) - 1 = (pn : Int) := by omega
  have hp2 : pn + 1 = mid + m := by omega
  obtain ⟨s0, r0, h0, hn2⟩ : ∃ s0 r0 : Nat, ((mid < m ∧ s0 = mid + m - b ∧ r0 = mid) ∨ (m ≤ mid ∧ s0 = a ∧ r0 = m)) ∧ (mid < m → (nn : Int) - (b : Int) = (s0 : Int)) := by
    by_cases hmm : mid < m
    · exact ⟨mid + m - b, mid, .inl ⟨hmm, rfl, rfl⟩, fun _ => by omega⟩
    · exact ⟨a, m, .inr ⟨by omega, rfl, rfl⟩, fun h => absurd h hmm⟩
  obtain ⟨S0, hS0⟩ : ∃ S0, S0 = s0 := ⟨_, rfl⟩
  obtain ⟨R0, hR0⟩ : ∃ R0, R0 = r0 := ⟨_, rfl⟩
  have H0 : Hid ((mid < m ∧ S0 = mid + m - b ∧ R0 = mid) ∨ (m ≤ mid ∧ S0 = a ∧ R0 = m)) := hide (by rw [hS0, hR0]; exact h0)
  have HS0 := hide hS0
  have HR0 := hide hR0
  have H00 := hide h0
  clear hsz hlen hcmp hswo hsL hsR hl ea em eb hL hR hmid hnn hpn hih hn h0 hS0 hR0
  go_enter Try.func100, Try.ntmps100
  go_upto_if 140 with fail
  go_cut [20, 21] (fun x y wx => x = .int .i64 (S0 : Int) ∧ y = .int .i64 (R0 : Int) ∧ wx = w)
  case first =>
    by_cases hmm : mid < m
    · have hmi : (mid : Int) < (m : Int) := by omega
      have hn3 := hn2 hmm
      go_wp2_with fail
      go_meet
      case rel => exact ⟨by rw [HS0.out], by rw [HR0.out]; have := H00.out; rw [show r0 = mid by omega], rfl⟩
    · have hmi : ¬ ((mid : Int) < (m : Int)) := by omega
      go_wp2_with fail
      go_meet
      case rel => exact ⟨by rw [HS0.out]; have := H00.out; rw [show s0 = a by omega], by rw [HR0.out]; have := H00.out; rw [show r0 = m by omega], rfl⟩
  case rest =>
    obtain ⟨rfl, rfl, hwc⟩ := hcut
    obtain rfl : w = wc := hwc.symm
    clear hn2 H00
    go_wp2_with fail
    go_loopw [20, 21] (fun i j wr => ∃ (st r : Nat), i = .int .i64 (st : Int) ∧ j = .int .i64 (r : Int) ∧ Hid (SeekGI (ltI cf) l pn S0 R0 st r) ∧ RowI wr B o l ∧ But N B w wr) (fun i j _ => (intOf j).toNat - (intOf i).toNat)
    case atStart => exact ⟨_, _, rfl, rfl, hide ⟨Nat.le_refl _, by have := H0.out; omega, Nat.le_refl _, .inl rfl, .inl rfl⟩, hrow, But.refl _ _ _⟩
    case round =>
      obtain ⟨st, r, rfl, rfl, hk, hr, hb⟩ := hrel
      have hlo := hk.out.lo
      have hsr := hk.out.sr
      have hhi := hk.out.hi
      by_cases hlt : st < r
      · have hd5 : (st : Int) < (r : Int) := by omega
        obtain ⟨c, hc⟩ : ∃ c : Nat, (st + r) / 2 = c := ⟨_, rfl⟩
        have hc1 : ((st : Int) + (r : Int)) / 2 = (c : Int) := by omega
        have hcs : st ≤ c ∧ c < r := by omega
        obtain ⟨q, hq⟩ : ∃ q : Nat, pn - c = q := ⟨_, rfl⟩
        have hcq : c < b ∧ q < b ∧ c + q = pn := by have := H0.out; omega
        have hw1 : IntKind.i64.wrap ((pn : Int) - (c : Int)) = (pn : Int) - (c : Int) := IntWalk.i64_in _ (by omega)
        have hw2 : ((pn : Int) - (c : Int)).toNat = q := by omega
        have hw3 : (0 : Int) ≤ (pn : Int) - (c : Int) := by omega
        have hw4 : (pn : Int) - (c : Int) < (len : Int) := by omega
        have hw5 : pn - c = q := by omega
        have hw6 : (c : Int) ≤ (pn : Int) := by omega
        have hw7 : c ≤ pn := by omega
        have hq2 : (q : Int) < (len : Int) := by omega
        have hc3 : (c : Int) < (len : Int) := by omega
        obtain ⟨x, hx⟩ : ∃ x, l[c]? = some x := ⟨_, List.getElem?_eq_getElem (by rw [← HI.out, HL.out]; omega)⟩
        obtain ⟨y, hy⟩ : ∃ y, l[q]? = some y := ⟨_, List.getElem?_eq_getElem (by rw [← HI.out, HL.out]; omega)⟩
        obtain ⟨c1, f1⟩ := hr.2 q y hy
        obtain ⟨c2, f2⟩ := hr.2 c x hx
        have z1 := HSZ.out y (by rw [HI.out]; exact List.mem_of_getElem? hy)
        have z2 := HSZ.out x (by rw [HI.out]; exact List.mem_of_getElem? hx)
        have hlB := hr.1
        have HUP : Hid (ltI cf y x = false → SeekGI (ltI cf) l pn S0 R0 (c + 1) r) := hide (fun h => hk.out.up hcs.1 hcs.2 hx (by rw [hq]; exact hy) h)
        have HDN : Hid (ltI cf y x = true → SeekGI (ltI cf) l pn S0 R0 st c) := hide (fun h => hk.out.dn hcs.1 hcs.2 hx (by rw [hq]; exact hy) h)
        clear hc hq hx hy f1 f2 hlo hhi
        by_cases hcf : cf y x < 0
        case' pos =>
          have hcf' : decide (cf y x < 0) = true := by simpa using hcf
          have HN := hide (HDN.out hcf')
        case' neg =>
          have hcf' : decide (cf y x < 0) = false := by simpa using hcf
          have HN := hide (HUP.out hcf')
        all_goals
          clear HUP HDN
          go_wp2_with fail
          go_region_held3 (fun w' => w'.cell? ⟨B, o + q, none⟩ = some (.int .i64 y) ∧ w'.cell? ⟨B, o + c, none⟩ = some (.int .i64 x)) (go_keep) ((go_at_call 78; (with_reducible refine (HC.out y x _ z1 z2 (But.drew (hb0.trans hb))).mono ?_); rintro e w1 ⟨rfl, hbl⟩; have hbl' : Below wr.heap.size wr w1 := ⟨hbl.os, hbl.tape, hbl.output, hbl.size, hbl.block⟩; have q1 : w1.cell? ⟨B, o + q, none⟩ = some (.int .i64 y) := (hbl'.cell hlB).trans c1; have q2 : w1.cell? ⟨B, o + c, none⟩ = some (.int .i64 x) := (hbl'.cell hlB).trans c2))
          have hr2 : RowI w1 B o l := hr.below hbl' hlB
          have hb2 : But N B w w1 := hb.trans (But.of_below hbl' (by have := hb.size; omega))
          clear hbl hbl' c1 c2
          go_wp2_with fail
          go_roundw
          case rel => first | exact ⟨c + 1, r, by go_num, rfl, HN, hr2, hb2⟩ | exact ⟨st, c, rfl, by go_num, HN, hr2, hb2⟩
          case measure => simp [intOf]; omega
      · obtain rfl : st = r := by omega
        have hd5 : ¬ ((st : Int) < (st : Int)) := by omega
        obtain ⟨en, hen⟩ : ∃ en : Nat, nn - st = en := ⟨_, rfl⟩
        have hrg : a ≤ st ∧ st ≤ m ∧ st ≤ mid ∧ m ≤ en ∧ en ≤ b ∧ en + st = nn ∧ mid ≤ en := by have := H0.out; omega
        have hen1 : (nn : Int) - (st : Int) = (en : Int) := by omega
        have hcut := sym_cut HSW.out (P := P) (L := L) (R := R) (T := T) HSL.out HSR.out (a := a) (m := m) (b := b) (mid := mid) (s0 := S0) (r0 := R0) (st := st) HEA.out.symm (by have := HEA.out; have := HEM.out; omega) (by have := HEA.out; have := HEM.out; have := HEB.out; omega) (by omega) H0.out hlo hhi
          (by rw [HI.out, show mid + m - 1 = pn by omega]; exact hk.out.l1) (by rw [HI.out, show mid + m - 1 = pn by omega]; exact hk.out.l2)
        have HCUT := hide hcut
        have HRG := hide hrg
        have hrow2 := hr
        rw [← HI.out, parts_eqI (k := st - a) (j := en - m)] at hrow2
        have HMK : Hid (∀ w2 : World, RowI w2 B o ((P ++ L.take (st - a)) ++ (R.take (en - m) ++ (L.drop (st - a) ++ (R.drop (en - m) ++ T)))) → But N B wr w2 → SymRestI cf w w2 N B o len a m b mid st en P L R (L.take (st - a)) (L.drop (st - a)) (R.take (en - m)) (R.drop (en - m)) T) := hide (fun w2 h1 h2 =>
          SymRestI.make HSL.out HSR.out h1 (hb.trans h2) HEA.out HEM.out HEB.out HL.out HSZ.out (by omega) ⟨hrg.1, hrg.2.1, hrg.2.2.1, hrg.2.2.2.1, hrg.2.2.2.2.1⟩ HCUT.out)
        have HROT : Hid (st < m → m < en → Calls Try.prog 106 #[.slice (some ⟨B, o, none⟩) len cap, .int .i64 (st : Int), .int .i64 (m : Int), .int .i64 (en : Int), .func (.func 78) #[] #[sv]] wr
            fun e w' => e = .returned (.tuple #[]) ∧ SymRestI cf w w' N B o len a m b mid st en P L R (L.take (st - a)) (L.drop (st - a)) (R.take (en - m)) (R.drop (en - m)) T) := hide (fun h1 h2 => by
          have k1 : (L.take (st - a)).length = st - a := by rw [List.length_take]; have := HEM.out; omega
          have k2 : (L.drop (st - a)).length = m - st := by rw [List.length_drop]; have := HEM.out; omega
          have k3 : (R.take (en - m)).length = en - m := by rw [List.length_take]; have := HEB.out; omega
          refine (rotateI_any (.func (.func 78) #[] #[sv]) N B o cap len (st : Int) (m : Int) (en : Int) (P ++ L.take (st - a)) (L.drop (st - a)) (R.take (en - m)) (R.drop (en - m) ++ T) wr (by rw [List.length_append, k1, HEA.out]; omega) (by rw [List.length_append, k1, k2, HEA.out]; omega) (by rw [List.length_append, k1, k2, k3, HEA.out]; omega) (by omega) (by omega) hB (by have := hb.size; omega) hrow2 (by rw [← parts_eqI]; exact HL.out) hcap hc2).mono ?_
          rintro e w' ⟨rfl, h3, h4⟩
          exact ⟨rfl, HMK.out w' h3 h4⟩)
        have HNOR : Hid (m ≤ st ∨ en ≤ m → SymRestI cf w wr N B o len a m b mid st en P L R (L.take (st - a)) (L.drop (st - a)) (R.take (en - m)) (R.drop (en - m)) T) := hide (fun h => by
          refine HMK.out wr ?_ (But.refl _ _ _)
          rw [← no_rotI (by have := HEM.out; omega), HI.out]
          exact hr)
        have HR1 : Hid (∀ w2 : World, SymRestI cf w w2 N B o len a m b mid st en P L R (L.take (st - a)) (L.drop (st - a)) (R.take (en - m)) (R.drop (en - m)) T → a < st → st < mid → Calls Try.prog 100 #[.slice (some ⟨B, o, none⟩) len cap, .int .i64 (a : Int), .int .i64 (st : Int), .int .i64 (mid : Int), .func (.func 78) #[] #[sv]] w2
            fun e w' => e = .returned (.tuple #[]) ∧ SymRestI2 cf w w' N B o len b mid en P L R (mrg (ltI cf) (L.take (st - a)) (R.take (en - m))) (L.drop (st - a)) (R.drop (en - m)) T) := hide (fun w2 h h1 h2 => by
          have k1 := h.l1
          have k2 := h.r1
          have k3 := h.p
          have k4 := h.but.size
          refine (HIH.out P (L.take (st - a)) (R.take (en - m)) (L.drop (st - a) ++ (R.drop (en - m) ++ T)) a st mid w2 (by have := HNN.out; have := HEM.out; have := HEB.out; omega) k3 (by omega) (by omega) (by omega) (by omega) (by omega) (by have := h.row; simpa only [List.append_assoc] using this) (by have := h.len; simpa only [List.append_assoc] using this) (by have := h.sz; simpa only [List.append_assoc] using this) h.s1 h.s3 (hb0.trans h.but)).mono ?_
          rintro e w' ⟨rfl, h5, h6⟩
          exact ⟨rfl, h.call1 h5 h6⟩)
        have HR2 : Hid (∀ (w3 : World) (M : List Int), SymRestI2 cf w w3 N B o len b mid en P L R M (L.drop (st - a)) (R.drop (en - m)) T → mid < en → en < b → Calls Try.prog 100 #[.slice (some ⟨B, o, none⟩) len cap, .int .i64 (mid : Int), .int .i64 (en : Int), .int .i64 (b : Int), .func (.func 78) #[] #[sv]] w3
            fun e w' => e = .returned (.tuple #[]) ∧ RowI w' B o (P ++ (mrg (ltI cf) L R ++ T)) ∧ But N B w w') := hide (fun w3 M h h1 h2 => by
          have k1 := h.l2
          have k2 := h.r2
          have k3 := h.p
          have k4 := h.but.size
          refine (HIH.out (P ++ M) (L.drop (st - a)) (R.drop (en - m)) T mid en b w3 (by have := HNN.out; have := HEM.out; have := HEB.out; omega) k3 (by omega) (by omega) (by omega) (by omega) (by omega) h.row h.len h.sz h.s2 h.s4 (hb0.trans h.but)).mono ?_
          rintro e w' ⟨rfl, h5, h6⟩
          exact ⟨rfl, h.call2 h5 h6⟩)
        clear hcut hrow2 hk hen hlo hhi hsr
        have hst2 : st ≤ mid := hrg.2.2.1
        clear hrg
        have hcs : (st < m ∧ m < en ∧ st < mid ∧ mid < en) ∨ (st = m ∧ en = mid) ∨ (st < m ∧ en = m ∧ st = mid ∧ mid < en ∧ en < b) := by have := HRG.out; omega
        clear HRG
        rcases hcs with ⟨p1, p2, p3, hq1⟩ | ⟨p1, p2⟩ | ⟨p1, p2, p3, hq1, hq2⟩
        · have hi1 : (st : Int) < (m : Int) := by omega
          have hi2 : (m : Int) < (en : Int) := by omega
          have hi3 : (st : Int) < (mid : Int) := by omega
          have hi4 : (mid : Int) < (en : Int) := by omega
          have HCALL := hide (HROT.out p1 p2)
          clear HROT HNOR HMK HCUT hr hb
          go_wp2_with fail
          refine HCALL.out.mono ?_
          rintro e w2 ⟨rfl, hrest⟩
          have HREST := hide hrest
          clear hrest HCALL
          by_cases hq : a < st
          · have hj1 : (a : Int) < (st : Int) := by omega
            have HCALL := hide (HR1.out _ HREST.out hq p3)
            clear HR1 HREST
            go_wp2_with fail
            refine HCALL.out.mono ?_
            rintro e w3 ⟨rfl, hrest⟩
            have HREST2 := hide hrest
            clear hrest HCALL
            by_cases hq2 : en < b
            · have hj2 : (en : Int) < (b : Int) := by omega
              have HCALL2 := hide (HR2.out _ _ HREST2.out hq1 hq2)
              clear HR2
              go_wp2_with fail
              refine HCALL2.out.mono ?_
              rintro e w4 ⟨rfl, hrest⟩
              go_wp2_with fail
              go_end0
              exact ⟨rfl, hrest⟩
            · have hj2 : ¬ ((en : Int) < (b : Int)) := by omega
              have hrest := hide (HREST2.out.skip2 (by omega))
              clear HR2
              go_wp2_with fail
              go_end0
              exact ⟨rfl, hrest.out⟩
          · have hj1 : ¬ ((a : Int) < (st : Int)) := by omega
            have HREST2 := hide (HREST.out.skip1 (by omega))
            clear HR1 HREST
            by_cases hq2 : en < b
            · have hj2 : (en : Int) < (b : Int) := by omega
              have HCALL2 := hide (HR2.out _ _ HREST2.out hq1 hq2)
              clear HR2
              go_wp2_with fail
              refine HCALL2.out.mono ?_
              rintro e w4 ⟨rfl, hrest⟩
              go_wp2_with fail
              go_end0
              exact ⟨rfl, hrest⟩
            · have hj2 : ¬ ((en : Int) < (b : Int)) := by omega
              have hrest := hide (HREST2.out.skip2 (by omega))
              clear HR2
              go_wp2_with fail
              go_end0
              exact ⟨rfl, hrest.out⟩
        · have hi1 : ¬ ((st : Int) < (m : Int)) := by omega
          have hi4 : ¬ ((mid : Int) < (en : Int)) := by omega
          have hi5 : (a : Int) < (st : Int) := by omega
          have HREST := hide (HNOR.out (by omega))
          clear HROT HNOR HMK HCUT hr hb HR2
          by_cases hq : st < mid
          · have hj1 : (st : Int) < (mid : Int) := by omega
            have HCALL := hide (HR1.out _ HREST.out (by omega) hq)
            clear HR1 HREST
            clear p1 p2
            go_wp2_with fail
            refine HCALL.out.mono ?_
            rintro e w3 ⟨rfl, hrest⟩
            have hrest2 := hide (hrest.skip2 (by omega))
            clear hrest HCALL
            go_wp2_with fail
            go_end0
            exact ⟨rfl, hrest2.out⟩
          · have hj1 : ¬ ((st : Int) < (mid : Int)) := by omega
            have hrest2 := hide ((HREST.out.skip1 (by omega)).skip2 (by omega))
            clear HR1 HREST
            clear p1 p2
            go_wp2_with fail
            go_end0
            exact ⟨rfl, hrest2.out⟩
        · have hi1 : (st : Int) < (m : Int) := by omega
          have hi2 : ¬ ((m : Int) < (en : Int)) := by omega
          have hi3 : ¬ ((st : Int) < (mid : Int)) := by omega
          have hi4 : (mid : Int) < (en : Int) := by omega
          have hi5 : (a : Int) < (st : Int) := by omega
          have hi6 : (en : Int) < (b : Int) := by omega
          have HREST2 := hide ((HNOR.out (by omega)).skip1 (by omega))
          have HCALL2 := hide (HR2.out _ _ HREST2.out hq1 hq2)
          clear HROT HNOR HMK HCUT hr hb HR1 HR2 HREST2
          clear p2 p3
          go_wp2_with fail
          refine HCALL2.out.mono ?_
          rintro e w4 ⟨rfl, hrest⟩
          go_wp2_with fail
          go_end0
          exact ⟨rfl, hrest⟩
end Go.Proofs.Ytfjbdbdjhkmifaa
