/- The reference's Compared, whole. -/
import Derived.Test.YtkikbejpgfhfoaaDoorCommR
set_option linter.unusedVariables false
set_option linter.unusedSimpArgs false
namespace Go.Pw
open Go.RowKit
def OrdTo (l : List ByteArray) (m : Nat) : Prop := ∀ (j : Nat) a b, j + 1 < m → l[j]? = some a → l[j + 1]? = some b → cbL a b ≤ 0
theorem OrdTo.start (l : List ByteArray) : OrdTo l 1 := fun j a b h _ _ => absurd h (by omega)
theorem OrdTo.step {l : List ByteArray} {m : Nat} {x y : ByteArray} (h : OrdTo l m) (hm : 1 ≤ m) (hx : l[m - 1]? = some x) (hy : l[m]? = some y) (hc : cbL x y ≤ 0) : OrdTo l (m + 1) := by
  intro j a b hj ha hb
  rcases Nat.lt_or_eq_of_le (show j + 1 ≤ m by omega) with h1 | h1
  · exact h j a b h1 ha hb
  · obtain rfl : j = m - 1 := by omega
    rw [hx] at ha
    rw [h1, hy] at hb
    injection ha with ha
    injection hb with hb
    subst ha hb; exact hc
theorem OrdTo.done {l : List ByteArray} {m : Nat} (h : OrdTo l m) (hm : l.length ≤ m) : ordB l = true :=
  (ordB_iff l).2 fun i a b ha hb => h i a b (by have := (List.getElem?_eq_some_iff.1 hb).1; omega) ha hb
theorem ordB_break {l : List ByteArray} {m : Nat} {x y : ByteArray} (hm : 1 ≤ m) (hx : l[m - 1]? = some x) (hy : l[m]? = some y) (hc : 0 < cbL x y) : ordB l = false := by
  cases e : ordB l
  · rfl
  · have := (ordB_iff l).1 e (m - 1) x y hx (by rw [show m - 1 + 1 = m by omega]; exact hy)
    omega
def Drew (w wr : World) : Prop := ∃ m, wr = w.drewN m
theorem Drew.refl (w : World) : Drew w w := ⟨0, rfl⟩
theorem Drew.drewN {w wr : World} (h : Drew w wr) (n : Nat) : Drew w (wr.drewN n) := by
  obtain ⟨m, rfl⟩ := h
  exact ⟨m + n, World.drewN_drewN _ _ _⟩
theorem Drew.trans {a b c : World} (h : Drew a b) (k : Drew b c) : Drew a c := by
  obtain ⟨m, rfl⟩ := k
  exact h.drewN m
theorem Drew.below {w wr : World} (h : Drew w wr) (N : Nat) : Below N w wr := by
  obtain ⟨m, rfl⟩ := h
  exact below_drewN (Below.refl _ _) _
/-- how far two lists have been compared, by their places -/
structure CrAt (tI tV tS : TypeId) (w0 wr : World) (H hd : Nat) (X Y : List ByteArray) (i k : Nat) (told : List ByteArray) (v : Value) : Prop where
  li : i ≤ X.length
  lk : k ≤ Y.length
  e : TellEnv tI tV tS wr H w0.heap.size hd v told
  b : Below w0.heap.size w0 wr
  c : commL hd X Y = told ++ commL hd (X.drop i) (Y.drop k)
theorem CrAt.drewN {tI tV tS : TypeId} {w0 wr : World} {H hd : Nat} {X Y : List ByteArray} {i k : Nat} {told : List ByteArray} {v : Value} (h : CrAt tI tV tS w0 wr H hd X Y i k told v) (n : Nat) : CrAt tI tV tS w0 (wr.drewN n) H hd X Y i k told v :=
  ⟨h.li, h.lk, h.e.drewN n, below_drewN h.b n, h.c⟩
end Go.Pw
namespace Go.Proofs.YtkikbejpgfhfoaaDoor
open Go.RowKit Go.Pw
set_option maxHeartbeats 1000000 in
theorem bytewiseQ_any (a b : ByteArray) (w : World) (ha : a.size ≤ 9223372036854775807) (hb : b.size ≤ 9223372036854775807) : Calls Tryd.prog 57 #[.string a, .string b] w fun e w' => e = .returned (.int .i64 (Lib.compareBytes a.data.toList b.data.toList)) ∧ ∃ m, w' = w.drewN m := by
  go_enter Tryd.func57, Tryd.ntmps57
  go_wp2_with fail
  go_loopw [8] (fun i wr => ∃ k : Nat, k ≤ a.size ∧ i = .int .i64 (k : Int) ∧ Hid (Lib.compareBytes a.data.toList b.data.toList = Lib.compareBytes (a.data.toList.drop k) (b.data.toList.drop k)) ∧ Drew w wr) (fun i _ => a.size - (intOf i).toNat)
  case atStart => exact ⟨0, by omega, rfl, hide (by simp), Drew.refl _⟩
  case round =>
    obtain ⟨k, hk, rfl, HK, hbw⟩ := hrel
    by_cases hlt : k < a.size
    · by_cases hlb : k < b.size
      · have HC := hide (cb_drop hlt hlb)
        obtain ⟨x, hx⟩ : ∃ x, a[k] = x := ⟨_, rfl⟩
        obtain ⟨y, hy⟩ : ∃ y, b[k] = y := ⟨_, rfl⟩
        rw [hx, hy] at HC
        rcases Nat.lt_trichotomy x.toNat y.toNat with h | h | h
        · have HV := hide (HK.out.trans (HC.out.trans (if_pos h)))
          have h1 : ((a[k].toNat : Int) != (b[k].toNat : Int)) = true := by rw [hx, hy]; simp; omega
          have h2 : decide (a[k].toNat < b[k].toNat) = true := by rw [hx, hy]; simpa using h
          clear hx hy h
          go_wp2_with fail
          go_quiet (fail)
          go_wp2_with fail
          go_quiet (fail)
          go_wp2_with fail
          go_ret
          exact ⟨by rw [HV.out]; rfl, (hbw.drewN _).drewN _⟩
        · have HV := hide (HK.out.trans (HC.out.trans ((if_neg (by omega)).trans (if_neg (by omega)))))
          have h1 : ((a[k].toNat : Int) != (b[k].toNat : Int)) = false := by rw [hx, hy]; simp; omega
          clear hx hy h
          go_wp2_with fail
          go_quiet (fail)
          go_wp2_with fail
          go_roundw
          case rel => exact ⟨k + 1, by omega, by go_num, HV, hbw.drewN _⟩
          case measure => simp [intOf]; omega
        · have HV := hide (HK.out.trans (HC.out.trans ((if_neg (by omega)).trans (if_pos h))))
          have h1 : ((a[k].toNat : Int) != (b[k].toNat : Int)) = true := by rw [hx, hy]; simp; omega
          have h2 : decide (a[k].toNat < b[k].toNat) = false := by rw [hx, hy]; simp; omega
          clear hx hy h
          go_wp2_with fail
          go_quiet (fail)
          go_wp2_with fail
          go_quiet (fail)
          go_wp2_with fail
          go_ret
          exact ⟨by rw [HV.out]; rfl, (hbw.drewN _).drewN _⟩
      · have HV := hide (HK.out.trans (cb_long hlt (by omega)))
        have hge : b.size ≤ k := by omega
        go_wp2_with fail
        go_ret
        exact ⟨by rw [HV.out]; rfl, hbw⟩
    · obtain rfl : k = a.size := by omega
      by_cases hs : a.size < b.size
      · have HV := hide (HK.out.trans (cb_short hs))
        go_wp2_with fail
        go_ret
        exact ⟨by rw [HV.out]; rfl, hbw⟩
      · have HV := hide (HK.out.trans (cb_even (by omega)))
        go_wp2_with fail
        go_ret
        exact ⟨by rw [HV.out]; rfl, hbw⟩
set_option maxHeartbeats 4000000 in
set_option maxRecDepth 100000 in
theorem compared_core (x y : Value) (X Y R : List ByteArray) (G : Bool) (hd : Nat) (w : World) (HG0 : Hid (G = (ordB X && ordB Y))) (HRT : Hid (G = true → R = commL hd X Y)) (HRF : Hid (G = false → R = [])) (hh : hd ≤ 7) (hx : Strs w x X) (hy : Strs w y Y) (lX : X.length ≤ 4096) (lY : Y.length ≤ 4096) (zX : ∀ s ∈ X, s.size ≤ 65536) (zY : ∀ s ∈ Y, s.size ≤ 65536) :
    Calls Tryd.prog 34 #[x, y, .int .i64 (hd : Int)] w fun e w' => ∃ v, e = .returned (.tuple #[v, .bool G]) ∧ Strs w' v R ∧ Below w.heap.size w w' := by
  have HX := hide hx
  have HY := hide hy
  have HZX := hide zX
  have HZY := hide zY
  obtain ⟨⟨_, A, ca, rfl, hca, hma, hxa⟩, _⟩ := hx
  obtain ⟨⟨_, B, cb, rfl, hcb, hmb, hxb⟩, _⟩ := hy
  unfold maxLen at hma hmb
  have HXA := hide hxa
  have HXB := hide hxb
  clear hxa hxb zX zY
  obtain ⟨w1, hw1⟩ : ∃ w1, w.alloc (.cells #[.int .i64 (hd : Int)] 3) = w1 := ⟨_, rfl⟩
  have hB1 : Below w.heap.size w w1 := by rw [← hw1]; exact (Below.refl w.heap.size w).alloc (Nat.le_refl _) _
  have hz1 : w1.heap.size = w.heap.size + 1 := by rw [← hw1]; simp
  have HH1 : Hid (w1.heap[w.heap.size]? = some (.cells #[.int .i64 (hd : Int)] 3 (0, 0))) := hide (by rw [← hw1]; exact heap_alloc_new _ _)
  go_enter Tryd.func34, Tryd.ntmps34
  go_wp2_with fail
  go_loopw [20] (fun c wr => ∃ k : Nat, k ≤ 2 ∧ c = .int .i64 (k : Int) ∧ Hid (1 ≤ k → ordB X = true) ∧ Hid (2 ≤ k → ordB Y = true) ∧ Drew (w1.alloc (.cells #[.slice A X.length ca, .slice B Y.length cb] 40)) wr) (fun c _ => 2 - (intOf c).toNat)
  case atStart => exact ⟨0, by omega, rfl, hide (fun h => absurd h (by omega)), hide (fun h => absurd h (by omega)), Drew.refl _⟩
  case round =>
    obtain ⟨k, hk, rfl, H1, H2, hdr⟩ := hrel
    obtain ⟨w2, hw2⟩ : ∃ w2, w2 = wr := ⟨_, rfl⟩
    subst hw2
    have hbw : Below w.heap.size w w2 := hB1.trans (((Below.refl w.heap.size w1).alloc (by omega) _).trans (hdr.below _))
    have hcl : ∀ j, w2.cell? ⟨w.heap.size + 1, j, none⟩ = (w1.alloc (.cells #[.slice A X.length ca, .slice B Y.length cb] 40)).cell? ⟨w.heap.size + 1, j, none⟩ := fun j => by
      obtain ⟨m, rfl⟩ := hdr; rfl
    have hDR := hide hdr
    clear hdr
    by_cases hk2 : k < 2
    · obtain ⟨C, cc, L, hc, hcc, hcm, hxl, hL, HZL, hLl⟩ : ∃ (C : Option Addr) (cc : Nat) (L : List ByteArray), w2.cell? ⟨w.heap.size + 1, k, none⟩ = some (.slice C L.length cc) ∧ L.length ≤ cc ∧ cc ≤ 9223372036854775807 ∧
          Hid (0 < L.length → ∃ b o, C = some ⟨b, o, none⟩ ∧ b < w.heap.size ∧ ∀ (j : Nat) (u : Value), (L.map Value.string)[j]? = some u → w.cell? ⟨b, o + j, none⟩ = some u) ∧ (k = 0 ∧ L = X ∨ k = 1 ∧ L = Y) ∧ Hid (∀ s ∈ L, s.size ≤ 65536) ∧ L.length ≤ 4096 := by
        rcases (by omega : k = 0 ∨ k = 1) with rfl | rfl
        · refine ⟨A, ca, X, ?_, hca, hma, HXA, .inl ⟨rfl, rfl⟩, HZX, lX⟩
          rw [hcl, ← hz1, World.cell?_alloc_new]; rfl
        · refine ⟨B, cb, Y, ?_, hcb, hmb, HXB, .inr ⟨rfl, rfl⟩, HZY, lY⟩
          rw [hcl, ← hz1, World.cell?_alloc_new]; rfl
      have HBAD : Hid (ordB L = false → G = false) := hide (by
        rw [HG0.out]
        rcases hL with ⟨_, rfl⟩ | ⟨_, rfl⟩
        · intro h; rw [h]; rfl
        · intro h; rw [h]; simp)
      have HG1 : Hid (ordB L = true → 1 ≤ k + 1 → ordB X = true) := hide (by
        rcases hL with ⟨rfl, rfl⟩ | ⟨rfl, rfl⟩
        · intro h _; exact h
        · intro _ _; exact H1.out (by omega))
      have HG2 : Hid (ordB L = true → 2 ≤ k + 1 → ordB Y = true) := hide (by
        rcases hL with ⟨rfl, rfl⟩ | ⟨rfl, rfl⟩
        · intro _ h; exact absurd h (by omega)
        · intro h _; exact h)
      clear hL hcl
      have HBW := hide hbw
      clear hbw
      have hll : L.length ≤ 4096 := hLl
      have hk3 : (k : Int) < 2 := by omega
      go_wp2_with fail
      go_loopw [10] (fun i wr2 => ∃ m : Nat, 1 ≤ m ∧ (m ≤ L.length ∨ m = 1) ∧ i = .int .i64 (m : Int) ∧ Hid (OrdTo L m) ∧ Drew w2 wr2) (fun i _ => L.length - (intOf i).toNat)
      case atStart => exact ⟨1, by omega, .inr rfl, rfl, hide (OrdTo.start L), Drew.refl _⟩
      case round =>
        obtain ⟨m, hm1, hm2, rfl, HO, hd2⟩ := hrel
        by_cases hlt : m < L.length
        · obtain ⟨bb, o, rfl, hbb, hj⟩ := hxl.out (by omega)
          have hb3 := HBW.out.trans (hd2.below w.heap.size)
          have q1 : L[m - 1]? = some L[m - 1] := List.getElem?_eq_getElem (by omega)
          have q2 : L[m]? = some L[m] := List.getElem?_eq_getElem (by omega)
          have c1 : wr.cell? ⟨bb, o + (m - 1), none⟩ = some (.string L[m - 1]) := (hb3.cell (p := ⟨bb, o + (m - 1), none⟩) hbb).trans (hj (m - 1) _ (by rw [List.getElem?_map, q1]; rfl))
          have c2 : wr.cell? ⟨bb, o + m, none⟩ = some (.string L[m]) := (hb3.cell (p := ⟨bb, o + m, none⟩) hbb).trans (hj m _ (by rw [List.getElem?_map, q2]; rfl))
          have z1 := HZL.out _ (List.getElem_mem (show m - 1 < L.length by omega))
          have z2 := HZL.out _ (List.getElem_mem hlt)
          have HST := hide (fun h => HO.out.step hm1 q1 q2 h)
          have HBR := hide (fun h => ordB_break hm1 q1 q2 h)
          obtain ⟨s, hs⟩ : ∃ s, L[m - 1] = s := ⟨_, rfl⟩
          obtain ⟨t, ht⟩ : ∃ t, L[m] = t := ⟨_, rfl⟩
          rw [hs] at c1 z1 HST HBR
          rw [ht] at c2 z2 HST HBR
          clear hj q1 q2 hs ht hb3
          have hw1 : IntKind.i64.wrap ((m : Int) - 1) = (m : Int) - 1 := IntWalk.i64_in _ (by omega)
          have hw2 : ((m : Int) - 1).toNat = m - 1 := by omega
          have hw3 : (0 : Int) ≤ (m : Int) - 1 := by omega
          have hw4 : (m : Int) - 1 < (L.length : Int) := by omega
          have hw6 : (1 : Int) ≤ (m : Int) := by omega
          have hw7 : (m : Int) < (L.length : Int) := by omega
          by_cases hcb2 : cbL s t ≤ 0
          · have hn := HST.out hcb2
            have hd6 : ¬ 0 < Lib.compareBytes s.data.toList t.data.toList := by unfold cbL at hcb2; omega
            have hd7 : decide (0 < Lib.compareBytes s.data.toList t.data.toList) = false := by simpa using hd6
            have HN := hide hn
            clear hn HST HBR
            go_wp2_with fail
            go_quiet ((go_at_call 57; exact Calls.quiet_of (bytewiseQ_any s t _ (by omega) (by omega))))
            go_wp2_with fail
            go_roundw
            case rel => exact ⟨m + 1, by omega, by omega, by go_num, HN, hd2.drewN _⟩
            case measure => simp [intOf]; omega
          · have hn := HBAD.out (HBR.out (by omega))
            have hd6 : 0 < Lib.compareBytes s.data.toList t.data.toList := by unfold cbL at hcb2; omega
            have hd7 : decide (0 < Lib.compareBytes s.data.toList t.data.toList) = true := by simpa using hd6
            have HN := hide hn
            clear hn HST HBR
            go_wp2_with fail
            go_quiet ((go_at_call 57; exact Calls.quiet_of (bytewiseQ_any s t _ (by omega) (by omega))))
            go_wp2_with fail
            go_ret2
            exact ⟨_, by rw [HN.out]; rfl, by rw [HRF.out HN.out]; exact ⟨Rd.nil _ _, by simp⟩, below_drewN (HBW.out.trans (hd2.below _)) _⟩
        · have HG := hide (HO.out.done (by omega))
          have HD2 := hide (hDR.out.trans hd2)
          go_wp2_with fail
          go_roundw
          case rel => exact ⟨k + 1, by omega, by go_num, hide (HG1.out HG.out), hide (HG2.out HG.out), HD2.out⟩
          case measure => simp [intOf]; omega
    · obtain rfl : k = 2 := by omega
      have hoX := H1.out (by omega)
      have hoY := H2.out (by omega)
      obtain rfl : G = true := by rw [HG0.out, hoX, hoY]; rfl
      have HR := hide (HRT.out rfl)
      have hzw := hbw.size
      have hz2 : w.heap.size < w2.heap.size := by
        obtain ⟨m, rfl⟩ := hDR.out
        simp; omega
      have hHb : w2.heap[w.heap.size]? = some (.cells #[.int .i64 (hd : Int)] 3 (0, 0)) := by
        obtain ⟨m, rfl⟩ := hDR.out
        exact (Below.heap_alloc _ _ _ (by omega)).trans HH1.out
      have HT : Hid (TellEnv 3 40 9 (w2.alloc (.cells #[.slice none 0 0] 40)) w.heap.size w2.heap.size hd (.slice none 0 0) []) :=
        hide ⟨hz2, by simp, (Below.heap_alloc _ _ _ hz2).trans hHb, heap_alloc_new _ _, World.ownsRow_nil _ _ _ _⟩
      have HBW := hide hbw
      clear hcl hbw hHb H1 H2 hoX hoY
      go_wp2_with fail
      go_loopw [13, 14] (fun p q wr => ∃ (i k : Nat) (told : List ByteArray) (v : Value), p = .int .i64 (i : Int) ∧ q = .int .i64 (k : Int) ∧ CrAt 3 40 9 w2 wr w.heap.size hd X Y i k told v) (fun p q _ => (X.length - (intOf p).toNat) + (Y.length - (intOf q).toNat))
      case atStart => exact ⟨0, 0, [], _, rfl, rfl, Nat.zero_le _, Nat.zero_le _, HT.out, (Below.refl _ _).alloc (Nat.le_refl _) _, rfl⟩
      case round =>
        obtain ⟨i, k, told, v, rfl, rfl, hat⟩ := hrel
        obtain ⟨hi, hk, he, hb, hc⟩ := hat
        have htl := congrArg List.length hc
        have hck := commL_ok (hide := hd) HZX.out HZY.out
        rw [List.length_append] at htl
        have htn : told.length ≤ 8192 := by omega
        have HE := hide he
        have HB := hide hb
        have hbb2 : Below w.heap.size w wr := HBW.out.trans (hb.mono (by omega))
        have hX : ∀ (hlt : i < X.length), ∃ b o, A = some ⟨b, o, none⟩ ∧ wr.cell? ⟨b, o + i, none⟩ = some (.string X[i]) := fun hlt => by
          obtain ⟨b, o, e, hbl, hj⟩ := HXA.out (by omega)
          exact ⟨b, o, e, (hbb2.cell (p := ⟨b, o + i, none⟩) hbl).trans (hj i _ (by rw [List.getElem?_map, List.getElem?_eq_getElem hlt]; rfl))⟩
        have hY : ∀ (hlt : k < Y.length), ∃ b o, B = some ⟨b, o, none⟩ ∧ wr.cell? ⟨b, o + k, none⟩ = some (.string Y[k]) := fun hlt => by
          obtain ⟨b, o, e, hbl, hj⟩ := HXB.out (by omega)
          exact ⟨b, o, e, (hbb2.cell (p := ⟨b, o + k, none⟩) hbl).trans (hj k _ (by rw [List.getElem?_map, List.getElem?_eq_getElem hlt]; rfl))⟩
        have HBB2 := hide hbb2
        clear hbb2
        by_cases hiX : i < X.length
        · obtain ⟨b1, o1, rfl, c1⟩ := hX hiX
          have z1 := HZX.out _ (List.getElem_mem hiX)
          have e1 := List.drop_eq_getElem_cons hiX
          obtain ⟨s, hs⟩ : ∃ s, X[i] = s := ⟨_, rfl⟩
          rw [hs] at c1 z1 e1
          have hne1 : ((i : Int) == (X.length : Int)) = false := by simp only [beq_eq_false_iff_ne, ne_eq]; omega
          have hd1 : (i : Int) < (X.length : Int) := by omega
          clear hs
          by_cases hkY : k < Y.length
          · obtain ⟨b2, o2, rfl, c2⟩ := hY hkY
            have z2 := HZY.out _ (List.getElem_mem hkY)
            have e2 := List.drop_eq_getElem_cons hkY
            obtain ⟨t, ht⟩ : ∃ t, Y[k] = t := ⟨_, rfl⟩
            rw [ht] at c2 z2 e2
            have hne2 : ((k : Int) == (Y.length : Int)) = false := by simp only [beq_eq_false_iff_ne, ne_eq]; omega
            have hd2 : (k : Int) < (Y.length : Int) := by omega
            clear ht
            have hf := cbL_flip s t
            have hu : cbL s t = Lib.compareBytes s.data.toList t.data.toList := rfl
            rcases Int.lt_trichotomy (cbL s t) 0 with hlt | heq | hgt
            case' inl =>
              have HN : Hid (commL hd X Y = (told ++ tellL hd 0 s) ++ commL hd (X.drop (i + 1)) (Y.drop k)) := hide (by rw [hc, e1, e2, commL_lt _ _ _ _ _ hlt, List.append_assoc])
              have p1 : Lib.compareBytes s.data.toList t.data.toList < 0 := by omega
              have p2 : decide (Lib.compareBytes s.data.toList t.data.toList < 0) = true := by simpa using p1
            case' inr.inl =>
              have HN : Hid (commL hd X Y = (told ++ tellL hd 2 s) ++ commL hd (X.drop (i + 1)) (Y.drop (k + 1))) := hide (by rw [hc, e1, e2, commL_eq _ _ _ _ _ heq, List.append_assoc])
              have p1 : Lib.compareBytes s.data.toList t.data.toList = 0 := by omega
            case' inr.inr =>
              have HN : Hid (commL hd X Y = (told ++ tellL hd 1 t) ++ commL hd (X.drop i) (Y.drop (k + 1))) := hide (by rw [hc, e1, e2, commL_gt _ _ _ _ _ hgt, List.append_assoc])
              have p1 : ¬ Lib.compareBytes s.data.toList t.data.toList < 0 := by omega
              have p2 : decide (Lib.compareBytes s.data.toList t.data.toList < 0) = false := by simpa using p1
              have p3 : 0 < Lib.compareBytes s.data.toList t.data.toList := by omega
              have p4 : decide (0 < Lib.compareBytes s.data.toList t.data.toList) = true := by simpa using p3
            all_goals
              have HBQ := hide (fun W => bytewiseQ_any s t W (by omega) (by omega))
              clear hc e1 e2 hX hY he hb htl hck hf
            case' inr.inl =>
              simp only [p1] at HBQ
            all_goals
              clear hu
            case inr.inr =>
              go_wp2_with fail
              go_quiet ((go_at_call 57; exact Calls.quiet_of (HBQ.out _)))
              go_wp2_with fail
              refine (tellR_any w.heap.size w2.heap.size hd 1 t v told _ (HE.out.drewN _) (by omega) hh (by omega) (by omega)).mono ?_
              rintro e w6 ⟨rfl, ⟨v6, he6⟩, hb6⟩
              have HN6 : Hid (CrAt 3 40 9 w2 w6 w.heap.size hd X Y (i) (k + 1) (told ++ tellL hd 1 t) v6) := hide ⟨by omega, by omega, he6, ((below_drewN HB.out _).trans hb6), HN.out⟩
              clear he6 hb6
              go_wp2_with fail
              go_roundw
              case rel => exact ⟨i, k + 1, _, _, by go_num, by go_num, HN6.out⟩
              case measure => simp [intOf]; omega
            case inr.inl =>
              go_wp2_with fail
              go_quiet ((go_at_call 57; exact Calls.quiet_of (HBQ.out _)))
              go_wp2_with fail
              refine (tellR_any w.heap.size w2.heap.size hd 2 s v told _ (HE.out.drewN _) (by omega) hh (by omega) (by omega)).mono ?_
              rintro e w6 ⟨rfl, ⟨v6, he6⟩, hb6⟩
              have HN6 : Hid (CrAt 3 40 9 w2 w6 w.heap.size hd X Y (i + 1) (k + 1) (told ++ tellL hd 2 s) v6) := hide ⟨by omega, by omega, he6, ((below_drewN HB.out _).trans hb6), HN.out⟩
              clear he6 hb6
              go_wp2_with fail
              go_roundw
              case rel => exact ⟨i + 1, k + 1, _, _, by go_num, by go_num, HN6.out⟩
              case measure => simp [intOf]; omega
            case inl =>
              go_wp2_with fail
              go_quiet ((go_at_call 57; exact Calls.quiet_of (HBQ.out _)))
              go_wp2_with fail
              refine (tellR_any w.heap.size w2.heap.size hd 0 s v told _ (HE.out.drewN _) (by omega) hh (by omega) (by omega)).mono ?_
              rintro e w6 ⟨rfl, ⟨v6, he6⟩, hb6⟩
              have HN6 : Hid (CrAt 3 40 9 w2 w6 w.heap.size hd X Y (i + 1) (k) (told ++ tellL hd 0 s) v6) := hide ⟨by omega, by omega, he6, ((below_drewN HB.out _).trans hb6), HN.out⟩
              clear he6 hb6
              go_wp2_with fail
              go_roundw
              case rel => exact ⟨i + 1, k, _, _, by go_num, by go_num, HN6.out⟩
              case measure => simp [intOf]; omega
          · have hke : k = Y.length := by omega
            have hne2 : ((k : Int) == (Y.length : Int)) = true := by simp only [beq_iff_eq]; omega
            have e2 : Y.drop k = [] := List.drop_of_length_le (by omega)
            have HN : Hid (commL hd X Y = (told ++ tellL hd 0 s) ++ commL hd (X.drop (i + 1)) (Y.drop k)) := hide (by rw [hc, e1, e2, commL_a, List.append_assoc])
            clear hc e1 e2 hX hY he hb htl hck hke
            go_wp2_with fail
            refine (tellR_any w.heap.size w2.heap.size hd 0 s v told wr HE.out (by omega) hh (by omega) (by omega)).mono ?_
            rintro e w6 ⟨rfl, ⟨v6, he6⟩, hb6⟩
            have HN6 : Hid (CrAt 3 40 9 w2 w6 w.heap.size hd X Y (i + 1) (k) (told ++ tellL hd 0 s) v6) := hide ⟨by omega, by omega, he6, (HB.out.trans hb6), HN.out⟩
            clear he6 hb6
            go_wp2_with fail
            go_roundw
            case rel => exact ⟨i + 1, k, _, _, by go_num, by go_num, HN6.out⟩
            case measure => simp [intOf]; omega
        · have hie : i = X.length := by omega
          have hne1 : ((i : Int) == (X.length : Int)) = true := by simp only [beq_iff_eq]; omega
          have e1 : X.drop i = [] := List.drop_of_length_le (by omega)
          by_cases hkY : k < Y.length
          · obtain ⟨b2, o2, rfl, c2⟩ := hY hkY
            have z2 := HZY.out _ (List.getElem_mem hkY)
            have e2 := List.drop_eq_getElem_cons hkY
            obtain ⟨t, ht⟩ : ∃ t, Y[k] = t := ⟨_, rfl⟩
            rw [ht] at c2 z2 e2
            have hd2 : (k : Int) < (Y.length : Int) := by omega
            clear ht
            have HN : Hid (commL hd X Y = (told ++ tellL hd 1 t) ++ commL hd (X.drop i) (Y.drop (k + 1))) := hide (by rw [hc, e1, e2, commL_b, List.append_assoc])
            clear hc e1 e2 hX hY he hb htl hck hie
            go_wp2_with fail
            refine (tellR_any w.heap.size w2.heap.size hd 1 t v told wr HE.out (by omega) hh (by omega) (by omega)).mono ?_
            rintro e w6 ⟨rfl, ⟨v6, he6⟩, hb6⟩
            have HN6 : Hid (CrAt 3 40 9 w2 w6 w.heap.size hd X Y (i) (k + 1) (told ++ tellL hd 1 t) v6) := hide ⟨by omega, by omega, he6, (HB.out.trans hb6), HN.out⟩
            clear he6 hb6
            go_wp2_with fail
            go_roundw
            case rel => exact ⟨i, k + 1, _, _, by go_num, by go_num, HN6.out⟩
            case measure => simp [intOf]; omega
          · have e2 : Y.drop k = [] := List.drop_of_length_le (by omega)
            have hts : ∀ z ∈ told, z.size ≤ maxLen := fun z hz => by have := hck.2 z (by rw [hc]; exact List.mem_append_left _ hz); unfold maxLen; omega
            have HF : Hid (commL hd X Y = told) := hide (by rw [hc, e1, e2, commL_nil, List.append_nil])
            have cO := cell_of_one he.bo
            have HS := hide (he.own.strs hts)
            clear hc e1 e2 hX hY he hb htl hck hts
            go_wp2_with fail
            go_ret2
            exact ⟨v, rfl, by rw [HR.out, HF.out]; exact HS.out, HBB2.out⟩
end Go.Proofs.YtkikbejpgfhfoaaDoor
