/- slices.SortStableFunc of a slice of ints, of any length: exchanges, rotations. -/
import Derived.Test.YtfjbdbdjhkmifaaISort
import Derived.Test.YtfjbdbdjhkmifaaStabQ
set_option linter.unusedVariables false
set_option linter.unusedSimpArgs false
namespace Go.Proofs.Ytfjbdbdjhkmifaa
open Go.RowKit Go.Pw

set_option maxHeartbeats 2000000 in
set_option maxRecDepth 100000 in
theorem swapRangeI_any (fv : Value) (N B o cap len a b n : Nat) (ai bi ni : Int) (l : List Int) (w : World) (ea : ai = (a : Int)) (eb : bi = (b : Int)) (en : ni = (n : Int)) (hB : B < N) (hN : N ≤ w.heap.size) (hrow : RowI w B o l) (hlen : l.length = len) (hab : a + n ≤ b) (hle : b + n ≤ len) (hcap : len ≤ cap) (hc2 : len ≤ 140737488355328) :
    Calls Try.prog 110 #[.slice (some ⟨B, o, none⟩) len cap, .int .i64 ai, .int .i64 bi, .int .i64 ni, fv] w
      fun e w' => e = .returned (.tuple #[]) ∧ RowI w' B o (swpN l a b n) ∧ But N B w w' := by
  subst ea eb en
  have HL := hide hlen
  clear hlen
  go_enter Try.func110, Try.ntmps110
  go_wp2_with fail
  go_loopw [10] (fun i wr => ∃ k : Nat, k ≤ n ∧ i = .int .i64 (k : Int) ∧ RowI wr B o (swpN l a b k) ∧ But N B w wr) (fun i _ => n - (intOf i).toNat)
  case atStart => exact ⟨0, Nat.zero_le _, rfl, hrow, But.refl _ _ _⟩
  case round =>
    obtain ⟨k, hk, rfl, hrk, hbk⟩ := hrel
    by_cases hlt : k < n
    · obtain ⟨lk, hlk⟩ : ∃ lk, swpN l a b k = lk := ⟨_, rfl⟩
      have hll : lk.length = len := by rw [← hlk, swpN_length]; exact HL.out
      have i1 : a + k < lk.length := by omega
      have i2 : b + k < lk.length := by omega
      have hN1 : swpN l a b (k + 1) = (lk.set (a + k) lk[b + k]).set (b + k) lk[a + k] := by rw [swpN, hlk, swapL_eq _ _ _ i1 i2]
      rw [hlk] at hrk
      obtain ⟨c1, f1⟩ := hrk.2 (a + k) _ (List.getElem?_eq_getElem i1)
      obtain ⟨c2, f2⟩ := hrk.2 (b + k) _ (List.getElem?_eq_getElem i2)
      obtain ⟨x, hx⟩ : ∃ x, lk[a + k] = x := ⟨_, rfl⟩
      obtain ⟨y, hy⟩ : ∃ y, lk[b + k] = y := ⟨_, rfl⟩
      rw [hx] at c1 hN1
      rw [hy] at c2 hN1
      have hr3 := (hrk.set y i1).set (i := b + k) x (by simpa using i2)
      rw [← hN1] at hr3
      have hlB := hrk.1
      clear hx hy hlk hN1 hrk i1 i2 hll
      have hw1 : IntKind.i64.wrap ((a : Int) + (k : Int)) = (a : Int) + (k : Int) := IntWalk.i64_in _ (by omega)
      have hw2 : ((a : Int) + (k : Int)).toNat = a + k := by omega
      have hw3 : (0 : Int) ≤ (a : Int) + (k : Int) := by omega
      have hw4 : (a : Int) + (k : Int) < (len : Int) := by omega
      have hv1 : IntKind.i64.wrap ((b : Int) + (k : Int)) = (b : Int) + (k : Int) := IntWalk.i64_in _ (by omega)
      have hv2 : ((b : Int) + (k : Int)).toNat = b + k := by omega
      have hv3 : (0 : Int) ≤ (b : Int) + (k : Int) := by omega
      have hv4 : (b : Int) + (k : Int) < (len : Int) := by omega
      have hn1 : a + k ≠ b + k := by omega
      go_wp2_with fail
      go_region
      all_goals
        clear hw1 hw2 hv1 hv2
        go_wp2_with fail
        go_roundw
        case rel => exact ⟨k + 1, by omega, by go_num, by first | exact hr3 | exact RowI.drew hr3, ((hbk.setCell _ _).setCell _ _).drew⟩
        case measure => simp [intOf]; omega
    · obtain rfl : k = n := by omega
      go_wp2_with fail
      go_end0
      exact ⟨rfl, hrk, hbk⟩

/-- how far a rotation has come -/
structure RotAtI (w0 wr : World) (N B o len m : Nat) (tgt P X Y T : List Int) : Prop where
  row : RowI wr B o (P ++ (X ++ (Y ++ T)))
  len : (P ++ (X ++ (Y ++ T))).length = len
  tgt : P ++ (Y ++ (X ++ T)) = tgt
  m : P.length + X.length = m
  x : 0 < X.length
  y : 0 < Y.length
  but : But N B w0 wr
theorem RotAtI.more {w0 wr w' : World} {N B o len m : Nat} {tgt P X Y T : List Int} (h : RotAtI w0 wr N B o len m tgt P X Y T) (hij : Y.length < X.length) (hb : But N B wr w')
    (hrow : RowI w' B o (swpN (P ++ (X ++ (Y ++ T))) P.length m Y.length)) : RotAtI w0 w' N B o len m tgt (P ++ Y) (X.drop Y.length) (X.take Y.length) T := by
  have e := swpN_all P (X.take Y.length) (X.drop Y.length) Y T (by rw [List.length_take]; omega)
  have l1 : (X.take Y.length).length = Y.length := by rw [List.length_take]; omega
  have l2 : (X.drop Y.length).length = X.length - Y.length := List.length_drop ..
  have e0 : X.take Y.length ++ (X.drop Y.length ++ (Y ++ T)) = X ++ (Y ++ T) := by rw [← List.append_assoc, List.take_append_drop]
  rw [e0, l1, l2, show P.length + Y.length + (X.length - Y.length) = m by have := h.m; omega] at e
  rw [e] at hrow
  have hl := h.len
  simp only [List.length_append] at hl
  refine ⟨by rw [List.append_assoc]; exact hrow, by simp only [List.length_append, l1, l2]; omega, ?_, by simp only [List.length_append, l2]; have := h.m; omega, by omega, by have := h.y; omega, h.but.trans hb⟩
  rw [← h.tgt, List.append_assoc]
  congr 2
  rw [← List.append_assoc, List.take_append_drop]
theorem RotAtI.less {w0 wr w' : World} {N B o len m : Nat} {tgt P X Y T : List Int} (h : RotAtI w0 wr N B o len m tgt P X Y T) (hij : X.length < Y.length) (hb : But N B wr w')
    (hrow : RowI w' B o (swpN (P ++ (X ++ (Y ++ T))) P.length (m + Y.length - X.length) X.length)) : RotAtI w0 w' N B o len m tgt P (Y.drop (Y.length - X.length)) (Y.take (Y.length - X.length)) (X ++ T) := by
  have l1 : (Y.take (Y.length - X.length)).length = Y.length - X.length := by rw [List.length_take]; omega
  have l2 : (Y.drop (Y.length - X.length)).length = X.length := by rw [List.length_drop]; omega
  have e := swpN_all P X (Y.take (Y.length - X.length)) (Y.drop (Y.length - X.length)) T l2.symm
  have e0 : Y.take (Y.length - X.length) ++ (Y.drop (Y.length - X.length) ++ T) = Y ++ T := by rw [← List.append_assoc, List.take_append_drop]
  rw [e0, l1, show P.length + X.length + (Y.length - X.length) = m + Y.length - X.length by have := h.m; omega] at e
  rw [e] at hrow
  have hl := h.len
  simp only [List.length_append] at hl
  refine ⟨hrow, by simp only [List.length_append, l1, l2]; omega, ?_, by rw [l2]; exact h.m, by rw [l2]; exact h.x, by omega, h.but.trans hb⟩
  rw [← h.tgt]
  congr 1
  rw [← List.append_assoc, List.take_append_drop]
theorem RotAtI.same {w0 wr w' : World} {N B o len m : Nat} {tgt P X Y T : List Int} (h : RotAtI w0 wr N B o len m tgt P X Y T) (hij : X.length = Y.length) (hb : But N B wr w')
    (hrow : RowI w' B o (swpN (P ++ (X ++ (Y ++ T))) P.length m X.length)) : RowI w' B o tgt ∧ But N B w0 w' := by
  have e := swpN_all P X [] Y T hij
  rw [List.nil_append, List.nil_append, List.length_nil, Nat.add_zero, h.m, h.tgt] at e
  rw [e] at hrow
  exact ⟨hrow, h.but.trans hb⟩
set_option maxHeartbeats 2000000 in
set_option maxRecDepth 100000 in
theorem rotateI_any (fv : Value) (N B o cap len : Nat) (ai mi bi : Int) (P X Y T : List Int) (w : World) (ea : ai = (P.length : Int)) (em : mi = ((P.length + X.length : Nat) : Int)) (eb : bi = ((P.length + X.length + Y.length : Nat) : Int)) (hX : 0 < X.length) (hY : 0 < Y.length) (hB : B < N) (hN : N ≤ w.heap.size) (hrow : RowI w B o (P ++ (X ++ (Y ++ T)))) (hlen : (P ++ (X ++ (Y ++ T))).length = len) (hcap : len ≤ cap) (hc2 : len ≤ 140737488355328) :
    Calls Try.prog 106 #[.slice (some ⟨B, o, none⟩) len cap, .int .i64 ai, .int .i64 mi, .int .i64 bi, fv] w
      fun e w' => e = .returned (.tuple #[]) ∧ RowI w' B o (P ++ (Y ++ (X ++ T))) ∧ But N B w w' := by
  have hl2 : P.length + X.length + Y.length ≤ len := by rw [← hlen]; simp only [List.length_append]; omega
  obtain ⟨m, hm⟩ : ∃ m, P.length + X.length = m := ⟨_, rfl⟩
  have HR : Hid (RotAtI w w N B o len m (P ++ (Y ++ (X ++ T))) P X Y T) := hide ⟨hrow, hlen, rfl, hm, hX, hY, But.refl _ _ _⟩
  obtain ⟨tgt, ht⟩ : ∃ t, P ++ (Y ++ (X ++ T)) = t := ⟨_, rfl⟩
  rw [ht] at HR ⊢
  clear ht hlen hrow
  subst ea em eb
  have hw1 : ((P.length + X.length : Nat) : Int) - (P.length : Int) = (X.length : Int) := by omega
  have hw2 : ((P.length + X.length + Y.length : Nat) : Int) - ((P.length + X.length : Nat) : Int) = (Y.length : Int) := by omega
  rw [hm] at hw1 hw2 hl2 ⊢
  obtain ⟨bn, hbn⟩ : ∃ bn, m + Y.length = bn := ⟨_, rfl⟩
  rw [hbn] at hw2 hl2 ⊢
  clear hm
  go_enter Try.func106, Try.ntmps106
  go_wp2_with fail
  go_loopw [10, 11] (fun i j wr => ∃ P X Y T : List Int, i = .int .i64 (X.length : Int) ∧ j = .int .i64 (Y.length : Int) ∧ Hid (RotAtI w wr N B o len m tgt P X Y T)) (fun i j _ => (intOf i).toNat + (intOf j).toNat)
  case atStart => exact ⟨P, X, Y, T, by go_num, by go_num, HR⟩
  case round =>
    clear HR hw1 hw2 hbn
    obtain ⟨P2, X2, Y2, T2, rfl, rfl, HR⟩ := hrel
    have hm := HR.out.m
    have hx := HR.out.x
    have hy := HR.out.y
    have hl := HR.out.len
    simp only [List.length_append] at hl
    have hsz := HR.out.but.size
    by_cases hij : X2.length = Y2.length
    · have hne : ((X2.length : Int) != (Y2.length : Int)) = false := by simp [hij]
      have HS := hide (swapRangeI_any fv N B o cap len P2.length m Y2.length ((m : Int) - (Y2.length : Int)) (m : Int) (Y2.length : Int) _ wr (by omega) rfl rfl hB (by omega) HR.out.row HR.out.len (by omega) (by omega) hcap hc2)
      go_wp2_with fail
      refine HS.out.mono ?_
      rintro e w2 ⟨rfl, hr, hb⟩
      have HF := hide (HR.out.same hij hb (by rw [hij]; exact hr))
      clear hr hb
      go_wp2_with fail
      go_end0
      exact ⟨rfl, HF.out⟩
    · have hne : ((X2.length : Int) != (Y2.length : Int)) = true := by simp; omega
      by_cases hgt : Y2.length < X2.length
      · have hd : decide ((Y2.length : Int) < (X2.length : Int)) = true := by simpa using hgt
        have HS := hide (swapRangeI_any fv N B o cap len P2.length m Y2.length ((m : Int) - (X2.length : Int)) (m : Int) (Y2.length : Int) _ wr (by omega) rfl rfl hB (by omega) HR.out.row HR.out.len (by omega) (by omega) hcap hc2)
        go_wp2_with fail
        refine HS.out.mono ?_
        rintro e w2 ⟨rfl, hr, hb⟩
        have HF := hide (HR.out.more hgt hb hr)
        clear hr hb
        go_wp2_with fail
        go_roundw
        case rel => exact ⟨_, X2.drop Y2.length, X2.take Y2.length, _, by rw [List.length_drop]; go_num, by rw [List.length_take, Nat.min_eq_left (by omega)], HF⟩
        case measure => simp [intOf]; omega
      · have hlt : X2.length < Y2.length := by omega
        have hd : decide ((Y2.length : Int) < (X2.length : Int)) = false := by simp; omega
        have hd2 : ¬ ((Y2.length : Int) < (X2.length : Int)) := by omega
        have HS := hide (swapRangeI_any fv N B o cap len P2.length (m + Y2.length - X2.length) X2.length ((m : Int) - (X2.length : Int)) ((m : Int) + (Y2.length : Int) - (X2.length : Int)) (X2.length : Int) _ wr (by omega) (by omega) rfl hB (by omega) HR.out.row HR.out.len (by omega) (by omega) hcap hc2)
        go_wp2_with fail
        refine HS.out.mono ?_
        rintro e w2 ⟨rfl, hr, hb⟩
        have HF := hide (HR.out.less hlt hb hr)
        clear hr hb
        go_wp2_with fail
        go_roundw
        case rel => exact ⟨_, Y2.drop (Y2.length - X2.length), Y2.take (Y2.length - X2.length), _, by rw [List.length_drop]; go_num, by rw [List.length_take, Nat.min_eq_left (by omega)]; go_num, HF⟩
        case measure => simp [intOf]; omega
end Go.Proofs.Ytfjbdbdjhkmifaa
