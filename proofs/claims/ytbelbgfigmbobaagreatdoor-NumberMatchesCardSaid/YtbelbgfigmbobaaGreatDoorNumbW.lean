/- text.Number. -/
import Derived.Test.YtbelbgfigmbobaaGreatDoorNumbP
import Derived.Test.YtbelbgfigmbobaaGreatDoorFill
import Derived.Test.YtbelbgfigmbobaaGreatDoorKeys
import Derived.Test.YtbelbgfigmbobaaGreatDoorValid
import Derived.Test.YtbelbgfigmbobaaGreatDoorApp1
import Derived.Test.YtbelbgfigmbobaaGreatDoorItoa
set_option linter.unusedVariables false
set_option linter.unusedSimpArgs false
namespace Go.Pw
open Go.RowKit
/-- what is told of numbers, in memory -/
def NbIn (w : World) (b : Nat) (T : TypeId) (o : Nb) : Prop := w.heap[b]? = some (.cells #[.int .i64 o.start, .int .i64 o.step, .int .i64 o.width, .bool o.zeros, .bool o.empty, .string o.sep] T (0, 0))
theorem NbIn.lt {w : World} {b : Nat} {T : TypeId} {o : Nb} (h : NbIn w b T o) : b < w.heap.size := by
  rcases Nat.lt_or_ge b w.heap.size with h' | h'
  · exact h'
  · simp [NbIn, Array.getElem?_eq_none h'] at h
theorem NbIn.below {w w' : World} {b M : Nat} {T : TypeId} {o : Nb} (h : NbIn w b T o) (hb : Below M w w') (hM : b < M) : NbIn w' b T o := (hb.block b hM).trans h
theorem NbIn.cells {w : World} {b : Nat} {T : TypeId} {o : Nb} (h : NbIn w b T o) : w.cell? ⟨b, 0, none⟩ = some (.int .i64 o.start) ∧ w.cell? ⟨b, 1, none⟩ = some (.int .i64 o.step) ∧ w.cell? ⟨b, 2, none⟩ = some (.int .i64 o.width) ∧ w.cell? ⟨b, 3, none⟩ = some (.bool o.zeros) ∧ w.cell? ⟨b, 4, none⟩ = some (.bool o.empty) ∧ w.cell? ⟨b, 5, none⟩ = some (.string o.sep) := by
  refine ⟨?_, ?_, ?_, ?_, ?_, ?_⟩ <;> (rw [Lib.cell_of_heap h]; rfl)
def nbV (o : Nb) : Value := .agg #[.int .i64 o.start, .int .i64 o.step, .int .i64 o.width, .bool o.zeros, .bool o.empty, .string o.sep]
structure NEnv (T : TypeId) (bu : Nat) (o : Nb) (w W : World) : Prop where
  un : NbIn W bu T o
  bel : Below w.heap.size w W
theorem NEnv.next {T : TypeId} {bu M : Nat} {o : Nb} {w W V w' : World} (h : NEnv T bu o w W) (hb : Below M V w') (e1 : V.heap = W.heap) (e2 : V.os = W.os) (e3 : V.tape = W.tape) (e4 : V.output = W.output) (hM : W.heap.size ≤ M) : NEnv T bu o w w' :=
  ⟨(hb.block bu (Nat.lt_of_lt_of_le h.un.lt hM)).trans (by rw [e1]; exact h.un), below_next h.bel hb e1 e2 e3 e4 (Nat.le_trans h.bel.size hM)⟩
theorem NEnv.like {T : TypeId} {bu : Nat} {o : Nb} {w W V : World} (h : NEnv T bu o w W) (e1 : V.heap = W.heap) (e2 : V.os = W.os) (e3 : V.tape = W.tape) (e4 : V.output = W.output) : NEnv T bu o w V :=
  ⟨by unfold NbIn; rw [e1]; exact h.un, ⟨by rw [e2]; exact h.bel.os, by rw [e3]; exact h.bel.tape, by rw [e4]; exact h.bel.output, by rw [e1]; exact h.bel.size, fun k hk => by rw [e1]; exact h.bel.block k hk⟩⟩
def inR (lo hi x : Int) : Bool := decide (lo ≤ x) && decide (x ≤ hi)
def nbRange (o : Nb) : Bool := (inR (-1000000) 1000000 o.start && inR (-1000000) 1000000 o.step) && inR 0 1000 o.width
def nbNl (o : Nb) : Bool := decide (0 ≤ Lib.indexByte o.sep.data.toList 10)
def nbForm (o : Nb) : Bool := nbNl o || decide (1000 < o.sep.size)
def nbErr (o : Nb) (s : ByteArray) : Int := firstNZ [if nbRange o then 0 else 3, if nbForm o then 5 else 0, if bigB s then 2 else 0]
theorem nb_good {o : Nb} (h : nbRange o = true) (h2 : nbForm o = false) : o.good := by
  unfold nbRange inR at h
  unfold nbForm at h2
  simp at h h2
  unfold Nb.good
  omega
theorem fillS_itoa (n : Int) (w : Nat) (z : Bool) : fillS (Lib.itoa n) w z = fillN n w z := by
  unfold fillS fillN
  cases z
  · rfl
  · by_cases h : n < 0
    · obtain ⟨h1, h2⟩ := itoa_cut_neg h
      rw [h1, h2]
      simp [h]
    · obtain ⟨h1, h2⟩ := itoa_cut_pos h
      rw [h1, h2]
      simp [h]
theorem bigB_prn {s : ByteArray} (h : bigB s = false) : s.size ≤ 65536 ∧ (linesOf s).length ≤ 4096 ∧ ∀ x ∈ linesOf s, x.size ≤ 65536 := by
  have h1 := (linesOf_bound s).2
  unfold bigB at h
  simp at h
  exact ⟨by omega, by omega, fun x hx => by have := h1 x hx; omega⟩
end Go.Pw
namespace Go.Proofs.YtbelbgfigmbobaaGreatDoor
open Go.RowKit Go.Pw
theorem containsNlN_any (s : ByteArray) (w : World) : Calls Tryz.prog 36 #[.string s, .string ⟨#[10]⟩] w fun e w' => e = .returned (.bool (decide (0 ≤ Lib.indexByte s.data.toList 10))) ∧ w = w' :=
  (Tryz.strings_Contains_one s 10 w).mono fun e w' ⟨h1, h2⟩ => ⟨h1, h2.symm⟩
set_option maxHeartbeats 4000000 in
set_option maxRecDepth 100000 in
theorem number_bad (o : Nb) (s : ByteArray) (n : Int) (w : World) (hsep : o.sep.size ≤ maxLen) (hs : s.size ≤ maxLen) (hn : n ≠ 0) (he : nbErr o s = n) :
    Calls Tryz.prog 35 #[nbV o, .string s] w fun e w' => e = .returned (.tuple #[.string ⟨#[]⟩, .int .i64 n]) ∧ Below w.heap.size w w' := by
  have hbn := (Below.refl w.heap.size w).alloc (Nat.le_refl _) (.cells #[.int .i64 o.start, .int .i64 o.step, .int .i64 o.width, .bool o.zeros, .bool o.empty, .string o.sep] 64)
  have hnn : NbIn (w.alloc (.cells #[.int .i64 o.start, .int .i64 o.step, .int .i64 o.width, .bool o.zeros, .bool o.empty, .string o.sep] 64)) w.heap.size 64 o := heap_alloc_new _ _
  obtain ⟨W1, hW1⟩ : ∃ W1, w.alloc (.cells #[.int .i64 o.start, .int .i64 o.step, .int .i64 o.width, .bool o.zeros, .bool o.empty, .string o.sep] 64) = W1 := ⟨_, rfl⟩
  rw [hW1] at hbn hnn
  unfold maxLen at hs hsep
  have HB1 := hide hbn
  have HN1 := hide hnn
  have HLG := hide (fun W => large_any s W (by omega))
  have HWa : Hid (∀ W, Calls Tryz.prog 38 #[.int .i64 o.start, .int .i64 (-1000000), .int .i64 1000000] W fun e w' => e = .returned (.bool (inR (-1000000) 1000000 o.start)) ∧ W = w') := hide (fun W => within_any _ _ _ W)
  have HWb : Hid (∀ W, Calls Tryz.prog 38 #[.int .i64 o.step, .int .i64 (-1000000), .int .i64 1000000] W fun e w' => e = .returned (.bool (inR (-1000000) 1000000 o.step)) ∧ W = w') := hide (fun W => within_any _ _ _ W)
  have HWc : Hid (∀ W, Calls Tryz.prog 38 #[.int .i64 o.width, .int .i64 0, .int .i64 1000] W fun e w' => e = .returned (.bool (inR 0 1000 o.width)) ∧ W = w') := hide (fun W => within_any _ _ _ W)
  have HNL : Hid (∀ W, Calls Tryz.prog 36 #[.string o.sep, .string ⟨#[10]⟩] W fun e w' => e = .returned (.bool (nbNl o)) ∧ W = w') := hide (fun W => containsNlN_any o.sep W)
  have HE : Hid (firstNZ [if (inR (-1000000) 1000000 o.start && inR (-1000000) 1000000 o.step) && inR 0 1000 o.width then 0 else 3, if nbNl o || decide (1000 < o.sep.size) then 5 else 0, if bigB s then 2 else 0] = n) := hide he
  have HNN := hide hn
  have HW1 := hide hW1
  obtain ⟨a, ha⟩ : ∃ a, inR (-1000000) 1000000 o.start = a := ⟨_, rfl⟩
  obtain ⟨b, hb⟩ : ∃ b, inR (-1000000) 1000000 o.step = b := ⟨_, rfl⟩
  obtain ⟨c, hc⟩ : ∃ c, inR 0 1000 o.width = c := ⟨_, rfl⟩
  obtain ⟨d, hd⟩ : ∃ d, nbNl o = d := ⟨_, rfl⟩
  simp only [ha] at HWa
  simp only [hb] at HWb
  simp only [hc] at HWc
  simp only [hd] at HNL
  simp only [ha, hb, hc, hd] at HE
  obtain ⟨d0, d1, d2, d3, d4, d5⟩ := hnn.cells
  unfold nbV
  clear hbn hnn hn he ha hb hc hd hW1
  go_enter Tryz.func35, Tryz.ntmps35
  go_wp2_with fail
  (try rw [HW1.out])
  refine (HWa.out _).mono ?_
  rintro e w' ⟨rfl, rfl⟩
  cases a
  · skip
    have h3 : (3 : Int) = n := by have := HE.out; simpa [firstNZ] using this
    subst h3
    go_wp2_with fail
    go_ret2
    exact ⟨rfl, HB1.out⟩
  · go_wp2_with fail
    refine (HWb.out _).mono ?_
    rintro e w' ⟨rfl, rfl⟩
    cases b
    · skip
      have h3 : (3 : Int) = n := by have := HE.out; simpa [firstNZ] using this
      subst h3
      go_wp2_with fail
      go_ret2
      exact ⟨rfl, HB1.out⟩
    · go_wp2_with fail
      refine (HWc.out _).mono ?_
      rintro e w' ⟨rfl, rfl⟩
      cases c
      · skip
        have h3 : (3 : Int) = n := by have := HE.out; simpa [firstNZ] using this
        subst h3
        go_wp2_with fail
        go_ret2
        exact ⟨rfl, HB1.out⟩
      · go_wp2_with fail
        refine (HNL.out _).mono ?_
        rintro e w' ⟨rfl, rfl⟩
        cases d
        · by_cases hlong : 1000 < o.sep.size
          · have hlong2 : (1000 : Int) < (o.sep.size : Int) := by omega
            rw [show decide (1000 < o.sep.size) = true by simpa using hlong] at HE
            have h3 : (5 : Int) = n := by have := HE.out; simpa [firstNZ] using this
            subst h3
            go_wp2_with fail
            go_ret2
            exact ⟨rfl, HB1.out⟩
          · have hlong2 : ¬ (1000 : Int) < (o.sep.size : Int) := by omega
            rw [show decide (1000 < o.sep.size) = false by simpa using hlong] at HE
            cases h2 : bigB s
            · exfalso
              have := HE.out
              rw [h2] at this
              exact HNN.out this.symm
            · simp only [h2] at HLG HE
              clear h2
              have h3 : (2 : Int) = n := by have := HE.out; simpa [firstNZ] using this
              subst h3
              go_wp2_with fail
              refine (HLG.out _).mono ?_
              rintro e w3 ⟨rfl, hb3⟩
              have HB3 := hide (HB1.out.trans (hb3.mono HB1.out.size))
              clear hb3
              go_wp2_with fail
              go_ret2
              exact ⟨rfl, HB3.out⟩
        · skip
          have h3 : (5 : Int) = n := by have := HE.out; simpa [firstNZ] using this
          subst h3
          go_wp2_with fail
          go_ret2
          exact ⟨rfl, HB1.out⟩
/-- where the loop over the lines stands -/
def NbAt (T tS : TypeId) (o : Nb) (L : List ByteArray) (w w3 : World) (nv v i : Value) (wr : World) : Prop :=
  ∃ k : Nat, k ≤ L.length ∧ i = .int .i64 (k : Int) ∧ nv = .int .i64 (numTo o L k).2 ∧ Hid (OwnS tS wr w3.heap.size v (numTo o L k).1) ∧ Hid (Below w3.heap.size w3 wr) ∧ Hid (Below w.heap.size w wr) ∧ Hid (NbIn wr w.heap.size T o)
set_option maxHeartbeats 8000000 in
set_option maxRecDepth 100000 in
theorem number_good (o : Nb) (s : ByteArray) (w : World) (hra : nbRange o = true) (hfo : nbForm o = false) (hb : bigB s = false) (hT : PowTab w) :
    Calls Tryz.prog 35 #[nbV o, .string s] w fun e w' => e = .returned (.tuple #[.string (mkB (resL (numTo o (linesOf s) (linesOf s).length).1)), .int .i64 0]) ∧ Below w.heap.size w w' := by
  have hbn := (Below.refl w.heap.size w).alloc (Nat.le_refl _) (.cells #[.int .i64 o.start, .int .i64 o.step, .int .i64 o.width, .bool o.zeros, .bool o.empty, .string o.sep] 64)
  have hnn : NbIn (w.alloc (.cells #[.int .i64 o.start, .int .i64 o.step, .int .i64 o.width, .bool o.zeros, .bool o.empty, .string o.sep] 64)) w.heap.size 64 o := heap_alloc_new _ _
  obtain ⟨W1, hW1⟩ : ∃ W1, w.alloc (.cells #[.int .i64 o.start, .int .i64 o.step, .int .i64 o.width, .bool o.zeros, .bool o.empty, .string o.sep] 64) = W1 := ⟨_, rfl⟩
  rw [hW1] at hbn hnn
  have HB1 := hide hbn
  have HN1 := hide hnn
  have ho := nb_good hra hfo
  have ho' := ho
  obtain ⟨⟨ho1, ho2⟩, ⟨ho3, ho4⟩, ⟨ho5, ho6⟩, ho7⟩ := ho'
  obtain ⟨hsz, hln, hls⟩ := bigB_prn hb
  have HLG := hide (fun W => large_any s W (by omega))
  rw [hb] at HLG
  have hra' := hra
  unfold nbRange at hra'
  simp only [Bool.and_eq_true] at hra'
  have HWa : Hid (∀ W, Calls Tryz.prog 38 #[.int .i64 o.start, .int .i64 (-1000000), .int .i64 1000000] W fun e w' => e = .returned (.bool true) ∧ W = w') := hide (fun W => by rw [← hra'.1.1]; exact within_any _ _ _ W)
  have HWb : Hid (∀ W, Calls Tryz.prog 38 #[.int .i64 o.step, .int .i64 (-1000000), .int .i64 1000000] W fun e w' => e = .returned (.bool true) ∧ W = w') := hide (fun W => by rw [← hra'.1.2]; exact within_any _ _ _ W)
  have HWc : Hid (∀ W, Calls Tryz.prog 38 #[.int .i64 o.width, .int .i64 0, .int .i64 1000] W fun e w' => e = .returned (.bool true) ∧ W = w') := hide (fun W => by rw [← hra'.2]; exact within_any _ _ _ W)
  have hnl : nbNl o = false := by
    unfold nbForm at hfo
    cases h : nbNl o
    · rfl
    · rw [h] at hfo; cases hfo
  have HNL : Hid (∀ W, Calls Tryz.prog 36 #[.string o.sep, .string ⟨#[10]⟩] W fun e w' => e = .returned (.bool false) ∧ W = w') := hide (fun W => by rw [← hnl]; exact containsNlN_any o.sep W)
  have HLI := hide (fun W => lines_any s W (by omega))
  have HIT := hide (fun (n : Int) W (hb : Below w.heap.size w W) h0 h1 => itoa_any n W h0 h1 (hT.below hb))
  have hlong2 : ¬ (1000 : Int) < (o.sep.size : Int) := by omega
  have HNB := hide (numTo_bound ho (linesOf s) 65536 (by omega) hls (linesOf s).length (Nat.le_refl _))
  have HNN := hide (fun k => numTo_num ho (linesOf s) k)
  have HLS := hide hls
  obtain ⟨L, hL⟩ : ∃ L, linesOf s = L := ⟨_, rfl⟩
  rw [hL] at HLI HLS hln HNB HNN
  rw [hL]
  have HRL : Hid ((resL (numTo o L L.length).1).length ≤ 1000000000) := hide (by
    have h1 := HNB.out.2
    have h2 : L.length * (65536 + 2022) ≤ 4096 * (65536 + 2022) := Nat.mul_le_mul hln (Nat.le_refl _)
    omega)
  have HLN := hide hln
  have HW1 := hide hW1
  obtain ⟨d0, d1, d2, d3, d4, d5⟩ := hnn.cells
  unfold nbV
  clear hbn hnn hb hls hL hW1 hra hra' hfo hnl ho hsz
  go_enter Tryz.func35, Tryz.ntmps35
  go_wp2_with fail
  (try rw [HW1.out])
  refine (HWa.out _).mono ?_
  rintro e w' ⟨rfl, rfl⟩
  go_wp2_with fail
  refine (HWb.out _).mono ?_
  rintro e w' ⟨rfl, rfl⟩
  go_wp2_with fail
  refine (HWc.out _).mono ?_
  rintro e w' ⟨rfl, rfl⟩
  go_wp2_with fail
  refine (HNL.out _).mono ?_
  rintro e w' ⟨rfl, rfl⟩
  go_wp2_with fail
  refine (HLG.out _).mono ?_
  rintro e w2 ⟨rfl, hb2⟩
  have HB2 := hide (HB1.out.trans (hb2.mono HB1.out.size))
  have HN2 := hide (HN1.out.below hb2 HN1.out.lt)
  clear hb2 d0 d1 d2 d3 d4 d5
  obtain ⟨d0, d1, d2, d3, d4, d5⟩ := HN2.out.cells
  go_wp2_with fail
  refine (HLI.out _).mono ?_
  rintro e w3 ⟨v, rfl, hr⟩
  have hb4 := linesRes_below hr
  have HB4 := hide (HB2.out.trans (hb4.mono HB2.out.size))
  have HN4 := hide (HN2.out.below hb4 HN2.out.lt)
  have HV := hide (linesRes_strs hr (fun x hx => by have := HLS.out x hx; unfold maxLen; omega) (by unfold maxLen; omega))
  clear hr hb4 d0 d1 d2 d3 d4 d5
  obtain ⟨⟨_, LA, lc, rfl, hcap, hmax, hx⟩, _⟩ := HV.out
  have HX := hide hx
  have HCz0 : Hid (w.heap.size ≤ w3.heap.size) := hide HB4.out.size
  have HUL : Hid (w.heap.size < w3.heap.size) := hide HN4.out.lt
  clear hx HV
  unfold maxLen at hmax
  go_wp2_with fail
  go_loopw [6, 7, 45] (fun nv v i wr => NbAt 64 9 o L w w3 nv v i wr) (fun _ _ i _ => L.length - (intOf i).toNat)
  case atStart => exact ⟨0, by omega, rfl, rfl, World.ownsRow_nil _ _ _ _, Below.refl _ _, HB4, HN4⟩
  case round =>
    obtain ⟨k, hk, rfl, rfl, HO, HB, HC, HN⟩ := hrel
    obtain ⟨OA, oc, rfl⟩ := own_slice HO.out
    have hdl := numTo_len o L k
    have hnn := HNN.out k
    by_cases hlt : k < L.length
    · have hd : (k : Int) < (L.length : Int) := by omega
      obtain ⟨b3, o3, rfl, hb3, hj3⟩ := HX.out (by omega)
      have cy : wr.cell? ⟨b3, o3 + k, none⟩ = some (.string L[k]) := (HB.out.cell (p := ⟨b3, o3 + k, none⟩) hb3).trans (hj3 k _ (by simp [hlt]))
      have hys := HLS.out L[k] (List.getElem_mem hlt)
      have HNX : Hid (numTo o L (k + 1) = if (L[k].size == 0) && !o.empty then ((numTo o L k).1 ++ [L[k]], (numTo o L k).2) else ((numTo o L k).1 ++ [numLine o (numTo o L k).2 L[k]], (numTo o L k).2 + o.step)) := hide (by
        conv => lhs; rw [numTo]
        simp [List.getD, hlt])
      obtain ⟨y, hy⟩ : ∃ y, L[k] = y := ⟨_, rfl⟩
      rw [hy] at cy hys HNX
      obtain ⟨D, hD⟩ : ∃ D, (numTo o L k).1 = D := ⟨_, rfl⟩
      obtain ⟨N, hN⟩ : ∃ N, (numTo o L k).2 = N := ⟨_, rfl⟩
      rw [hD] at HO HNX hdl ⊢
      rw [hN] at HNX hnn ⊢
      have HDL : Hid (D.length ≤ 1000000000) := hide (by omega)
      have hzz := HB.out.size
      have hn1 : -5000000000 ≤ N := by omega
      have hn2 : N ≤ 5000000000 := by omega
      clear hj3 hb3 hy hD hN hdl hnn
      obtain ⟨d0, d1, d2, d3, d4, d5⟩ := HN.out.cells
      have hil := Lib.itoa_length_le N (by omega) (by omega)
      have hfl := fillN_len N o.width.toNat o.zeros (by omega) (by omega) (by omega)
      have HIM := hide (fun W hW => HIT.out N W hW (by omega) (by omega))
      obtain ⟨q, hq⟩ : ∃ q, (⟨(Lib.itoa N).toArray⟩ : ByteArray) = q := ⟨_, rfl⟩
      have hqs : q.size ≤ 21 := by rw [← hq]; simpa [ByteArray.size] using hil
      have hqd : q.data.toList = Lib.itoa N := by rw [← hq]
      have HFL := hide (fun W => filled_any q o.width o.zeros W (by omega) ho5 (by omega))
      rw [hqd, fillS_itoa] at HFL
      simp only [hq] at HIM
      obtain ⟨F, hF⟩ : ∃ F, mkB (fillN N o.width.toNat o.zeros) = F := ⟨_, rfl⟩
      have hFs : F.size ≤ 1021 := by rw [← hF, mkB_size]; exact hfl
      simp only [hF] at HFL
      have HFF := hide hF
      have hg1 : ¬ (9223372036854775807 < F.size + o.sep.size) := by omega
      have hg2 : ¬ (9223372036854775807 < F.size + o.sep.size + y.size) := by omega
      have EN : Hid (NEnv 64 w.heap.size o w wr) := hide ⟨HN.out, HC.out⟩
      have EM : Hid (Below wr.heap.size wr wr) := hide (Below.refl _ _)
      clear hil hfl hq hqd hF
      by_cases hy0 : y.size = 0
      · obtain rfl := empty_of hy0
        rcases Bool.eq_false_or_eq_true o.empty with hem | hem
        · have HNX2 : Hid (numTo o L (k + 1) = (D ++ [(F ++ o.sep) ++ (⟨#[]⟩ : ByteArray)], N + o.step)) := hide (by rw [HNX.out, hem]; unfold numLine; rw [HFF.out]; rfl)
          rw [hem] at d4
          have HEM := hide hem
          clear hem HNX hy0
          go_wp2_with fail
          go_region_held3 (fun w' => w'.cell? ⟨w.heap.size, 0, none⟩ = some (.int .i64 o.start) ∧ w'.cell? ⟨w.heap.size, 1, none⟩ = some (.int .i64 o.step) ∧ w'.cell? ⟨w.heap.size, 2, none⟩ = some (.int .i64 o.width) ∧ w'.cell? ⟨w.heap.size, 3, none⟩ = some (.bool o.zeros) ∧ w'.cell? ⟨w.heap.size, 5, none⟩ = some (.string o.sep)) (go_keep)
            (first
              | (go_at_call 42; (with_reducible refine (HIM.out _ (by exact NEnv.bel (NEnv.like EN.out rfl rfl rfl rfl))).mono ?_); rintro e wa ⟨rfl, hba⟩; have EN := hide (NEnv.next EN.out hba rfl rfl rfl rfl (Nat.le_refl _)); have EM := hide (below_next EM.out hba rfl rfl rfl rfl EM.out.size); clear hba; obtain ⟨q0, q1, q2, q3, q4, q5⟩ := EN.out.un.cells)
              | (go_at_call 93; (with_reducible refine (HFL.out _).mono ?_); rintro e wb ⟨rfl, hbb⟩; have EN := hide (NEnv.next EN.out hbb rfl rfl rfl rfl (Nat.le_refl _)); have EM := hide (below_next EM.out hbb rfl rfl rfl rfl EM.out.size); clear hbb; obtain ⟨q0, q1, q2, q3, q4, q5⟩ := EN.out.un.cells))
          all_goals
            rename (World.cell? wb _ = _ ∧ _) => hheld
            clear hheld
            have HO5 : Hid (OwnS 9 wb w3.heap.size (.slice OA D.length oc) D) := hide (own_below HO.out EM.out)
            have HB5 := hide (HB.out.trans (EM.out.mono HB.out.size))
            have HC5 := hide EN.out.bel
            have HN5 := hide EN.out.un
            clear HO HB HC HN EN EM cy d0 d1 d2 d3 d4 d5 q0 q1 q2 q3 q4 q5 HIM HFL
            obtain ⟨d0, d1, d2, d3, d4, d5⟩ := HN5.out.cells
            have hzz := HB5.out.size
            go_wp2_with (at_builtin; refine wpList_app_one rfl _ _ rfl w3.heap.size _ _ rfl HO5.out rfl HDL.out hzz ?_)
            intro A2 c2 w6 ho6 hb6
            have HO6 := hide ho6
            have HB6 := hide (HB5.out.trans hb6)
            have HC6 := hide (HC5.out.trans (hb6.mono HCz0.out))
            have HN6 := hide (HN5.out.below hb6 HUL.out)
            clear ho6 hb6
            go_wp2_with fail
            go_roundw
            case rel => exact ⟨k + 1, by omega, by go_num, by rw [HNX2.out], by rw [HNX2.out]; exact HO6, HB6, HC6, HN6⟩
            case measure => simp [intOf]; omega
        · have HNX2 : Hid (numTo o L (k + 1) = (D ++ [(⟨#[]⟩ : ByteArray)], N)) := hide (by rw [HNX.out, hem]; rfl)
          rw [hem] at d4
          clear hem HNX hy0 HFL HIM EN EM
          go_wp2_with (at_builtin; refine wpList_app_one rfl _ _ rfl w3.heap.size _ _ rfl HO.out rfl HDL.out hzz ?_)
          intro A2 c2 w6 ho6 hb6
          have HO6 := hide ho6
          have HB6 := hide (HB.out.trans hb6)
          have HC6 := hide (HC.out.trans (hb6.mono HCz0.out))
          have HN6 := hide (HN.out.below hb6 HUL.out)
          clear ho6 hb6
          go_wp2_with fail
          go_roundw
          case rel => exact ⟨k + 1, by omega, by go_num, by rw [HNX2.out], by rw [HNX2.out]; exact HO6, HB6, HC6, HN6⟩
          case measure => simp [intOf]; omega
      · have he := isEmpty_of (s := y) (by omega)
        have HNX2 : Hid (numTo o L (k + 1) = (D ++ [(F ++ o.sep) ++ y], N + o.step)) := hide (by rw [HNX.out, show (y.size == 0) = false by simpa using hy0]; unfold numLine; rw [HFF.out]; rfl)
        clear HNX hy0
        go_wp2_with fail
        go_region_held3 (fun w' => w'.cell? ⟨w.heap.size, 0, none⟩ = some (.int .i64 o.start) ∧ w'.cell? ⟨w.heap.size, 1, none⟩ = some (.int .i64 o.step) ∧ w'.cell? ⟨w.heap.size, 2, none⟩ = some (.int .i64 o.width) ∧ w'.cell? ⟨w.heap.size, 3, none⟩ = some (.bool o.zeros) ∧ w'.cell? ⟨w.heap.size, 5, none⟩ = some (.string o.sep)) (go_keep)
          (first
            | (go_at_call 42; (with_reducible refine (HIM.out _ (by exact NEnv.bel (NEnv.like EN.out rfl rfl rfl rfl))).mono ?_); rintro e wa ⟨rfl, hba⟩; have EN := hide (NEnv.next EN.out hba rfl rfl rfl rfl (Nat.le_refl _)); have EM := hide (below_next EM.out hba rfl rfl rfl rfl EM.out.size); clear hba; obtain ⟨q0, q1, q2, q3, q4, q5⟩ := EN.out.un.cells)
            | (go_at_call 93; (with_reducible refine (HFL.out _).mono ?_); rintro e wb ⟨rfl, hbb⟩; have EN := hide (NEnv.next EN.out hbb rfl rfl rfl rfl (Nat.le_refl _)); have EM := hide (below_next EM.out hbb rfl rfl rfl rfl EM.out.size); clear hbb; obtain ⟨q0, q1, q2, q3, q4, q5⟩ := EN.out.un.cells))
        all_goals
          rename (World.cell? wb _ = _ ∧ _) => hheld
          clear hheld
          have HO5 : Hid (OwnS 9 wb w3.heap.size (.slice OA D.length oc) D) := hide (own_below HO.out EM.out)
          have HB5 := hide (HB.out.trans (EM.out.mono HB.out.size))
          have HC5 := hide EN.out.bel
          have HN5 := hide EN.out.un
          clear HO HB HC HN EN EM cy d0 d1 d2 d3 d4 d5 q0 q1 q2 q3 q4 q5 HIM HFL
          obtain ⟨d0, d1, d2, d3, d4, d5⟩ := HN5.out.cells
          have hzz := HB5.out.size
          go_wp2_with (at_builtin; refine wpList_app_one rfl _ _ rfl w3.heap.size _ _ rfl HO5.out rfl HDL.out hzz ?_)
          intro A2 c2 w6 ho6 hb6
          have HO6 := hide ho6
          have HB6 := hide (HB5.out.trans hb6)
          have HC6 := hide (HC5.out.trans (hb6.mono HCz0.out))
          have HN6 := hide (HN5.out.below hb6 HUL.out)
          clear ho6 hb6
          go_wp2_with fail
          go_roundw
          case rel => exact ⟨k + 1, by omega, by go_num, by rw [HNX2.out], by rw [HNX2.out]; exact HO6, HB6, HC6, HN6⟩
          case measure => simp [intOf]; omega
    · have hkl : k = L.length := by omega
      subst hkl
      have hd : ¬ ((L.length : Int) < (L.length : Int)) := by omega
      have HST := hide (OwnS.strs HO.out (fun x hx => by
        have := HNB.out.1 x hx
        unfold maxLen; omega))
      have HRS := hide (fun W hW => result_any _ (numTo o L L.length).1 W (HST.out.below hW) HRL.out)
      rw [hdl] at HRS
      obtain ⟨TT, hTT⟩ : ∃ TT, mkB (resL (numTo o L L.length).1) = TT := ⟨_, rfl⟩
      simp only [hTT] at HRS
      have HTT := hide hTT
      obtain ⟨N, hN⟩ : ∃ N, (numTo o L L.length).2 = N := ⟨_, rfl⟩
      rw [hN, hdl]
      clear hnn hdl hTT hN
      go_wp2_with fail
      refine (HRS.out _ (Below.refl _ _)).mono ?_
      rintro e w6 ⟨rfl, hb6⟩
      have HC6 := hide (HC.out.trans (hb6.mono HC.out.size))
      clear hb6
      go_wp2_with fail
      go_ret2
      exact ⟨by rw [HTT.out]; rfl, HC6.out⟩
end Go.Proofs.YtbelbgfigmbobaaGreatDoor
