/- headOf. -/
import Derived.Test.YtinpgnekjebipaaDoorUrQ
set_option linter.unusedSimpArgs false
set_option linter.unusedVariables false
namespace Go.Pw
theorem splC_piece (b : UInt8) : ∀ (l cur : List UInt8), ∀ x ∈ splC b cur l, x.length ≤ cur.length + l.length
  | [], cur, x, h => by simp [splC] at h; subst h; simp
  | c :: l, cur, x, h => by
    rw [splC] at h
    split at h
    · rcases List.mem_cons.1 h with h | h
      · subst h; simp
      · have := splC_piece b l [] x h
        simp at this ⊢; omega
    · have := splC_piece b l _ x h
      simp at this ⊢; omega
end Go.Pw
namespace Go.Proofs.YtinpgnekjebipaaDoor
open Go.RowKit Go.Pw
theorem results_twoT {fn : Func} {p q u : Tmp} {ty : TypeId} (h : fn.results = #[.cell p ty, .cell q ty, .tmp u]) (tmps : Array Value) (P : Program) (w : World) :
    (results fn tmps).run P w =
      ((asAddr (tmps.getD p undef)).run P w).andThen fun a w₁ => ((loadVar ty a).run P w₁).andThen fun x w₂ => ((asAddr (tmps.getD q undef)).run P w₂).andThen fun b w₃ => ((loadVar ty b).run P w₃).andThen fun y w₄ => .ok (.tuple #[x, y, tmps.getD u undef]) w₄ := by
  simp only [results, h]
  simp [Sem.run_bind, Result.andThen]
theorem results_twoU {fn : Func} {p q u : Tmp} (h : fn.results = #[.cell p 50, .cell q 50, .tmp u]) (tmps : Array Value) (w : World) (g k : Nat) (a0 a1 b0 b1 : Value)
    (hp : tmps.getD p undef = .pointer (some ⟨g, 0, none⟩)) (hq : tmps.getD q undef = .pointer (some ⟨k, 0, none⟩)) (hg : PtRow w g a0 a1) (hk : PtRow w k b0 b1) : (results fn tmps).run Tryd.prog w = .ok (.tuple #[.agg #[a0, a1], .agg #[b0, b1], tmps.getD u undef]) w := by
  rw [results_twoT h, hp, hq]
  simp [asAddr, run_loadVar_row w g 50 50 #[a0, a1] (0, 0) _ hg Tryd.underlying50 rfl info_ptU, run_loadVar_row w k 50 50 #[b0, b1] (0, 0) _ hk Tryd.underlying50 rfl info_ptU, Result.andThen]
theorem head_start (w : World) {N : Nat} (hN : w.heap.size = N) (cs : Array Value) (t : TypeId) : ∀ W, W = ((w.alloc (.cells #[.int .i64 0, .int .i64 0] 50)).alloc (.cells #[.int .i64 0, .int .i64 0] 50)).alloc (.cells cs t) →
    Below w.heap.size w W ∧ PtRow W N (.int .i64 0) (.int .i64 0) ∧ PtRow W (N + 1) (.int .i64 0) (.int .i64 0) ∧ W.heap[N + 2]? = some (.cells cs t (0, 0)) := by
  rintro W rfl
  subst hN
  refine ⟨(((Below.refl _ _).alloc (Nat.le_refl _) _).alloc (by simp) _).alloc (by simp; omega) _, ?_, ?_, ?_⟩
  · exact (heap_alloc_old _ _ (by simp; omega)).trans ((heap_alloc_old _ _ (by simp)).trans (heap_alloc_new _ _))
  · refine (heap_alloc_old _ _ (by simp)).trans ?_
    have := heap_alloc_new (w.alloc (.cells #[.int .i64 0, .int .i64 0] 50)) (.cells #[.int .i64 0, .int .i64 0] 50)
    simpa using this
  · have := heap_alloc_new ((w.alloc (.cells #[.int .i64 0, .int .i64 0] 50)).alloc (.cells #[.int .i64 0, .int .i64 0] 50)) (.cells cs t)
    simpa using this
def HeadR (s : ByteArray) (a b c d : Int) (ok : Bool) : Prop := (ok = true ∧ ∃ h : Hd, HForm s.data.toList h ∧ a = h.oa ∧ b = (h.oc : Int) ∧ c = h.na ∧ d = (h.nc : Int)) ∨ (ok = false ∧ ∀ h, ¬ HForm s.data.toList h)
def HeadPost (s : ByteArray) (w : World) (e : Ending) (w' : World) : Prop := ∃ a b c d ok, e = .returned (.tuple #[.agg #[.int .i64 a, .int .i64 b], .agg #[.int .i64 c, .int .i64 d], .bool ok]) ∧ HeadR s a b c d ok ∧ Below w.heap.size w w'
set_option maxHeartbeats 4000000 in
set_option maxRecDepth 100000 in
theorem headOf_any (s : ByteArray) (w : World) (hs : s.size ≤ 90000) (hP : PowTab w) (hE : ErrT w) :
    Calls Tryd.prog 49 #[.string s] w (HeadPost s w) := by
  have HPT := hide (fun (z : ByteArray) (sg : UInt8) (W : World) (hz : z.size ≤ 90000) (hb : Below w.heap.size w W) => partOf_any z sg W hz (hP.below hb) (hE.below hb))
  have HSP : Hid (∀ (W : World) (M : Nat), W.heap.size = M → Calls Tryd.prog 45 #[.string s, .string ⟨#[32]⟩] W fun e w' => e = .returned (.slice (some ⟨M, 0, none⟩) (splC 32 [] s.data.toList).length (splC 32 [] s.data.toList).length) ∧ w' = W.alloc (.cells (((splC 32 [] s.data.toList).map mkB).map Value.string).toArray 9)) :=
    hide (fun W M hM => hM ▸ splitC_any s 32 W (by omega))
  obtain ⟨L, hL⟩ : ∃ L, splC 32 [] s.data.toList = L := ⟨_, rfl⟩
  rw [hL] at HSP
  obtain ⟨n, hn⟩ : ∃ n, L.length = n := ⟨_, rfl⟩
  rw [hn] at HSP
  have hform : ∀ h, HForm s.data.toList h → ∃ x y p q, L = [[64, 64], 45 :: x, 43 :: y, [64, 64]] ∧ Part x p ∧ Part y q ∧ h = ⟨p.1, p.2, q.1, q.2⟩ := fun h hf => by
    have := hf.pieces
    rw [hL] at this
    exact this
  have hback : ∀ x y p q, L = [[64, 64], 45 :: x, 43 :: y, [64, 64]] → Part x p → Part y q → HForm s.data.toList ⟨p.1, p.2, q.1, q.2⟩ := fun x y p q e h1 h2 => form_of_pieces (hL.trans e) h1 h2
  have hsum : ∀ x ∈ L, x.length ≤ s.size := fun x hx => by
    rw [← hL] at hx
    have := splC_piece 32 s.data.toList [] x hx
    rw [len_size] at this
    simpa using this
  have HFORM := hide hform
  have HBACK := hide hback
  have HSUM := hide hsum
  have HN := hide hn
  have HL := hide hL
  clear hL hform hback hsum hP hE
  obtain ⟨N, hN⟩ : ∃ N, w.heap.size = N := ⟨_, rfl⟩
  by_cases h4 : n = 4
  ·
    subst h4
    obtain ⟨pa, pb, pc, pd, hLL⟩ : ∃ a b c d, L = [a, b, c, d] := by
      match L, hn with
      | [a, b, c, d], _ => exact ⟨a, b, c, d, rfl⟩
    have HLL := hide hLL
    have hza : ∀ x ∈ [pa, pb, pc, pd], x.length ≤ s.size := by rw [← hLL]; exact HSUM.out
    have hzb : (mkB pb).size ≤ 90000 := by rw [mkB_size]; have := hza pb (by simp); omega
    have hzc : (mkB pc).size ≤ 90000 := by rw [mkB_size]; have := hza pc (by simp); omega
    have HSP2 : Hid (∀ (W : World) (M : Nat), W.heap.size = M → Calls Tryd.prog 45 #[.string s, .string ⟨#[32]⟩] W fun e w' => e = .returned (.slice (some ⟨M, 0, none⟩) 4 4) ∧ w' = W.alloc (.cells #[.string (mkB pa), .string (mkB pb), .string (mkB pc), .string (mkB pd)] 9)) := hide (fun W M hM => by
      have := HSP.out W M hM
      rw [hLL] at this
      exact this)
    clear hn hza HSP hLL
    have start : ∀ w1, w1 = ((w.alloc (.cells #[.int .i64 0, .int .i64 0] 50)).alloc (.cells #[.int .i64 0, .int .i64 0] 50)).alloc (.cells #[.string (mkB pa), .string (mkB pb), .string (mkB pc), .string (mkB pd)] 9) → _ := head_start w hN #[.string (mkB pa), .string (mkB pb), .string (mkB pc), .string (mkB pd)] 9
    have HST := hide start
    clear start
    have eqs : ∀ x : List UInt8, (x = [64, 64] ∧ ((mkB x).toList == [64, 64]) = true) ∨ (¬ x = [64, 64] ∧ ((mkB x).toList == [64, 64]) = false) := fun x => by
      by_cases h : x = [64, 64]
      · exact .inl ⟨h, by subst h; rw [Lib.toList_data, mkB_dataU]; rfl⟩
      · refine .inr ⟨h, ?_⟩
        cases hq : ((mkB x).toList == [64, 64]) with
        | false => rfl
        | true =>
          have h1 := eq_of_beq hq
          rw [Lib.toList_data, mkB_dataU] at h1
          exact absurd h1 h
    rcases eqs pa with ⟨ea, ga⟩ | ⟨ea, ga⟩
    · rcases eqs pd with ⟨ed, gd⟩ | ⟨ed, gd⟩
      · clear eqs
        have EA := hide ea
        have ED := hide ed
        clear ea ed
        go_enter Tryd.func49, Tryd.ntmps49
        go_wp2_with fail
        refine (HSP2.out _ (N + 2) (by simp; omega)).mono ?_
        rintro e w1 ⟨rfl, hw1⟩
        obtain ⟨hb, hr1, hr2, hcs⟩ := HST.out w1 hw1
        have HB := hide hb
        have HR1 := hide hr1
        have HR2 := hide hr2
        have HCS := hide hcs
        have q0 : w1.cell? ⟨N + 2, 0, none⟩ = some (.string (mkB pa)) := by simp [World.cell?, hcs]
        have q1 : w1.cell? ⟨N + 2, 1, none⟩ = some (.string (mkB pb)) := by simp [World.cell?, hcs]
        have q3 : w1.cell? ⟨N + 2, 3, none⟩ = some (.string (mkB pd)) := by simp [World.cell?, hcs]
        clear hw1 hb hr1 hr2 hcs
        go_wp2_with fail
        refine (HPT.out (mkB pb) 45 w1 hzb HB.out).mono ?_
        rintro e w2 ⟨x1, c1, k1, rfl, hp1, hb2⟩
        have hN1 : N + 2 < w1.heap.size := (Array.getElem?_eq_some_iff.1 HCS.out).1
        have R1 := hide ((hb2.block N (by omega)).trans HR1.out)
        have R2 := hide ((hb2.block (N + 1) (by omega)).trans HR2.out)
        have CS := hide ((hb2.block (N + 2) (by omega)).trans HCS.out)
        have HB2 := hide (HB.out.trans (hb2.mono HB.out.size))
        have HP1 := hide hp1
        have R1' : PtRow w2 N (.int .i64 0) (.int .i64 0) := R1.out
        obtain ⟨a0, a1⟩ := R1'.cells
        have az0 := R1'.frozen 0
        have az1 := R1'.frozen 1
        have q2 : ((w2.setCell ⟨N, 0, none⟩ (.int .i64 x1)).setCell ⟨N, 1, none⟩ (.int .i64 c1)).cell? ⟨N + 2, 2, none⟩ = some (.string (mkB pc)) := by
          rw [World.cell?_setCell_other _ _ _ _ (by simp), World.cell?_setCell_other _ _ _ _ (by simp)]
          simp [World.cell?, CS.out]
        clear R1' hp1 hb2 q0 q1 q3 HB HR1 HR2 HCS hN1
        go_wp2_with fail
        have HB3 := hide ((HB2.out.setCell (p := ⟨N, 0, none⟩) (show w.heap.size ≤ N by omega) (.int .i64 x1)).setCell (p := ⟨N, 1, none⟩) (show w.heap.size ≤ N by omega) (.int .i64 c1))
        have R3 : Hid (PtRow ((w2.setCell ⟨N, 0, none⟩ (.int .i64 x1)).setCell ⟨N, 1, none⟩ (.int .i64 c1)) N (.int .i64 x1) (.int .i64 c1)) := hide (PtRow.set2 R1.out _ _)
        have R4 : Hid (PtRow ((w2.setCell ⟨N, 0, none⟩ (.int .i64 x1)).setCell ⟨N, 1, none⟩ (.int .i64 c1)) (N + 1) (.int .i64 0) (.int .i64 0)) := hide (PtRow.other (PtRow.other R2.out (by omega) _) (by omega) _)
        clear q2 a0 a1 az0 az1 R1 R2 CS HB2
        generalize (w2.setCell ⟨N, 0, none⟩ (.int .i64 x1)).setCell ⟨N, 1, none⟩ (.int .i64 c1) = w3 at *
        refine (HPT.out (mkB pc) 43 w3 hzc HB3.out).mono ?_
        rintro e w4 ⟨x2, c2, k2, rfl, hp2, hb4⟩
        have l3 : N + 1 < w3.heap.size := (Array.getElem?_eq_some_iff.1 R4.out).1
        have R5 : Hid (PtRow w4 N (.int .i64 x1) (.int .i64 c1)) := hide ((hb4.block N (by omega)).trans R3.out)
        have R6 : Hid (PtRow w4 (N + 1) (.int .i64 0) (.int .i64 0)) := hide ((hb4.block (N + 1) (by omega)).trans R4.out)
        have HB4 := hide (HB3.out.trans (hb4.mono HB3.out.size))
        have HP2 := hide hp2
        obtain ⟨b0, b1⟩ := R6.out.cells
        have bz0 := R6.out.frozen 0
        have bz1 := R6.out.frozen 1
        clear hp2 hb4 l3 R3 R4 HB3
        have HRES : Hid (HeadR s x1 c1 x2 c2 (k1 && k2)) := hide (by
          obtain ⟨-, -, h1⟩ := HP1.out
          obtain ⟨-, -, h2⟩ := HP2.out
          rw [mkB_dataU] at h1 h2
          rcases h1 with ⟨rfl, x, p, e1, hp, e2, e3⟩ | ⟨rfl, h1⟩
          · rcases h2 with ⟨rfl, y, q, e4, hq, e5, e6⟩ | ⟨rfl, h2⟩
            · exact .inl ⟨rfl, _, HBACK.out x y p q (by rw [HLL.out, EA.out, ED.out, e1, e4]) hp hq, e2, e3, e5, e6⟩
            · refine .inr ⟨rfl, fun h hf => ?_⟩
              obtain ⟨x', y', p', q', e, hp', hq', _⟩ := HFORM.out h hf
              rw [HLL.out] at e
              injection e with _ e
              injection e with _ e
              injection e with e _
              exact h2 _ _ e hq'
          · refine .inr ⟨rfl, fun h hf => ?_⟩
            obtain ⟨x', y', p', q', e, hp', hq', _⟩ := HFORM.out h hf
            rw [HLL.out] at e
            injection e with _ e
            injection e with e _
            exact h1 _ _ e hp')
        go_wp2_with fail
        have HB5 := hide ((HB4.out.setCell (p := ⟨N + 1, 0, none⟩) (show w.heap.size ≤ N + 1 by omega) (.int .i64 x2)).setCell (p := ⟨N + 1, 1, none⟩) (show w.heap.size ≤ N + 1 by omega) (.int .i64 c2))
        have R7 : Hid (PtRow ((w4.setCell ⟨N + 1, 0, none⟩ (.int .i64 x2)).setCell ⟨N + 1, 1, none⟩ (.int .i64 c2)) N (.int .i64 x1) (.int .i64 c1)) := hide (PtRow.other (PtRow.other R5.out (by omega) _) (by omega) _)
        have R8 : Hid (PtRow ((w4.setCell ⟨N + 1, 0, none⟩ (.int .i64 x2)).setCell ⟨N + 1, 1, none⟩ (.int .i64 c2)) (N + 1) (.int .i64 x2) (.int .i64 c2)) := hide (PtRow.set2 R6.out _ _)
        clear b0 b1 bz0 bz1 R5 R6 HB4
        generalize (w4.setCell ⟨N + 1, 0, none⟩ (.int .i64 x2)).setCell ⟨N + 1, 1, none⟩ (.int .i64 c2) = w5 at *
        obtain ⟨a0, a1⟩ := R7.out.cells
        obtain ⟨b0, b1⟩ := R8.out.cells
        have az0 := R7.out.frozen 0
        have az1 := R7.out.frozen 1
        have bz0 := R8.out.frozen 0
        have bz1 := R8.out.frozen 1
        have hNe : w.heap.size = N := hN
        clear HP1 HP2
        have HQ1 : Hid (PtRow ((((w5.setCell ⟨N, 0, none⟩ (.int .i64 x1)).setCell ⟨N, 1, none⟩ (.int .i64 c1)).setCell ⟨N + 1, 0, none⟩ (.int .i64 x2)).setCell ⟨N + 1, 1, none⟩ (.int .i64 c2)).drew N (.int .i64 x1) (.int .i64 c1)) := hide (((PtRow.set2 R7.out _ _).other (by omega) _).other (by omega) _)
        have HQ2 : Hid (PtRow ((((w5.setCell ⟨N, 0, none⟩ (.int .i64 x1)).setCell ⟨N, 1, none⟩ (.int .i64 c1)).setCell ⟨N + 1, 0, none⟩ (.int .i64 x2)).setCell ⟨N + 1, 1, none⟩ (.int .i64 c2)).drew (N + 1) (.int .i64 x2) (.int .i64 c2)) := hide (PtRow.set2 ((R8.out.other (by omega) _).other (by omega) _) _ _)
        have HQB : Hid (Below w.heap.size w ((((w5.setCell ⟨N, 0, none⟩ (.int .i64 x1)).setCell ⟨N, 1, none⟩ (.int .i64 c1)).setCell ⟨N + 1, 0, none⟩ (.int .i64 x2)).setCell ⟨N + 1, 1, none⟩ (.int .i64 c2)).drew) := hide ((((HB5.out.setCell (p := ⟨N, 0, none⟩) (show w.heap.size ≤ N by omega) _).setCell (p := ⟨N, 1, none⟩) (show w.heap.size ≤ N by omega) _).setCell (p := ⟨N + 1, 0, none⟩) (show w.heap.size ≤ N + 1 by omega) _).setCell (p := ⟨N + 1, 1, none⟩) (show w.heap.size ≤ N + 1 by omega) _).drew
        clear hNe
        cases k1
        all_goals
          cases k2
        all_goals
          go_region
          go_wp2_with fail
          refine bodyPost_ret (results_twoU rfl _ _ N (N + 1) _ _ _ _ rfl rfl HQ1.out HQ2.out) rfl ?_
          exact ⟨x1, c1, x2, c2, _, rfl, HRES.out, HQB.out⟩
      · have HBAD : Hid (∀ h, ¬ HForm s.data.toList h) := hide (fun h hf => by
          obtain ⟨_, _, _, _, e, _⟩ := HFORM.out h hf
          rw [HLL.out] at e
          injection e with _ e
          injection e with _ e
          injection e with _ e
          injection e with e _
          exact ed e)
        clear eqs ed ea
        go_enter Tryd.func49, Tryd.ntmps49
        go_wp2_with fail
        refine (HSP2.out _ (N + 2) (by simp; omega)).mono ?_
        rintro e w1 ⟨rfl, hw1⟩
        obtain ⟨hb, hr1, hr2, hcs⟩ := HST.out w1 hw1
        have HB := hide hb
        have HR1 := hide hr1
        have HR2 := hide hr2
        have q0 : w1.cell? ⟨N + 2, 0, none⟩ = some (.string (mkB pa)) := by simp [World.cell?, hcs]
        have q3 : w1.cell? ⟨N + 2, 3, none⟩ = some (.string (mkB pd)) := by simp [World.cell?, hcs]
        clear hw1 hb hr1 hr2 hcs
        obtain ⟨a0, a1⟩ := HR1.out.cells
        obtain ⟨b0, b1⟩ := HR2.out.cells
        have az0 := HR1.out.frozen 0
        have az1 := HR1.out.frozen 1
        have bz0 := HR2.out.frozen 0
        have bz1 := HR2.out.frozen 1
        go_wp2_with fail
        have hNe := HB.out
        refine bodyPost_ret (results_twoU rfl _ _ N (N + 1) _ _ _ _ rfl rfl (((PtRow.set2 HR1.out _ _).other (by omega) _).other (by omega) _) (PtRow.set2 ((HR2.out.other (by omega) _).other (by omega) _) _ _)) rfl ?_
        refine ⟨0, 0, 0, 0, false, rfl, .inr ⟨rfl, HBAD.out⟩, ?_⟩
        exact (((HB.out.setCell (by show _ ≤ N; omega) _).setCell (by show _ ≤ N; omega) _).setCell (by show _ ≤ N + 1; omega) _).setCell (by show _ ≤ N + 1; omega) _
    · have HBAD : Hid (∀ h, ¬ HForm s.data.toList h) := hide (fun h hf => by
        obtain ⟨_, _, _, _, e, _⟩ := HFORM.out h hf
        rw [HLL.out] at e
        injection e with e _
        exact ea e)
      clear eqs ea
      go_enter Tryd.func49, Tryd.ntmps49
      go_wp2_with fail
      refine (HSP2.out _ (N + 2) (by simp; omega)).mono ?_
      rintro e w1 ⟨rfl, hw1⟩
      obtain ⟨hb, hr1, hr2, hcs⟩ := HST.out w1 hw1
      have HB := hide hb
      have HR1 := hide hr1
      have HR2 := hide hr2
      have q0 : w1.cell? ⟨N + 2, 0, none⟩ = some (.string (mkB pa)) := by simp [World.cell?, hcs]
      clear hw1 hb hr1 hr2 hcs
      obtain ⟨a0, a1⟩ := HR1.out.cells
      obtain ⟨b0, b1⟩ := HR2.out.cells
      have az0 := HR1.out.frozen 0
      have az1 := HR1.out.frozen 1
      have bz0 := HR2.out.frozen 0
      have bz1 := HR2.out.frozen 1
      go_wp2_with fail
      have hNe := HB.out
      refine bodyPost_ret (results_twoU rfl _ _ N (N + 1) _ _ _ _ rfl rfl (((PtRow.set2 HR1.out _ _).other (by omega) _).other (by omega) _) (PtRow.set2 ((HR2.out.other (by omega) _).other (by omega) _) _ _)) rfl ?_
      refine ⟨0, 0, 0, 0, false, rfl, .inr ⟨rfl, HBAD.out⟩, ?_⟩
      exact (((HB.out.setCell (by show _ ≤ N; omega) _).setCell (by show _ ≤ N; omega) _).setCell (by show _ ≤ N + 1; omega) _).setCell (by show _ ≤ N + 1; omega) _
  · have h4' : ((n : Int) != 4) = true := by simp; omega
    have hbad : Hid (∀ h, ¬ HForm s.data.toList h) := hide (fun h hf => by
      obtain ⟨_, _, _, _, e, _⟩ := HFORM.out h hf
      have := HN.out
      rw [e] at this
      exact h4 this.symm)
    clear hn h4
    go_enter Tryd.func49, Tryd.ntmps49
    go_wp2_with fail
    refine (HSP.out _ (N + 2) (by simp; omega)).mono ?_
    rintro e w1 ⟨rfl, hw1⟩
    obtain ⟨hb, hr1, hr2, hcs⟩ := head_start w hN _ _ w1 hw1
    have HB := hide hb
    have HR1 := hide hr1
    have HR2 := hide hr2
    clear hw1 hb hr1 hr2 hcs
    obtain ⟨a0, a1⟩ := HR1.out.cells
    obtain ⟨b0, b1⟩ := HR2.out.cells
    have az0 := HR1.out.frozen 0
    have az1 := HR1.out.frozen 1
    have bz0 := HR2.out.frozen 0
    have bz1 := HR2.out.frozen 1
    go_wp2_with fail
    have hNe := HB.out
    refine bodyPost_ret (results_twoU rfl _ _ N (N + 1) _ _ _ _ rfl rfl (((PtRow.set2 HR1.out _ _).other (by omega) _).other (by omega) _) (PtRow.set2 ((HR2.out.other (by omega) _).other (by omega) _) _ _)) rfl ?_
    refine ⟨0, 0, 0, 0, false, rfl, .inr ⟨rfl, hbad.out⟩, ?_⟩
    exact (((HB.out.setCell (by show _ ≤ N; omega) _).setCell (by show _ ≤ N; omega) _).setCell (by show _ ≤ N + 1; omega) _).setCell (by show _ ≤ N + 1; omega) _
end Go.Proofs.YtinpgnekjebipaaDoor
