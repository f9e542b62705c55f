/- The reference's decimals: Plus. -/
import Derived.Test.YtoieicdnehnacaaGreatDoorSeqG
import Derived.Deep.DeepCutAuto
set_option linter.unusedVariables false
set_option linter.unusedSimpArgs false
namespace Go.Pw
open Go.RowKit
/-- the three decimals of a sum in memory -/
structure PEnv (T : TypeId) (b1 : Bool) (d1 : ByteArray) (c1 : Nat) (b2 : Bool) (d2 : ByteArray) (c2 : Nat) (b3 : Bool) (d3 : ByteArray) (c3 : Nat) (w W : World) : Prop where
  x : DAt W w.heap.size T b1 d1 c1
  y : DAt W (w.heap.size + 1) T b2 d2 c2
  r : DAt W (w.heap.size + 1 + 1) T b3 d3 c3
  bel : Below w.heap.size w W
section
variable {T : TypeId} {b1 b2 b3 : Bool} {d1 d2 d3 : ByteArray} {c1 c2 c3 : Nat} {w W : World}
theorem PEnv.start (T : TypeId) (b1 b2 b3 : Bool) (d1 d2 d3 : ByteArray) (c1 c2 c3 : Nat) (w : World) : PEnv T b1 d1 c1 b2 d2 c2 b3 d3 c3 w (((w.alloc (.cells #[.bool b1, .string d1, .int .i64 (c1 : Int)] T)).alloc (.cells #[.bool b2, .string d2, .int .i64 (c2 : Int)] T)).alloc (.cells #[.bool b3, .string d3, .int .i64 (c3 : Int)] T)) := by
  obtain ⟨h1, h2, hB⟩ := dec_two w T b1 b2 d1 d2 c1 c2
  obtain ⟨W2, hW2⟩ : ∃ W2, (w.alloc (.cells #[.bool b1, .string d1, .int .i64 (c1 : Int)] T)).alloc (.cells #[.bool b2, .string d2, .int .i64 (c2 : Int)] T) = W2 := ⟨_, rfl⟩
  have hs : W2.heap.size = w.heap.size + 1 + 1 := by rw [← hW2]; simp
  rw [hW2] at h1 h2 hB ⊢
  have h3 : DAt (W2.alloc (.cells #[.bool b3, .string d3, .int .i64 (c3 : Int)] T)) W2.heap.size T b3 d3 c3 := heap_alloc_new _ _
  rw [hs] at h3
  have hb := (Below.refl W2.heap.size W2).alloc (Nat.le_refl _) (.cells #[.bool b3, .string d3, .int .i64 (c3 : Int)] T)
  exact ⟨h1.below hb h1.lt, h2.below hb h2.lt, h3, hB.alloc (by omega) _⟩
theorem PEnv.next {V w' : World} {M : Nat} (h : PEnv T b1 d1 c1 b2 d2 c2 b3 d3 c3 w W) (hb : Below M V w') (e1 : V.heap = W.heap) (e2 : V.os = W.os) (e3 : V.tape = W.tape) (e4 : V.output = W.output) (hM : W.heap.size ≤ M) : PEnv T b1 d1 c1 b2 d2 c2 b3 d3 c3 w w' :=
  ⟨(hb.block _ (Nat.lt_of_lt_of_le h.x.lt hM)).trans (by rw [e1]; exact h.x), (hb.block _ (Nat.lt_of_lt_of_le h.y.lt hM)).trans (by rw [e1]; exact h.y), (hb.block _ (Nat.lt_of_lt_of_le h.r.lt hM)).trans (by rw [e1]; exact h.r), below_next h.bel hb e1 e2 e3 e4 (Nat.le_trans h.bel.size hM)⟩
theorem PEnv.like (h : PEnv T b1 d1 c1 b2 d2 c2 b3 d3 c3 w W) (n : Nat) : PEnv T b1 d1 c1 b2 d2 c2 b3 d3 c3 w (W.drewN n) := ⟨h.x, h.y, h.r, below_drewN h.bel n⟩
theorem PEnv.setX (h : PEnv T b1 d1 c1 b2 d2 c2 b3 d3 c3 w W) (b : Bool) (d : ByteArray) (c : Nat) : PEnv T b d c b2 d2 c2 b3 d3 c3 w (((W.setCell ⟨w.heap.size, 0, none⟩ (.bool b)).setCell ⟨w.heap.size, 1, none⟩ (.string d)).setCell ⟨w.heap.size, 2, none⟩ (.int .i64 (c : Int))) :=
  ⟨h.x.set b d c, ((h.y.other (by omega) _).other (by omega) _).other (by omega) _, ((h.r.other (by omega) _).other (by omega) _).other (by omega) _, ((h.bel.setCell (by simp) _).setCell (by simp) _).setCell (by simp) _⟩
theorem PEnv.setY (h : PEnv T b1 d1 c1 b2 d2 c2 b3 d3 c3 w W) (b : Bool) (d : ByteArray) (c : Nat) : PEnv T b1 d1 c1 b d c b3 d3 c3 w (((W.setCell ⟨w.heap.size + 1, 0, none⟩ (.bool b)).setCell ⟨w.heap.size + 1, 1, none⟩ (.string d)).setCell ⟨w.heap.size + 1, 2, none⟩ (.int .i64 (c : Int))) :=
  ⟨((h.x.other (by omega) _).other (by omega) _).other (by omega) _, h.y.set b d c, ((h.r.other (by omega) _).other (by omega) _).other (by omega) _, ((h.bel.setCell (by simp) _).setCell (by simp) _).setCell (by simp) _⟩
theorem PEnv.setR (h : PEnv T b1 d1 c1 b2 d2 c2 b3 d3 c3 w W) (b : Bool) (d : ByteArray) (c : Nat) : PEnv T b1 d1 c1 b2 d2 c2 b d c w (((W.setCell ⟨w.heap.size + 1 + 1, 0, none⟩ (.bool b)).setCell ⟨w.heap.size + 1 + 1, 1, none⟩ (.string d)).setCell ⟨w.heap.size + 1 + 1, 2, none⟩ (.int .i64 (c : Int))) :=
  ⟨((h.x.other (by omega) _).other (by omega) _).other (by omega) _, ((h.y.other (by omega) _).other (by omega) _).other (by omega) _, h.r.set b d c, ((h.bel.setCell (by simp; omega) _).setCell (by simp; omega) _).setCell (by simp; omega) _⟩
end
theorem canon_size_le {a b : ByteArray} (ha : Canon a.data.toList) (hb : Canon b.data.toList) (h : valL a.data.toList ≤ valL b.data.toList) : a.size ≤ b.size := by
  have h1 := len_size a
  have h2 := len_size b
  rcases Nat.lt_or_ge b.size a.size with h3 | h3
  · have := canon_len hb ha (by omega)
    omega
  · exact h3
theorem exI_diff {v1 v2 : Int} {b1 b2 : Bool} {d1 d2 : ByteArray} (h1 : ExI v1 b1 d1) (h2 : ExI v2 b2 d2) (hb : b2 = !b1) (hlt : valL d2.data.toList < valL d1.data.toList) {d : ByteArray} (hc : Canon d.data.toList) (hv : valL d.data.toList = valL d1.data.toList - valL d2.data.toList) : ExI (v1 + v2) b1 d := by
  have e1 := h1.neg
  have e2 := h2.neg
  have f1 := h1.val
  have f2 := h2.val
  subst hb
  refine ⟨hc, ?_, ?_⟩
  · cases b1 <;> simp at e1 e2 <;> omega
  · cases b1 <;> simp at e1 e2 ⊢ <;> omega
end Go.Pw
namespace Go.Proofs.YtoieicdnehnacaaGreatDoor
open Go.RowKit Go.Pw
set_option maxHeartbeats 8000000 in
set_option maxRecDepth 100000 in
theorem decPlus_any (v1 v2 : Int) (b1 b2 : Bool) (d1 d2 : ByteArray) (c1 c2 s : Nat) (w : World) (h1 : ExI v1 b1 d1) (h2 : ExI v2 b2 d2) (hz1 : d1.size ≤ 1000) (hz2 : d2.size ≤ 1000) (hs : max c1 c2 = s) (hs1 : s ≤ 1000)
    (hv1 : (v1 * (10 : Int) ^ (s - c1)).natAbs < 10 ^ 1000) (hv2 : (v2 * (10 : Int) ^ (s - c2)).natAbs < 10 ^ 1000) :
    Calls Tryz.prog 44 #[.agg #[.bool b1, .string d1, .int .i64 (c1 : Int)], .agg #[.bool b2, .string d2, .int .i64 (c2 : Int)]] w fun e w' => DecR (v1 * (10 : Int) ^ (s - c1) + v2 * (10 : Int) ^ (s - c2)) s e ∧ Below w.heap.size w w' := by
  have HC1 := hide (fun V => decCut_any v1 b1 d1 c1 s V h1 hz1 (by omega) hs1)
  have HC2 := hide (fun V => decCut_any v2 b2 d2 c2 s V h2 hz2 (by omega) hs1)
  obtain ⟨V1, hV1⟩ : ∃ V1, v1 * (10 : Int) ^ (s - c1) = V1 := ⟨_, rfl⟩
  obtain ⟨V2, hV2⟩ : ∃ V2, v2 * (10 : Int) ^ (s - c2) = V2 := ⟨_, rfl⟩
  rw [hV1] at HC1 hv1 ⊢
  rw [hV2] at HC2 hv2 ⊢
  have Hv1 := hide hv1
  have Hv2 := hide hv2
  have hmx : max (c1 : Int) (c2 : Int) = (s : Int) := by omega
  have EN := hide (PEnv.start 71 b1 b2 false d1 d2 ⟨#[]⟩ c1 c2 0 w)
  obtain ⟨W3, hW3⟩ : ∃ W3, ((w.alloc (.cells #[.bool b1, .string d1, .int .i64 (c1 : Int)] 71)).alloc (.cells #[.bool b2, .string d2, .int .i64 (c2 : Int)] 71)).alloc (.cells #[.bool false, .string ⟨#[]⟩, .int .i64 ((0 : Nat) : Int)] 71) = W3 := ⟨_, rfl⟩
  rw [hW3] at EN
  have HW3 : Hid (((w.alloc (.cells #[.bool b1, .string d1, .int .i64 (c1 : Int)] 71)).alloc (.cells #[.bool b2, .string d2, .int .i64 (c2 : Int)] 71)).alloc (.cells #[.bool false, .string ⟨#[]⟩, .int .i64 0] 71) = W3) := hide hW3
  clear h1 h2 hz1 hz2 hs hV1 hV2 hv1 hv2 hW3
  go_enter Tryz.func44, Tryz.ntmps44
  go_upto_region 2 with fail
  rw [HW3.out]
  go_cut [5] from 12 to 17 (fun x wx => x = .int .i64 (s : Int) ∧ ∃ e1 e2 : Bool, ∃ D1 D2 : ByteArray, ExI V1 e1 D1 ∧ ExI V2 e2 D2 ∧ PEnv 71 e1 D1 s e2 D2 s false ⟨#[]⟩ 0 w wx)
  case first =>
    obtain ⟨a0, a1, a2⟩ := EN.out.x.cells
    obtain ⟨y0, y1, y2⟩ := EN.out.y.cells
    have f0 := EN.out.x.frozen 0
    have f1 := EN.out.x.frozen 1
    have f2 := EN.out.x.frozen 2
    have g0 := EN.out.y.frozen 0
    have g1 := EN.out.y.frozen 1
    have g2 := EN.out.y.frozen 2
    go_region_with (go_at_call 43; first
      | ((with_reducible refine (HC1.out _).mono ?_); rintro e w4 ⟨⟨e1, D1, rfl, hx1⟩, hb4⟩; have HX1 := hide hx1; clear hx1; (first | (have EN := hide (PEnv.next EN.out hb4 rfl rfl rfl rfl (Nat.le_refl _)); clear hb4) | (have EN := hide (PEnv.next (PEnv.setY EN.out e2 D2 s) hb4 rfl rfl rfl rfl (Nat.le_refl _)); clear hb4)); clear a0 a1 a2 y0 y1 y2 f0 f1 f2 g0 g1 g2; obtain ⟨a0, a1, a2⟩ := EN.out.x.cells; obtain ⟨y0, y1, y2⟩ := EN.out.y.cells; have f0 := EN.out.x.frozen 0; have f1 := EN.out.x.frozen 1; have f2 := EN.out.x.frozen 2; have g0 := EN.out.y.frozen 0; have g1 := EN.out.y.frozen 1; have g2 := EN.out.y.frozen 2)
      | ((with_reducible refine (HC2.out _).mono ?_); rintro e w4 ⟨⟨e2, D2, rfl, hx2⟩, hb4⟩; have HX2 := hide hx2; clear hx2; (first | (have EN := hide (PEnv.next EN.out hb4 rfl rfl rfl rfl (Nat.le_refl _)); clear hb4) | (have EN := hide (PEnv.next (PEnv.setX EN.out e1 D1 s) hb4 rfl rfl rfl rfl (Nat.le_refl _)); clear hb4)); clear a0 a1 a2 y0 y1 y2 f0 f1 f2 g0 g1 g2; obtain ⟨a0, a1, a2⟩ := EN.out.x.cells; obtain ⟨y0, y1, y2⟩ := EN.out.y.cells; have f0 := EN.out.x.frozen 0; have f1 := EN.out.x.frozen 1; have f2 := EN.out.x.frozen 2; have g0 := EN.out.y.frozen 0; have g1 := EN.out.y.frozen 1; have g2 := EN.out.y.frozen 2))
    all_goals
      go_wp2_with fail
      go_meet
      case rel => exact ⟨rfl, e1, e2, D1, D2, HX1.out, HX2.out, by
        first
          | exact PEnv.setY (PEnv.setX EN.out e1 D1 s) e2 D2 s
          | exact PEnv.setX (PEnv.setY EN.out e2 D2 s) e1 D1 s
          | exact PEnv.setY EN.out e2 D2 s
          | exact PEnv.setX EN.out e1 D1 s⟩
  case rest =>
    obtain ⟨rfl, e1, e2, D1, D2, hx1, hx2, en⟩ := hcut
    clear EN HC1 HC2 HW3 hmx
    have EN := hide en
    have hd1 : D1.size ≤ 1000 := canon_size hx1.canon (by rw [hx1.val]; exact Hv1.out)
    have hd2 : D2.size ≤ 1000 := canon_size hx2.canon (by rw [hx2.val]; exact Hv2.out)
    clear en Hv1 Hv2
    have hne1 : ¬ (w.heap.size = w.heap.size + 1 + 1) := by omega
    have hne2 : ¬ (w.heap.size + 1 + 1 = w.heap.size) := by omega
    obtain ⟨a0, a1, a2⟩ := EN.out.x.cells
    obtain ⟨y0, y1, y2⟩ := EN.out.y.cells
    cases e1
    · cases e2
      · skip
        have HC := hide (fun V => natAdd_any D1 D2 V hx1.canon.1 hx2.canon.1 (by omega) (by omega))
        have HV : Hid (∀ d : ByteArray, Canon d.data.toList → valL d.data.toList = valL D1.data.toList + valL D2.data.toList → ExI (V1 + V2) false d) := hide (fun d hc hv => exI_same hx1.neg hx2.neg hc (by rw [hv, hx1.val, hx2.val]))
        clear hx1 hx2
        go_wp2_with fail
        go_region_held3 (fun w' => w'.cell? ⟨w.heap.size, 0, none⟩ = some (.bool false) ∧ w'.cell? ⟨w.heap.size, 1, none⟩ = some (.string D1) ∧ w'.cell? ⟨w.heap.size + 1, 1, none⟩ = some (.string D2)) (go_keep)
          ((go_at_call 105; (with_reducible refine (HC.out _).mono ?_); rintro e w4 ⟨⟨d, rfl, hcd, hvd⟩, hb4⟩; have HD := hide (HV.out d hcd hvd); have EN := hide (PEnv.next EN.out hb4 rfl rfl rfl rfl (Nat.le_refl _)); clear hb4 hcd hvd; obtain ⟨q0, q1, _⟩ := EN.out.x.cells; obtain ⟨_, q3, _⟩ := EN.out.y.cells; obtain ⟨q9, q10, q11⟩ := EN.out.r.cells; have q6 := EN.out.r.frozen 0; have q7 := EN.out.r.frozen 1; have q8 := EN.out.r.frozen 2))
        have HR := hide (EN.out.setR false d s)
        obtain ⟨w5, hw5⟩ : ∃ w5, (((w4.setCell ⟨w.heap.size + 1 + 1, 0, none⟩ (.bool false)).setCell ⟨w.heap.size + 1 + 1, 1, none⟩ (.string d)).setCell ⟨w.heap.size + 1 + 1, 2, none⟩ (.int .i64 (s : Int))) = w5 := ⟨_, rfl⟩
        rw [hw5] at HR
        rw [hw5]
        clear hw5
        go_wp2_with fail
        (try simp only [Exit.inBlock, Exit.then])
        refine bodyPost_ret (decResult rfl _ _ (w.heap.size + 1 + 1) false d s rfl HR.out.r) rfl ?_
        exact ⟨⟨_, _, rfl, HD.out⟩, HR.out.bel⟩
      · skip
        have HCD := hide (fun V => natCmp_any D1 D2 V hx1.canon hx2.canon (by omega) (by omega))
        rcases Nat.lt_trichotomy (valL D1.data.toList) (valL D2.data.toList) with hlt | heq | hgt
        · skip
          have e1 : Lib.compareInt (valL D1.data.toList : Int) (valL D2.data.toList : Int) = -1 := by unfold Lib.compareInt; rw [if_pos (by omega)]
          simp only [e1] at HCD
          clear e1
          have HC := hide (fun V => natSub_any D2 D1 V hx2.canon.1 hx1.canon.1 (by omega) (canon_size_le hx1.canon hx2.canon (by omega)) (by omega))
          have HV : Hid (∀ d : ByteArray, Canon d.data.toList → valL d.data.toList = valL D2.data.toList - valL D1.data.toList → ExI (V1 + V2) true d) := hide (fun d hc hv => by rw [Int.add_comm]; exact exI_diff hx2 hx1 rfl hlt hc hv)
          clear hx1 hx2 hlt
          go_wp2_with fail
          refine (HCD.out _).mono ?_
          rintro e w3 ⟨rfl, hb3⟩
          have EN := hide (PEnv.next EN.out hb3 rfl rfl rfl rfl (Nat.le_refl _))
          clear hb3 a0 a1 a2 y0 y1 y2
          obtain ⟨a0, a1, a2⟩ := EN.out.x.cells
          obtain ⟨y0, y1, y2⟩ := EN.out.y.cells
          have f0 := EN.out.x.frozen 0; have f1 := EN.out.x.frozen 1; have f2 := EN.out.x.frozen 2
          have g0 := EN.out.y.frozen 0; have g1 := EN.out.y.frozen 1; have g2 := EN.out.y.frozen 2
          go_wp2_with fail
          have EN := hide ((EN.out.setX true D2 s).setY false D1 s)
          obtain ⟨W5, hW5⟩ : ∃ W5, ((((((w3.setCell ⟨w.heap.size, 0, none⟩ (.bool true)).setCell ⟨w.heap.size, 1, none⟩ (.string D2)).setCell ⟨w.heap.size, 2, none⟩ (.int .i64 (s : Int))).setCell ⟨w.heap.size + 1, 0, none⟩ (.bool false)).setCell ⟨w.heap.size + 1, 1, none⟩ (.string D1)).setCell ⟨w.heap.size + 1, 2, none⟩ (.int .i64 (s : Int))) = W5 := ⟨_, rfl⟩
          rw [hW5] at EN
          rw [hW5]
          clear hW5 a0 a1 a2 y0 y1 y2 f0 f1 f2 g0 g1 g2
          obtain ⟨a0, a1, a2⟩ := EN.out.x.cells
          obtain ⟨y0, y1, y2⟩ := EN.out.y.cells
          go_region_held3 (fun w' => w'.cell? ⟨w.heap.size, 0, none⟩ = some (.bool true) ∧ w'.cell? ⟨w.heap.size, 1, none⟩ = some (.string D2) ∧ w'.cell? ⟨w.heap.size + 1, 1, none⟩ = some (.string D1)) (go_keep)
            ((go_at_call 107; (with_reducible refine (HC.out _).mono ?_); rintro e w4 ⟨⟨d, rfl, hcd, hvd⟩, hb4⟩; have HD := hide (HV.out d hcd hvd); have EN := hide (PEnv.next EN.out hb4 rfl rfl rfl rfl (Nat.le_refl _)); clear hb4 hcd hvd; obtain ⟨q0, q1, _⟩ := EN.out.x.cells; obtain ⟨_, q3, _⟩ := EN.out.y.cells; obtain ⟨q9, q10, q11⟩ := EN.out.r.cells; have q6 := EN.out.r.frozen 0; have q7 := EN.out.r.frozen 1; have q8 := EN.out.r.frozen 2))
          have HR := hide (EN.out.setR true d s)
          obtain ⟨w5, hw5⟩ : ∃ w5, (((w4.setCell ⟨w.heap.size + 1 + 1, 0, none⟩ (.bool true)).setCell ⟨w.heap.size + 1 + 1, 1, none⟩ (.string d)).setCell ⟨w.heap.size + 1 + 1, 2, none⟩ (.int .i64 (s : Int))) = w5 := ⟨_, rfl⟩
          rw [hw5] at HR
          rw [hw5]
          clear hw5
          go_wp2_with fail
          (try simp only [Exit.inBlock, Exit.then])
          refine bodyPost_ret (decResult rfl _ _ (w.heap.size + 1 + 1) true d s rfl HR.out.r) rfl ?_
          exact ⟨⟨_, _, rfl, HD.out⟩, HR.out.bel⟩
        · skip
          have e1 : Lib.compareInt (valL D1.data.toList : Int) (valL D2.data.toList : Int) = 0 := by unfold Lib.compareInt; rw [if_neg (by omega), if_neg (by omega)]
          simp only [e1] at HCD
          clear e1
          have HD : Hid (ExI (V1 + V2) false ⟨#[]⟩) := hide (by
            have f1 := hx1.val; have f2 := hx2.val; have k1 := hx1.neg; have k2 := hx2.neg
            have h0 : V1 + V2 = 0 := by simp at k1 k2; omega
            rw [h0]
            exact ⟨⟨(by intro c hc; simp at hc), (by intro h; simp at h)⟩, rfl, rfl⟩)
          clear hx1 hx2 heq
          go_wp2_with fail
          refine (HCD.out _).mono ?_
          rintro e w3 ⟨rfl, hb3⟩
          have EN := hide (PEnv.next EN.out hb3 rfl rfl rfl rfl (Nat.le_refl _))
          clear hb3 a0 a1 a2 y0 y1 y2
          obtain ⟨a0, a1, a2⟩ := EN.out.x.cells
          obtain ⟨y0, y1, y2⟩ := EN.out.y.cells
          have q6 := EN.out.r.frozen 0; have q7 := EN.out.r.frozen 1; have q8 := EN.out.r.frozen 2
          obtain ⟨q9, q10, q11⟩ := EN.out.r.cells
          have HR := hide (EN.out.setR false ⟨#[]⟩ s)
          go_wp2_with fail
          (try simp only [Exit.inBlock, Exit.then])
          refine bodyPost_ret (decResult rfl _ _ (w.heap.size + 1 + 1) false ⟨#[]⟩ s rfl HR.out.r) rfl ?_
          exact ⟨⟨_, _, rfl, HD.out⟩, HR.out.bel⟩
        · skip
          have e1 : Lib.compareInt (valL D1.data.toList : Int) (valL D2.data.toList : Int) = 1 := by unfold Lib.compareInt; rw [if_neg (by omega), if_pos (by omega)]
          simp only [e1] at HCD
          clear e1
          have HC := hide (fun V => natSub_any D1 D2 V hx1.canon.1 hx2.canon.1 (by omega) (canon_size_le hx2.canon hx1.canon (by omega)) (by omega))
          have HV : Hid (∀ d : ByteArray, Canon d.data.toList → valL d.data.toList = valL D1.data.toList - valL D2.data.toList → ExI (V1 + V2) false d) := hide (fun d hc hv => exI_diff hx1 hx2 rfl hgt hc hv)
          clear hx1 hx2 hgt
          go_wp2_with fail
          refine (HCD.out _).mono ?_
          rintro e w3 ⟨rfl, hb3⟩
          have EN := hide (PEnv.next EN.out hb3 rfl rfl rfl rfl (Nat.le_refl _))
          clear hb3 a0 a1 a2 y0 y1 y2
          obtain ⟨a0, a1, a2⟩ := EN.out.x.cells
          obtain ⟨y0, y1, y2⟩ := EN.out.y.cells
          go_wp2_with fail
          go_region_held3 (fun w' => w'.cell? ⟨w.heap.size, 0, none⟩ = some (.bool false) ∧ w'.cell? ⟨w.heap.size, 1, none⟩ = some (.string D1) ∧ w'.cell? ⟨w.heap.size + 1, 1, none⟩ = some (.string D2)) (go_keep)
            ((go_at_call 107; (with_reducible refine (HC.out _).mono ?_); rintro e w4 ⟨⟨d, rfl, hcd, hvd⟩, hb4⟩; have HD := hide (HV.out d hcd hvd); have EN := hide (PEnv.next EN.out hb4 rfl rfl rfl rfl (Nat.le_refl _)); clear hb4 hcd hvd; obtain ⟨q0, q1, _⟩ := EN.out.x.cells; obtain ⟨_, q3, _⟩ := EN.out.y.cells; obtain ⟨q9, q10, q11⟩ := EN.out.r.cells; have q6 := EN.out.r.frozen 0; have q7 := EN.out.r.frozen 1; have q8 := EN.out.r.frozen 2))
          have HR := hide (EN.out.setR false d s)
          obtain ⟨w5, hw5⟩ : ∃ w5, (((w4.setCell ⟨w.heap.size + 1 + 1, 0, none⟩ (.bool false)).setCell ⟨w.heap.size + 1 + 1, 1, none⟩ (.string d)).setCell ⟨w.heap.size + 1 + 1, 2, none⟩ (.int .i64 (s : Int))) = w5 := ⟨_, rfl⟩
          rw [hw5] at HR
          rw [hw5]
          clear hw5
          go_wp2_with fail
          (try simp only [Exit.inBlock, Exit.then])
          refine bodyPost_ret (decResult rfl _ _ (w.heap.size + 1 + 1) false d s rfl HR.out.r) rfl ?_
          exact ⟨⟨_, _, rfl, HD.out⟩, HR.out.bel⟩
    · cases e2
      · skip
        have HCD := hide (fun V => natCmp_any D1 D2 V hx1.canon hx2.canon (by omega) (by omega))
        rcases Nat.lt_trichotomy (valL D1.data.toList) (valL D2.data.toList) with hlt | heq | hgt
        · skip
          have e1 : Lib.compareInt (valL D1.data.toList : Int) (valL D2.data.toList : Int) = -1 := by unfold Lib.compareInt; rw [if_pos (by omega)]
          simp only [e1] at HCD
          clear e1
          have HC := hide (fun V => natSub_any D2 D1 V hx2.canon.1 hx1.canon.1 (by omega) (canon_size_le hx1.canon hx2.canon (by omega)) (by omega))
          have HV : Hid (∀ d : ByteArray, Canon d.data.toList → valL d.data.toList = valL D2.data.toList - valL D1.data.toList → ExI (V1 + V2) false d) := hide (fun d hc hv => by rw [Int.add_comm]; exact exI_diff hx2 hx1 rfl hlt hc hv)
          clear hx1 hx2 hlt
          go_wp2_with fail
          refine (HCD.out _).mono ?_
          rintro e w3 ⟨rfl, hb3⟩
          have EN := hide (PEnv.next EN.out hb3 rfl rfl rfl rfl (Nat.le_refl _))
          clear hb3 a0 a1 a2 y0 y1 y2
          obtain ⟨a0, a1, a2⟩ := EN.out.x.cells
          obtain ⟨y0, y1, y2⟩ := EN.out.y.cells
          have f0 := EN.out.x.frozen 0; have f1 := EN.out.x.frozen 1; have f2 := EN.out.x.frozen 2
          have g0 := EN.out.y.frozen 0; have g1 := EN.out.y.frozen 1; have g2 := EN.out.y.frozen 2
          go_wp2_with fail
          have EN := hide ((EN.out.setX false D2 s).setY true D1 s)
          obtain ⟨W5, hW5⟩ : ∃ W5, ((((((w3.setCell ⟨w.heap.size, 0, none⟩ (.bool false)).setCell ⟨w.heap.size, 1, none⟩ (.string D2)).setCell ⟨w.heap.size, 2, none⟩ (.int .i64 (s : Int))).setCell ⟨w.heap.size + 1, 0, none⟩ (.bool true)).setCell ⟨w.heap.size + 1, 1, none⟩ (.string D1)).setCell ⟨w.heap.size + 1, 2, none⟩ (.int .i64 (s : Int))) = W5 := ⟨_, rfl⟩
          rw [hW5] at EN
          rw [hW5]
          clear hW5 a0 a1 a2 y0 y1 y2 f0 f1 f2 g0 g1 g2
          obtain ⟨a0, a1, a2⟩ := EN.out.x.cells
          obtain ⟨y0, y1, y2⟩ := EN.out.y.cells
          go_region_held3 (fun w' => w'.cell? ⟨w.heap.size, 0, none⟩ = some (.bool false) ∧ w'.cell? ⟨w.heap.size, 1, none⟩ = some (.string D2) ∧ w'.cell? ⟨w.heap.size + 1, 1, none⟩ = some (.string D1)) (go_keep)
            ((go_at_call 107; (with_reducible refine (HC.out _).mono ?_); rintro e w4 ⟨⟨d, rfl, hcd, hvd⟩, hb4⟩; have HD := hide (HV.out d hcd hvd); have EN := hide (PEnv.next EN.out hb4 rfl rfl rfl rfl (Nat.le_refl _)); clear hb4 hcd hvd; obtain ⟨q0, q1, _⟩ := EN.out.x.cells; obtain ⟨_, q3, _⟩ := EN.out.y.cells; obtain ⟨q9, q10, q11⟩ := EN.out.r.cells; have q6 := EN.out.r.frozen 0; have q7 := EN.out.r.frozen 1; have q8 := EN.out.r.frozen 2))
          have HR := hide (EN.out.setR false d s)
          obtain ⟨w5, hw5⟩ : ∃ w5, (((w4.setCell ⟨w.heap.size + 1 + 1, 0, none⟩ (.bool false)).setCell ⟨w.heap.size + 1 + 1, 1, none⟩ (.string d)).setCell ⟨w.heap.size + 1 + 1, 2, none⟩ (.int .i64 (s : Int))) = w5 := ⟨_, rfl⟩
          rw [hw5] at HR
          rw [hw5]
          clear hw5
          go_wp2_with fail
          (try simp only [Exit.inBlock, Exit.then])
          refine bodyPost_ret (decResult rfl _ _ (w.heap.size + 1 + 1) false d s rfl HR.out.r) rfl ?_
          exact ⟨⟨_, _, rfl, HD.out⟩, HR.out.bel⟩
        · skip
          have e1 : Lib.compareInt (valL D1.data.toList : Int) (valL D2.data.toList : Int) = 0 := by unfold Lib.compareInt; rw [if_neg (by omega), if_neg (by omega)]
          simp only [e1] at HCD
          clear e1
          have HD : Hid (ExI (V1 + V2) false ⟨#[]⟩) := hide (by
            have f1 := hx1.val; have f2 := hx2.val; have k1 := hx1.neg; have k2 := hx2.neg
            have h0 : V1 + V2 = 0 := by simp at k1 k2; omega
            rw [h0]
            exact ⟨⟨(by intro c hc; simp at hc), (by intro h; simp at h)⟩, rfl, rfl⟩)
          clear hx1 hx2 heq
          go_wp2_with fail
          refine (HCD.out _).mono ?_
          rintro e w3 ⟨rfl, hb3⟩
          have EN := hide (PEnv.next EN.out hb3 rfl rfl rfl rfl (Nat.le_refl _))
          clear hb3 a0 a1 a2 y0 y1 y2
          obtain ⟨a0, a1, a2⟩ := EN.out.x.cells
          obtain ⟨y0, y1, y2⟩ := EN.out.y.cells
          have q6 := EN.out.r.frozen 0; have q7 := EN.out.r.frozen 1; have q8 := EN.out.r.frozen 2
          obtain ⟨q9, q10, q11⟩ := EN.out.r.cells
          have HR := hide (EN.out.setR false ⟨#[]⟩ s)
          go_wp2_with fail
          (try simp only [Exit.inBlock, Exit.then])
          refine bodyPost_ret (decResult rfl _ _ (w.heap.size + 1 + 1) false ⟨#[]⟩ s rfl HR.out.r) rfl ?_
          exact ⟨⟨_, _, rfl, HD.out⟩, HR.out.bel⟩
        · skip
          have e1 : Lib.compareInt (valL D1.data.toList : Int) (valL D2.data.toList : Int) = 1 := by unfold Lib.compareInt; rw [if_neg (by omega), if_pos (by omega)]
          simp only [e1] at HCD
          clear e1
          have HC := hide (fun V => natSub_any D1 D2 V hx1.canon.1 hx2.canon.1 (by omega) (canon_size_le hx2.canon hx1.canon (by omega)) (by omega))
          have HV : Hid (∀ d : ByteArray, Canon d.data.toList → valL d.data.toList = valL D1.data.toList - valL D2.data.toList → ExI (V1 + V2) true d) := hide (fun d hc hv => exI_diff hx1 hx2 rfl hgt hc hv)
          clear hx1 hx2 hgt
          go_wp2_with fail
          refine (HCD.out _).mono ?_
          rintro e w3 ⟨rfl, hb3⟩
          have EN := hide (PEnv.next EN.out hb3 rfl rfl rfl rfl (Nat.le_refl _))
          clear hb3 a0 a1 a2 y0 y1 y2
          obtain ⟨a0, a1, a2⟩ := EN.out.x.cells
          obtain ⟨y0, y1, y2⟩ := EN.out.y.cells
          go_wp2_with fail
          go_region_held3 (fun w' => w'.cell? ⟨w.heap.size, 0, none⟩ = some (.bool true) ∧ w'.cell? ⟨w.heap.size, 1, none⟩ = some (.string D1) ∧ w'.cell? ⟨w.heap.size + 1, 1, none⟩ = some (.string D2)) (go_keep)
            ((go_at_call 107; (with_reducible refine (HC.out _).mono ?_); rintro e w4 ⟨⟨d, rfl, hcd, hvd⟩, hb4⟩; have HD := hide (HV.out d hcd hvd); have EN := hide (PEnv.next EN.out hb4 rfl rfl rfl rfl (Nat.le_refl _)); clear hb4 hcd hvd; obtain ⟨q0, q1, _⟩ := EN.out.x.cells; obtain ⟨_, q3, _⟩ := EN.out.y.cells; obtain ⟨q9, q10, q11⟩ := EN.out.r.cells; have q6 := EN.out.r.frozen 0; have q7 := EN.out.r.frozen 1; have q8 := EN.out.r.frozen 2))
          have HR := hide (EN.out.setR true d s)
          obtain ⟨w5, hw5⟩ : ∃ w5, (((w4.setCell ⟨w.heap.size + 1 + 1, 0, none⟩ (.bool true)).setCell ⟨w.heap.size + 1 + 1, 1, none⟩ (.string d)).setCell ⟨w.heap.size + 1 + 1, 2, none⟩ (.int .i64 (s : Int))) = w5 := ⟨_, rfl⟩
          rw [hw5] at HR
          rw [hw5]
          clear hw5
          go_wp2_with fail
          (try simp only [Exit.inBlock, Exit.then])
          refine bodyPost_ret (decResult rfl _ _ (w.heap.size + 1 + 1) true d s rfl HR.out.r) rfl ?_
          exact ⟨⟨_, _, rfl, HD.out⟩, HR.out.bel⟩
      · skip
        have HC := hide (fun V => natAdd_any D1 D2 V hx1.canon.1 hx2.canon.1 (by omega) (by omega))
        have HV : Hid (∀ d : ByteArray, Canon d.data.toList → valL d.data.toList = valL D1.data.toList + valL D2.data.toList → ExI (V1 + V2) true d) := hide (fun d hc hv => exI_same hx1.neg hx2.neg hc (by rw [hv, hx1.val, hx2.val]))
        clear hx1 hx2
        go_wp2_with fail
        go_region_held3 (fun w' => w'.cell? ⟨w.heap.size, 0, none⟩ = some (.bool true) ∧ w'.cell? ⟨w.heap.size, 1, none⟩ = some (.string D1) ∧ w'.cell? ⟨w.heap.size + 1, 1, none⟩ = some (.string D2)) (go_keep)
          ((go_at_call 105; (with_reducible refine (HC.out _).mono ?_); rintro e w4 ⟨⟨d, rfl, hcd, hvd⟩, hb4⟩; have HD := hide (HV.out d hcd hvd); have EN := hide (PEnv.next EN.out hb4 rfl rfl rfl rfl (Nat.le_refl _)); clear hb4 hcd hvd; obtain ⟨q0, q1, _⟩ := EN.out.x.cells; obtain ⟨_, q3, _⟩ := EN.out.y.cells; obtain ⟨q9, q10, q11⟩ := EN.out.r.cells; have q6 := EN.out.r.frozen 0; have q7 := EN.out.r.frozen 1; have q8 := EN.out.r.frozen 2))
        have HR := hide (EN.out.setR true d s)
        obtain ⟨w5, hw5⟩ : ∃ w5, (((w4.setCell ⟨w.heap.size + 1 + 1, 0, none⟩ (.bool true)).setCell ⟨w.heap.size + 1 + 1, 1, none⟩ (.string d)).setCell ⟨w.heap.size + 1 + 1, 2, none⟩ (.int .i64 (s : Int))) = w5 := ⟨_, rfl⟩
        rw [hw5] at HR
        rw [hw5]
        clear hw5
        go_wp2_with fail
        (try simp only [Exit.inBlock, Exit.then])
        refine bodyPost_ret (decResult rfl _ _ (w.heap.size + 1 + 1) true d s rfl HR.out.r) rfl ?_
        exact ⟨⟨_, _, rfl, HD.out⟩, HR.out.bel⟩
end Go.Proofs.YtoieicdnehnacaaGreatDoor
