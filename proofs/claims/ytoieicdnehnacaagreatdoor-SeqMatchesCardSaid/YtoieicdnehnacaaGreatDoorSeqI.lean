/- The reference's decimals: Compare. -/
import Derived.Test.YtoieicdnehnacaaGreatDoorSeqH
set_option linter.unusedVariables false
set_option linter.unusedSimpArgs false
namespace Go.Pw
open Go.RowKit
theorem DEnv.alloc {T : TypeId} {b : Bool} {d : ByteArray} {c : Nat} {b2 : Bool} {d2 : ByteArray} {c2 : Nat} {w W : World} (h : DEnv T b d c b2 d2 c2 w W) (o : Obj) : DEnv T b d c b2 d2 c2 w (W.alloc o) :=
  have hb := (Below.refl W.heap.size W).alloc (Nat.le_refl _) o
  ⟨h.x.below hb h.x.lt, h.r.below hb h.r.lt, h.bel.alloc (Nat.le_trans (by omega) (Nat.le_of_lt h.x.lt)) o⟩
theorem DEnv.far {T : TypeId} {b : Bool} {d : ByteArray} {c : Nat} {b2 : Bool} {d2 : ByteArray} {c2 : Nat} {w W : World} (h : DEnv T b d c b2 d2 c2 w W) : ¬ (W.heap.size = w.heap.size) ∧ ¬ (W.heap.size = w.heap.size + 1) ∧ ¬ (w.heap.size = W.heap.size) ∧ ¬ (w.heap.size + 1 = W.heap.size) ∧ w.heap.size ≤ W.heap.size := by
  have := h.r.lt
  refine ⟨?_, ?_, ?_, ?_, ?_⟩ <;> omega
theorem dat_new (W : World) (T : TypeId) (b : Bool) (d : ByteArray) (c : Nat) : DAt (W.alloc (.cells #[.bool b, .string d, .int .i64 (c : Int)] T)) W.heap.size T b d c := heap_alloc_new _ _
theorem dat_new0 (W : World) (T : TypeId) : DAt (W.alloc (.cells #[.bool false, .string ⟨#[]⟩, .int .i64 0] T)) W.heap.size T false ⟨#[]⟩ 0 := heap_alloc_new _ _
theorem dat_new0d (W : World) (T : TypeId) : DAt (World.drew (W.alloc (.cells #[.bool false, .string ⟨#[]⟩, .int .i64 0] T))) W.heap.size T false ⟨#[]⟩ 0 := heap_alloc_new _ _
theorem DEnv.setAt {T : TypeId} {b : Bool} {d : ByteArray} {c : Nat} {b2 : Bool} {d2 : ByteArray} {c2 : Nat} {w W : World} (h : DEnv T b d c b2 d2 c2 w W) {g : Nat} (hg : w.heap.size ≤ g) (x y z : Value) : Below w.heap.size w (((W.setCell ⟨g, 0, none⟩ x).setCell ⟨g, 1, none⟩ y).setCell ⟨g, 2, none⟩ z) :=
  ((h.bel.setCell (by simpa using hg) _).setCell (by simpa using hg) _).setCell (by simpa using hg) _
end Go.Pw
namespace Go.Proofs.YtoieicdnehnacaaGreatDoor
open Go.RowKit Go.Pw
set_option maxHeartbeats 8000000 in
set_option maxRecDepth 100000 in
theorem decCompare_any (v1 v2 : Int) (b1 b2 : Bool) (d1 d2 : ByteArray) (c1 c2 s : Nat) (w : World) (h1 : ExI v1 b1 d1) (h2 : ExI v2 b2 d2) (hz1 : d1.size ≤ 1000) (hz2 : d2.size ≤ 1000) (hs : max c1 c2 = s) (hs1 : s ≤ 1000)
    (hv1 : (v1 * (10 : Int) ^ (s - c1)).natAbs < 10 ^ 1000) (hv2 : (v2 * (10 : Int) ^ (s - c2)).natAbs < 10 ^ 1000) (hv : v2.natAbs < 10 ^ 1000) :
    Calls Tryz.prog 45 #[.agg #[.bool b1, .string d1, .int .i64 (c1 : Int)], .agg #[.bool b2, .string d2, .int .i64 (c2 : Int)]] w fun e w' => e = .returned (.int .i64 (Lib.compareInt (v1 * (10 : Int) ^ (s - c1)) (v2 * (10 : Int) ^ (s - c2)))) ∧ Below w.heap.size w w' := by
  have HM := hide (fun V => decMinus_any v2 b2 d2 c2 V h2)
  have HP := hide (fun (bm : Bool) (dm : ByteArray) (hm : ExI (-v2) bm dm) V => decPlus_any v1 (-v2) b1 bm d1 dm c1 c2 s V h1 hm hz1 (canon_size hm.canon (by rw [hm.val, Int.natAbs_neg]; exact hv)) hs hs1 hv1 (by rw [Int.neg_mul, Int.natAbs_neg]; exact hv2))
  obtain ⟨V1, hV1⟩ : ∃ V1, v1 * (10 : Int) ^ (s - c1) = V1 := ⟨_, rfl⟩
  obtain ⟨V2, hV2⟩ : ∃ V2, v2 * (10 : Int) ^ (s - c2) = V2 := ⟨_, rfl⟩
  have HP : Hid (∀ (bm : Bool) (dm : ByteArray), ExI (-v2) bm dm → ∀ V, Calls Tryz.prog 44 #[.agg #[.bool b1, .string d1, .int .i64 (c1 : Int)], .agg #[.bool bm, .string dm, .int .i64 (c2 : Int)]] V fun e w' => DecR (V1 - V2) s e ∧ Below V.heap.size V w') := hide (fun bm dm hm V => by
    have := HP.out bm dm hm V
    rw [Int.neg_mul, hV1, hV2, ← Int.sub_eq_add_neg] at this
    exact this)
  rw [hV1, hV2]
  have E3 := dec_two w 71 b1 b2 d1 d2 c1 c2
  have EN : Hid (DEnv 71 b1 d1 c1 b2 d2 c2 w ((w.alloc (.cells #[.bool b1, .string d1, .int .i64 (c1 : Int)] 71)).alloc (.cells #[.bool b2, .string d2, .int .i64 (c2 : Int)] 71))) := hide ⟨E3.1, E3.2.1, E3.2.2⟩
  obtain ⟨W3, hW3⟩ : ∃ W3, (w.alloc (.cells #[.bool b1, .string d1, .int .i64 (c1 : Int)] 71)).alloc (.cells #[.bool b2, .string d2, .int .i64 (c2 : Int)] 71) = W3 := ⟨_, rfl⟩
  rw [hW3] at EN
  have HW3 := hide hW3
  clear h1 h2 hz1 hz2 hs hV1 hV2 hv1 hv2 hv E3 hW3
  go_enter Tryz.func45, Tryz.ntmps45
  go_upto_region 1 with fail
  rw [HW3.out]
  go_cut [5] from 6 to 9 (fun x wx => ∃ g : Nat, ∃ e : Bool, ∃ D : ByteArray, x = .pointer (some ⟨g, 0, none⟩) ∧ ExI (V1 - V2) e D ∧ DAt wx g 71 e D s ∧ Below w.heap.size w wx)
  case first =>
    obtain ⟨a0, a1, a2⟩ := EN.out.x.cells
    obtain ⟨y0, y1, y2⟩ := EN.out.r.cells
    obtain ⟨nW31, nW32, nW33, nW34, nW35⟩ := DEnv.far EN.out
    go_region_held3 (fun w' => w'.cell? ⟨w.heap.size, 0, none⟩ = some (.bool b1) ∧ w'.cell? ⟨w.heap.size, 1, none⟩ = some (.string d1) ∧ w'.cell? ⟨w.heap.size, 2, none⟩ = some (.int .i64 (c1 : Int)) ∧ w'.cell? ⟨w.heap.size + 1, 0, none⟩ = some (.bool b2) ∧ w'.cell? ⟨w.heap.size + 1, 1, none⟩ = some (.string d2) ∧ w'.cell? ⟨w.heap.size + 1, 2, none⟩ = some (.int .i64 (c2 : Int))) (go_keep)
      (first
        | (go_at_call 44; (with_reducible refine (HP.out _ _ HXM.out _).mono ?_); rintro e w6 ⟨⟨bp, dp, rfl, hxp⟩, hb6⟩; have HXP := hide hxp; clear hxp; (first | (have G := hide (DAt.below (dat_new0d _ 71) hb6 (by simp)); have EN := hide (DEnv.next (DEnv.alloc EN.out (.cells #[.bool false, .string ⟨#[]⟩, .int .i64 0] 71)) hb6 rfl rfl rfl rfl (Nat.le_refl _)); clear hb6) | (have G := hide (DAt.below (dat_new0 _ 71) hb6 (by simp)); have EN := hide (DEnv.next (DEnv.alloc EN.out (.cells #[.bool false, .string ⟨#[]⟩, .int .i64 0] 71)) hb6 rfl rfl rfl rfl (Nat.le_refl _)); clear hb6) | (have G := hide (DAt.below G.out hb6 G.out.lt); have EN := hide (DEnv.next EN.out hb6 rfl rfl rfl rfl (Nat.le_refl _)); clear hb6) | (have EN := hide (DEnv.next EN.out hb6 rfl rfl rfl rfl (Nat.le_refl _)); clear hb6)); obtain ⟨nw61, nw62, nw63, nw64, nw65⟩ := DEnv.far EN.out; clear a0 a1 a2 y0 y1 y2; obtain ⟨a0, a1, a2⟩ := EN.out.x.cells; obtain ⟨y0, y1, y2⟩ := EN.out.r.cells; (try (obtain ⟨k0, k1, k2⟩ := G.out.cells; have g0 := G.out.frozen 0; have g1 := G.out.frozen 1; have g2 := G.out.frozen 2)))
        | (go_at_call 108; (with_reducible refine (HM.out _).mono ?_); rintro e w4 ⟨⟨bm, dm, rfl, hxm⟩, hb4⟩; have HXM := hide hxm; clear hxm; (first | (have G := hide (DAt.below (dat_new0d _ 71) hb4 (by simp)); have EN := hide (DEnv.next (DEnv.alloc EN.out (.cells #[.bool false, .string ⟨#[]⟩, .int .i64 0] 71)) hb4 rfl rfl rfl rfl (Nat.le_refl _)); clear hb4) | (have G := hide (DAt.below (dat_new0 _ 71) hb4 (by simp)); have EN := hide (DEnv.next (DEnv.alloc EN.out (.cells #[.bool false, .string ⟨#[]⟩, .int .i64 0] 71)) hb4 rfl rfl rfl rfl (Nat.le_refl _)); clear hb4) | (have EN := hide (DEnv.next EN.out hb4 rfl rfl rfl rfl (Nat.le_refl _)); clear hb4)); obtain ⟨nw41, nw42, nw43, nw44, nw45⟩ := DEnv.far EN.out; clear a0 a1 a2 y0 y1 y2; obtain ⟨a0, a1, a2⟩ := EN.out.x.cells; obtain ⟨y0, y1, y2⟩ := EN.out.r.cells))
    all_goals
      (rename (World.cell? _ _ = _ ∧ _) => hh; clear hh)
      go_wp2_with fail
      go_meet
      case rel => first
        | exact ⟨_, bp, dp, rfl, HXP.out, dat_new _ _ _ _ _, EN.out.bel.alloc nw65 _⟩
        | exact ⟨_, bp, dp, rfl, HXP.out, G.out.set bp dp s, DEnv.setAt EN.out nw45 _ _ _⟩
        | exact ⟨_, bp, dp, rfl, HXP.out, G.out.set bp dp s, DEnv.setAt EN.out nW35 _ _ _⟩
  case rest =>
    obtain ⟨g, e, D, rfl, hx, hd, hbel⟩ := hcut
    have HB := hide hbel
    obtain ⟨k0, k1, k2⟩ := hd.cells
    clear EN HM HP HW3 hd hbel
    have HZ := hx.zero
    have hng := hx.neg
    by_cases h0 : 0 < D.size
    · have he := isEmpty_of h0
      have hne : V1 - V2 ≠ 0 := fun h => by have := HZ.2 h; omega
      cases e
      · have HV : Hid (Lib.compareInt V1 V2 = 1) := hide (by
          simp at hng
          unfold Lib.compareInt
          rw [if_neg (by omega), if_pos (by omega)])
        clear HZ hng hne hx h0
        go_wp2_with fail
        go_ret
        exact ⟨by rw [HV.out]; rfl, HB.out⟩
      · have HV : Hid (Lib.compareInt V1 V2 = -1) := hide (by
          simp at hng
          unfold Lib.compareInt
          rw [if_pos (by omega)])
        clear HZ hng hne hx h0
        go_wp2_with fail
        go_ret
        exact ⟨by rw [HV.out]; rfl, HB.out⟩
    · obtain rfl := empty_of (s := D) (by omega)
      have HV : Hid (Lib.compareInt V1 V2 = 0) := hide (by
        have := HZ.1 rfl
        unfold Lib.compareInt
        rw [if_neg (by omega), if_neg (by omega)])
      clear HZ hng hx h0
      go_wp2_with fail
      go_ret
      exact ⟨by rw [HV.out]; rfl, HB.out⟩
end Go.Proofs.YtoieicdnehnacaaGreatDoor
