/- (*unifier).change: the hunk to which a changed line belongs. -/
import Derived.Test.YtinpgnekjebipaaDoorUrB
import Derived.Deep.RegionLaw
import Derived.Test.YtinpgnekjebipaaDoorRegion2
import Derived.StillTactics
set_option linter.unusedSimpArgs false
set_option linter.unusedVariables false
namespace Go.Pw
theorem chg_old {u : Un} {h : Hk} (hc : u.cur = some h) (hx : u.ctx = []) : u.chg = u := by simp [Un.chg, hc, hx]
theorem chg_new {u : Un} (h : u.cur = none ∨ u.ctx ≠ []) : u.chg = { u with fin := u.all, cur := some u.neu, ctx := [] } := by
  unfold Un.chg
  cases hc : u.cur with
  | none => simp [Un.all, hc]
  | some k =>
    rcases h with h | h
    · rw [hc] at h; cases h
    · simp [h, Un.all, hc]
end Go.Pw
namespace Go.Proofs.YtinpgnekjebipaaDoor
open Go.RowKit Go.Pw
theorem info_hunkU : (Tryd.prog.info? 46).map (fun i => (i.zero, i.size, i.bytes)) = some (some (.agg #[.int .i64 0, .int .i64 0, .slice none 0 0, .slice none 0 0]), 4, 64) := by kernel_rfl
set_option maxHeartbeats 8000000 in
set_option maxRecDepth 100000 in
theorem change_new {w0 w : World} {U : Nat} {fin : List Hk} {cur : Option Hk} {oa : Int} {oc : Nat} {na : Int} {nc : Nat} {oe de : Int} {ctx : List ByteArray} {long : Bool} {i : Nat} {hv cv : Value} {vs : List (Value × Value)}
    (h : UnAt w0 w U ⟨fin, cur, oa, oc, na, nc, oe, de, ctx, long⟩ hv cv vs) (hu : UnOk ⟨fin, cur, oa, oc, na, nc, oe, de, ctx, long⟩ i) (hi : i ≤ 900000) (all : List Hk) (hall : fin ++ cur.toList = all) (hnew : cur = none ∨ ctx ≠ []) :
    Calls Tryd.prog 47 #[.pointer (some ⟨U, 0, none⟩)] w fun e w' => ∃ hv cv vs, e = .returned (lastPtr hv all.length) ∧ UnAt w0 w' U ⟨all, some ⟨oa - ctx.length, na - ctx.length, ctx, ctx⟩, oa, oc, na, nc, oe, de, [], long⟩ hv cv vs := by
  obtain ⟨hn, ⟨hcl, hcz⟩, hok, _, ho1, ho2, hn1, hn2, _⟩ := hu
  simp only [Un.all] at hn hcl hcz hok ho1 ho2 hn1 hn2
  obtain ⟨c0, c1, c2, c3, c4, c5, c6, c7, c8, c9⟩ := h.cells
  have M0 := h
  unfold UnAt at M0
  simp only [Un.all] at M0 c0 c1 c2 c3 c4 c5 c6 c7 c8 c9
  rw [hall] at M0 hn hok
  have hvs := M0.own.len
  have hrow := M0.own.row
  obtain ⟨HA, hc, rfl⟩ := own_fmU hrow
  have hcv := M0.cvOwn
  obtain ⟨CA, cc, rfl⟩ := own_fmU hcv
  have HCL : Hid (∀ W, Below w.heap.size w W → Calls Tryd.prog 57 #[.slice CA ctx.length cc] W fun e w' => ∃ A c, e = .returned (.slice A ctx.length c) ∧ w'.ownsRow W.heap.size 9 1 (.slice A ctx.length c) ctx.length (ctx.map Value.string) ∧ Below W.heap.size W w' ∧ Below w.heap.size w w') := hide fun W hb =>
    (clone_U _ ctx W ⟨.of_own (own_below hcv hb), fun s hs => by have := hcz s hs; unfold maxLen; omega⟩ (by omega)).mono fun e w' ⟨A, c, h1, h2, h3⟩ => ⟨A, c, h1, h2, h3, hb.trans (h3.mono hb.size)⟩
  have HROW := hide hrow
  have hU := UnMem.lt h
  have hlo := UnMem.lo h
  have hbz := (UnMem.bel h).size
  have z0 := UnMem.frozen h 0
  have z7 := UnMem.frozen h 7
  have z8 := UnMem.frozen h 8
  obtain ⟨cs, hcs⟩ : ∃ x, unCells ⟨fin, cur, oa, oc, na, nc, oe, de, ctx, long⟩ (.slice HA all.length hc) (.slice CA ctx.length cc) = x := ⟨_, rfl⟩
  have HCS := hide hcs
  have HALL := hide hall
  have HVS := hide hvs
  rw [hcs] at M0
  have HM := hide M0
  have hnl : all.length ≤ 900000 := by omega
  have hcl' : ctx.length ≤ 900000 := by omega
  have hw1 : IntKind.i64.wrap (oa - (ctx.length : Int)) = oa - (ctx.length : Int) := by rw [IntKind.wrap_i64]; omega
  have hw2 : IntKind.i64.wrap (na - (ctx.length : Int)) = na - (ctx.length : Int) := by rw [IntKind.wrap_i64]; omega
  obtain ⟨ip, hip, hpz, hps, hpb⟩ := info_parts info_hunkU
  have hbd : Below w.heap.size w w.drew := (Below.refl _ _).drew
  clear h M0 hrow hcv hok hcz hall hvs hcs
  have key : (cur = none ∨ ∃ k, cur = some k ∧ 0 < ctx.length) := by
    rcases hnew with e | e
    · exact .inl e
    · cases cur with
      | none => exact .inl rfl
      | some k => exact .inr ⟨k, rfl, List.length_pos_iff.2 e⟩
  clear hnew
  obtain ⟨m, hm⟩ : ∃ m, ctx.length = m := ⟨_, rfl⟩
  have HMM := hide hm
  rw [hm] at c8 hw1 hw2 hcl' HCL key ⊢
  clear hm hcl
  rcases key with rfl | ⟨k, rfl, hpos⟩
  case' inl => simp only [curPtr] at c7
  case' inr =>
    have hp7 : ∃ a, curPtr (some k) (.slice HA all.length hc) fin.length = .pointer (some a) := by
      have hl := HROW.out
      rcases hl.2 with ⟨_, e⟩ | ⟨g, cap, cur, e, _⟩
      · have : 0 < all.length := by rw [← HALL.out]; simp
        omega
      · injection e with e1 e2 e3
        subst e1
        exact ⟨_, rfl⟩
    obtain ⟨pa, hpa⟩ := hp7
    rw [hpa] at c7
    clear hpa
  all_goals
    go_enter Tryd.func47, Tryd.ntmps47
    go_wp2_with fail
    refine wp_region_E (n := 34) (S := fun w' => w'.cell? ⟨U, 0, none⟩ = some (.slice HA all.length hc) ∧ w'.cell? ⟨U, 1, none⟩ = some (.int .i64 oa) ∧ w'.cell? ⟨U, 3, none⟩ = some (.int .i64 na) ∧ w'.cell? ⟨U, 8, none⟩ = some (.slice CA m cc)) (by kernel_rfl) ⟨c0, c1, c3, c8⟩ (fun hHeld => ?_)
    refine E_take1 0 (v := ?_) rfl (by kernel_rfl) (by rfl) (by kernel_rfl) (by kernel_rfl) (by kernel_rfl) (fun _ _ _ h => h) (Or.inl ⟨by rfl, ?_⟩) (by assumption) ?_
    rotate_left
    · (intro w hSw; (try dsimp only at hSw); go_simp; try with_reducible rfl)
    try simp only [Act.put, List.setIfInBounds_toArray, List.set_cons_zero, List.set_cons_succ]
    refine E_take1 1 (v := ?_) rfl (by kernel_rfl) (by rfl) (by kernel_rfl) (by kernel_rfl) (by kernel_rfl) (fun _ _ _ h => h) (Or.inl ⟨by rfl, ?_⟩) (by assumption) ?_
    rotate_left
    · (intro w hSw; (try dsimp only at hSw); go_simp; try with_reducible rfl)
    try simp only [Act.put, List.setIfInBounds_toArray, List.set_cons_zero, List.set_cons_succ]
    refine E_take1 2 (v := ?_) rfl (by kernel_rfl) (by rfl) (by kernel_rfl) (by kernel_rfl) (by kernel_rfl) (fun _ _ _ h => h) (Or.inl ⟨by rfl, ?_⟩) (by assumption) ?_
    rotate_left
    · (intro w hSw; (try dsimp only at hSw); go_simp; try with_reducible rfl)
    try simp only [Act.put, List.setIfInBounds_toArray, List.set_cons_zero, List.set_cons_succ]
    refine E_take1 3 (v := ?_) rfl (by kernel_rfl) (by rfl) (by kernel_rfl) (by kernel_rfl) (by kernel_rfl) (fun _ _ _ h => h) (Or.inl ⟨by rfl, ?_⟩) (by assumption) ?_
    rotate_left
    · (intro w hSw; (try dsimp only at hSw); go_simp; try with_reducible rfl)
    try simp only [Act.put, List.setIfInBounds_toArray, List.set_cons_zero, List.set_cons_succ]
    refine E_take1 4 (v := ?_) rfl (by kernel_rfl) (by rfl) (by kernel_rfl) (by kernel_rfl) (by kernel_rfl) (fun _ _ _ h => h) (Or.inl ⟨by rfl, ?_⟩) (by assumption) ?_
    rotate_left
    · (intro w hSw; (try dsimp only at hSw); go_simp; try with_reducible rfl)
    try simp only [Act.put, List.setIfInBounds_toArray, List.set_cons_zero, List.set_cons_succ]
    refine E_take1 5 (v := ?_) rfl (by kernel_rfl) (by rfl) (by kernel_rfl) (by kernel_rfl) (by kernel_rfl) (fun _ _ _ h => h) (Or.inl ⟨by rfl, ?_⟩) (by assumption) ?_
    rotate_left
    · (intro w hSw; (try dsimp only at hSw); go_simp; try with_reducible rfl)
    try simp only [Act.put, List.setIfInBounds_toArray, List.set_cons_zero, List.set_cons_succ]
    refine E_take1 6 (v := ?_) rfl (by kernel_rfl) (by rfl) (by kernel_rfl) (by kernel_rfl) (by kernel_rfl) (fun _ _ _ h => h) (Or.inl ⟨by rfl, ?_⟩) (by assumption) ?_
    rotate_left
    · (intro w hSw; (try dsimp only at hSw); go_simp; try with_reducible rfl)
    try simp only [Act.put, List.setIfInBounds_toArray, List.set_cons_zero, List.set_cons_succ]
    refine E_take1 7 (v := ?_) rfl (by kernel_rfl) (by rfl) (by kernel_rfl) (by kernel_rfl) (by kernel_rfl) (fun _ _ _ h => h) (Or.inl ⟨by rfl, ?_⟩) (by assumption) ?_
    rotate_left
    · (intro w hSw; (try dsimp only at hSw); go_simp; try with_reducible rfl)
    try simp only [Act.put, List.setIfInBounds_toArray, List.set_cons_zero, List.set_cons_succ]
    refine E_take1 8 (v := ?_) rfl (by kernel_rfl) (by rfl) (by kernel_rfl) (by kernel_rfl) (by kernel_rfl) (fun _ _ _ h => h) (Or.inl ⟨by rfl, ?_⟩) (by assumption) ?_
    rotate_left
    · (intro w hSw; (try dsimp only at hSw); go_simp; try with_reducible rfl)
    try simp only [Act.put, List.setIfInBounds_toArray, List.set_cons_zero, List.set_cons_succ]
    refine E_take1 9 (v := ?_) rfl (by kernel_rfl) (by rfl) (by kernel_rfl) (by kernel_rfl) (by kernel_rfl) (fun _ _ _ h => h) (Or.inl ⟨by rfl, ?_⟩) (by assumption) ?_
    rotate_left
    · (intro w hSw; (try dsimp only at hSw); go_simp; try with_reducible rfl)
    try simp only [Act.put, List.setIfInBounds_toArray, List.set_cons_zero, List.set_cons_succ]
    refine E_take1 10 (v := ?_) rfl (by kernel_rfl) (by rfl) (by kernel_rfl) (by kernel_rfl) (by kernel_rfl) (fun _ _ _ h => h) (Or.inl ⟨by rfl, ?_⟩) (by assumption) ?_
    rotate_left
    · (intro w hSw; (try dsimp only at hSw); go_simp; try with_reducible rfl)
    try simp only [Act.put, List.setIfInBounds_toArray, List.set_cons_zero, List.set_cons_succ]
    refine E_take1 11 (v := ?_) rfl (by kernel_rfl) (by rfl) (by kernel_rfl) (by kernel_rfl) (by kernel_rfl) (fun _ _ _ h => h) (Or.inl ⟨by rfl, ?_⟩) (by assumption) ?_
    rotate_left
    · (intro w hSw; (try dsimp only at hSw); go_simp; try with_reducible rfl)
    try simp only [Act.put, List.setIfInBounds_toArray, List.set_cons_zero, List.set_cons_succ]
    refine E_take1 12 (v := ?_) rfl (by kernel_rfl) (by rfl) (by kernel_rfl) (by kernel_rfl) (by kernel_rfl) (fun _ _ _ h => h) (Or.inl ⟨by rfl, ?_⟩) (by assumption) ?_
    rotate_left
    · (intro w hSw; (try dsimp only at hSw); go_simp; try with_reducible rfl)
    try simp only [Act.put, List.setIfInBounds_toArray, List.set_cons_zero, List.set_cons_succ]
    refine E_take1 13 (v := ?_) rfl (by kernel_rfl) (by rfl) (by kernel_rfl) (by kernel_rfl) (by kernel_rfl) (fun _ _ _ h => h) (Or.inl ⟨by rfl, ?_⟩) (by assumption) ?_
    rotate_left
    · (intro w hSw; (try dsimp only at hSw); go_simp; try with_reducible rfl)
    try simp only [Act.put, List.setIfInBounds_toArray, List.set_cons_zero, List.set_cons_succ]
    refine E_take1 14 (v := ?_) rfl (by kernel_rfl) (by rfl) (by kernel_rfl) (by kernel_rfl) (by kernel_rfl) (fun _ _ _ h => h) (Or.inl ⟨by rfl, ?_⟩) (by assumption) ?_
    rotate_left
    · (intro w hSw; (try dsimp only at hSw); go_simp; try with_reducible rfl)
    try simp only [Act.put, List.setIfInBounds_toArray, List.set_cons_zero, List.set_cons_succ]
    refine E_take1 15 (v := ?_) rfl (by kernel_rfl) (by rfl) (by kernel_rfl) (by kernel_rfl) (by kernel_rfl) (fun _ _ _ h => h) (Or.inl ⟨by rfl, ?_⟩) (by assumption) ?_
    rotate_left
    · (intro w hSw; (try dsimp only at hSw); go_simp; try with_reducible rfl)
    try simp only [Act.put, List.setIfInBounds_toArray, List.set_cons_zero, List.set_cons_succ]
    refine E_take1 16 (v := ?_) rfl (by kernel_rfl) (by rfl) (by kernel_rfl) (by kernel_rfl) (by kernel_rfl) (fun _ _ _ h => h) (Or.inl ⟨by rfl, ?_⟩) (by assumption) ?_
    rotate_left
    · (intro w hSw; (try dsimp only at hSw); go_simp; try with_reducible rfl)
    try simp only [Act.put, List.setIfInBounds_toArray, List.set_cons_zero, List.set_cons_succ]
    refine E_take1 17 (v := ?_) rfl (by kernel_rfl) (by rfl) (by kernel_rfl) (by kernel_rfl) (by kernel_rfl) (fun _ _ _ h => h) (Or.inl ⟨by rfl, ?_⟩) (by assumption) ?_
    rotate_left
    · (intro w hSw; (try dsimp only at hSw); go_simp; try with_reducible rfl)
    try simp only [Act.put, List.setIfInBounds_toArray, List.set_cons_zero, List.set_cons_succ]
    refine E_take1 18 (v := ?_) rfl (by kernel_rfl) (by rfl) (by kernel_rfl) (by kernel_rfl) (by kernel_rfl) (fun _ _ _ h => h) (Or.inl ⟨by rfl, ?_⟩) (by assumption) ?_
    rotate_left
    · (intro w hSw; (try dsimp only at hSw); go_simp; try with_reducible rfl)
    try simp only [Act.put, List.setIfInBounds_toArray, List.set_cons_zero, List.set_cons_succ]
    refine E_take1 19 (v := ?_) rfl (by kernel_rfl) (by rfl) (by kernel_rfl) (by kernel_rfl) (by kernel_rfl) (fun _ _ _ h => h) (Or.inl ⟨by rfl, ?_⟩) (by assumption) ?_
    rotate_left
    · (intro w hSw; (try dsimp only at hSw); go_simp; try with_reducible rfl)
    try simp only [Act.put, List.setIfInBounds_toArray, List.set_cons_zero, List.set_cons_succ]
    refine E_take1 20 (v := ?_) rfl (by kernel_rfl) (by rfl) (by kernel_rfl) (by kernel_rfl) (by kernel_rfl) (fun _ _ _ h => h) (Or.inl ⟨by rfl, ?_⟩) (by assumption) ?_
    rotate_left
    · (intro w hSw; (try dsimp only at hSw); go_simp; try with_reducible rfl)
    try simp only [Act.put, List.setIfInBounds_toArray, List.set_cons_zero, List.set_cons_succ]
    refine E_take1 21 (v := ?_) rfl (by kernel_rfl) (by rfl) (by kernel_rfl) (by kernel_rfl) (by kernel_rfl) (fun _ _ _ h => h) (Or.inl ⟨by rfl, ?_⟩) (by assumption) ?_
    rotate_left
    · (intro w hSw; (try dsimp only at hSw); go_simp; try with_reducible rfl)
    try simp only [Act.put, List.setIfInBounds_toArray, List.set_cons_zero, List.set_cons_succ]
    refine E_take1 22 (v := ?_) rfl (by kernel_rfl) (by rfl) (by kernel_rfl) (by kernel_rfl) (by kernel_rfl) (fun _ _ _ h => h) (Or.inl ⟨by rfl, ?_⟩) (by assumption) ?_
    rotate_left
    · (intro w hSw; (try dsimp only at hSw); go_simp; try with_reducible rfl)
    try simp only [Act.put, List.setIfInBounds_toArray, List.set_cons_zero, List.set_cons_succ]
    refine E_take1 24 (v := ?_) rfl (by kernel_rfl) (by rfl) (by kernel_rfl) (by kernel_rfl) (by kernel_rfl) (fun _ _ _ h => h) (Or.inl ⟨by rfl, ?_⟩) (by assumption) ?_
    rotate_left
    · (intro w hSw; (try dsimp only at hSw); go_simp; try with_reducible rfl)
    try simp only [Act.put, List.setIfInBounds_toArray, List.set_cons_zero, List.set_cons_succ]
    refine E_take1 25 (v := ?_) rfl (by kernel_rfl) (by rfl) (by kernel_rfl) (by kernel_rfl) (by kernel_rfl) (fun _ _ _ h => h) (Or.inl ⟨by rfl, ?_⟩) (by assumption) ?_
    rotate_left
    · (intro w hSw; (try dsimp only at hSw); go_simp; try with_reducible rfl)
    try simp only [Act.put, List.setIfInBounds_toArray, List.set_cons_zero, List.set_cons_succ]
    refine E_take1 26 (v := ?_) rfl (by kernel_rfl) (by rfl) (by kernel_rfl) (by kernel_rfl) (by kernel_rfl) (fun _ _ _ h => h) (Or.inl ⟨by rfl, ?_⟩) (by assumption) ?_
    rotate_left
    · (intro w hSw; (try dsimp only at hSw); go_simp; try with_reducible rfl)
    try simp only [Act.put, List.setIfInBounds_toArray, List.set_cons_zero, List.set_cons_succ]
    refine E_take1 27 (v := ?_) rfl (by kernel_rfl) (by rfl) (by kernel_rfl) (by kernel_rfl) (by kernel_rfl) (fun _ _ _ h => h) (Or.inl ⟨by rfl, ?_⟩) (by assumption) ?_
    rotate_left
    · (intro w hSw; (try dsimp only at hSw); go_simp; try with_reducible rfl)
    try simp only [Act.put, List.setIfInBounds_toArray, List.set_cons_zero, List.set_cons_succ]
    refine E_next 23 rfl (by kernel_rfl) (fun K hK => ?_)
    go_simp
    (with_reducible refine (HCL.out w.drew hbd).mono ?_)
    rintro e w1 ⟨A1, k1, rfl, hoa1, hb1, hbw1⟩
    have hU1 : U < w1.heap.size := Nat.lt_of_lt_of_le hU hbw1.size
    have HOA1 := hide hoa1
    clear hoa1
    refine hK.out _ _ (fun _ => ?_) (fun hHeld1 => ?_)
    · obtain ⟨q1, q2, q3, q4⟩ := hHeld
      exact ⟨(hb1.cell hU).trans q1, (hb1.cell hU).trans q2, (hb1.cell hU).trans q3, (hb1.cell hU).trans q4⟩
    clear hK K hHeld
    try simp only [Act.put, List.setIfInBounds_toArray, List.set_cons_zero, List.set_cons_succ]
    have hHeld2 := hHeld1 (by decide)
    clear hHeld1
    refine E_next 28 rfl (by kernel_rfl) (fun K hK => ?_)
    go_simp
    (with_reducible refine (HCL.out w1 hbw1).mono ?_)
    rintro e w2 ⟨A2, k2, rfl, hoa2, hb2, hbw2⟩
    have hU2 : U < w2.heap.size := Nat.lt_of_lt_of_le hU1 hb2.size
    have hz2 := hbw2.size
    have HOA2 := hide hoa2
    clear hoa2
    refine hK.out _ _ (fun _ => ?_) (fun hHeld1 => ?_)
    · obtain ⟨q1, q2, q3, q4⟩ := hHeld2
      exact ⟨(hb2.cell hU1).trans q1, (hb2.cell hU1).trans q2, (hb2.cell hU1).trans q3, (hb2.cell hU1).trans q4⟩
    clear hK K hHeld2
    try simp only [Act.put, List.setIfInBounds_toArray, List.set_cons_zero, List.set_cons_succ]
    have hHeld := hHeld1 (by decide)
    clear hHeld1
    refine E_take1 29 (v := ?_) rfl (by kernel_rfl) (by rfl) (by kernel_rfl) (by kernel_rfl) (by kernel_rfl) (fun _ _ _ h => h) (Or.inl ⟨by rfl, ?_⟩) (by assumption) ?_
    rotate_left
    · (intro w hSw; (try dsimp only at hSw); go_simp; try with_reducible rfl)
    try simp only [Act.put, List.setIfInBounds_toArray, List.set_cons_zero, List.set_cons_succ]
    refine E_next 30 rfl (by kernel_rfl) (fun K hK => ?_)
    go_simp
    refine hK.out _ _ (fun _ => ?_) (fun hHeld1 => ?_)
    · obtain ⟨q1, q2, q3, q4⟩ := hHeld
      exact ⟨(World.cell?_alloc_lt _ _ _ hU2).trans q1, (World.cell?_alloc_lt _ _ _ hU2).trans q2, (World.cell?_alloc_lt _ _ _ hU2).trans q3, (World.cell?_alloc_lt _ _ _ hU2).trans q4⟩
    clear hK K hHeld
    have hHeld := hHeld1 (by decide)
    clear hHeld1
    try simp only [Act.put, List.setIfInBounds_toArray, List.set_cons_zero, List.set_cons_succ]
    refine E_next 31 rfl (by kernel_rfl) (fun K hK => ?_)
    refine step_append_lies _ (by rfl) _ _ _ (by rfl) w0.heap.size 46 ip _ 4 64 Tryd.underlying32 hip hpz hps hpb rfl (by omega) (.slice HA all.length hc) all.length (hkCells all vs) (by kernel_rfl) ((own_below HROW.out hbw2).alloc _) ⟨w2.heap.size, 0, none⟩ 1 1 [.int .i64 (oa - (m : Int)), .int .i64 (na - (m : Int)), .slice A1 m k1, .slice A2 m k2] (by kernel_rfl) (by rfl) (four_new _ _ _ _ _ _) (by simp [Value.oneCell']) (by omega) (by unfold maxLen; omega) (by omega) (by simp; omega) (w2.heap.size + 1) (by simp) ?_
    intro gg cap w3 hown3 hgrow hat hlt
    have far : ∀ j, w3.cell? ⟨U, j, none⟩ = (w2.alloc (.cells #[.int .i64 (oa - (m : Int)), .int .i64 (na - (m : Int)), .slice A1 m k1, .slice A2 m k2] 46)).cell? ⟨U, j, none⟩ := fun j => grown_cell (p := ⟨U, j, none⟩) hgrow (by simp; omega) (fun e => by have := own_ge HROW.out U e; omega)
    refine hK.out _ _ (fun _ => ?_) (fun hHeld1 => ?_)
    · obtain ⟨q1, q2, q3, q4⟩ := hHeld
      exact ⟨(far 0).trans q1, (far 1).trans q2, (far 3).trans q3, (far 8).trans q4⟩
    clear hK K hHeld
    have hHeld := hHeld1 (by decide)
    clear hHeld1
    try simp only [Act.put, List.setIfInBounds_toArray, List.set_cons_zero, List.set_cons_succ]
    have HFIN : Hid (UnMem w0 w3 U cs (all ++ [⟨oa - (m : Int), na - (m : Int), ctx, ctx⟩]) (.slice (some ⟨gg, 0, none⟩) (all.length + 1) cap) (vs ++ [(.slice A1 m k1, .slice A2 m k2)]) (.slice CA m cc) ctx) := hide (by
      have q1 := HOA1.out
      have q2 := HOA2.out
      rw [← HMM.out] at q1 q2 hown3 hgrow ⊢
      have hdz : Below w.heap.size w w1 := hbw1
      exact UnMem.push (by have := HM.out; exact this) hbw1 q1 hb2 q2 hown3 hgrow)
    have zU : w3.frozen? ⟨U, 0, none⟩ = false := UnMem.frozen HFIN.out 0
    have HROW3 := hide (own_ge hown3 gg rfl)
    clear far hown3 hgrow hat hlt
    refine E_next 32 rfl (by kernel_rfl) (fun K hK => ?_)
    go_simp
    refine hK.out _ _ (fun _ => hHeld) (fun _ => ?_)
    clear hK K
    try simp only [Act.put, List.setIfInBounds_toArray, List.set_cons_zero, List.set_cons_succ]
    refine E_next 33 rfl (by kernel_rfl) (fun K hK => ?_)
    go_simp
    refine hK.out _ _ (fun _ => hHeld) (fun _ => ?_)
    clear hK K
    try simp only [Act.put, List.setIfInBounds_toArray, List.set_cons_zero, List.set_cons_succ]
    refine E_next 34 rfl (by kernel_rfl) (fun K hK => ?_)
    go_simp
    refine hK.out _ _ (fun h => absurd rfl h) (fun _ => ?_)
    clear hK K hHeld
    refine E_done (by kernel_rfl) ?_ _
    have HF0 := hide (HFIN.out.set 0 (.slice (some ⟨gg, 0, none⟩) (all.length + 1) cap))
    clear HFIN zU
    generalize w3.setCell ⟨U, 0, none⟩ (.slice (some ⟨gg, 0, none⟩) (all.length + 1) cap) = w4 at *
    have d0 : w4.cell? ⟨U, 0, none⟩ = some (.slice (some ⟨gg, 0, none⟩) (all.length + 1) cap) := UnMem.cell HF0.out 0 (by rw [← HCS.out]; rfl)
    have d7 : w4.frozen? ⟨U, 7, none⟩ = false := UnMem.frozen HF0.out 7
    have d8 : w4.frozen? ⟨U, 8, none⟩ = false := UnMem.frozen HF0.out 8
    obtain ⟨x7, d7'⟩ : ∃ x, w4.cell? ⟨U, 7, none⟩ = some x := ⟨_, UnMem.cell HF0.out 7 (by rw [← HCS.out]; rfl)⟩
    obtain ⟨x8, d8'⟩ : ∃ x, w4.cell? ⟨U, 8, none⟩ = some x := ⟨_, UnMem.cell HF0.out 8 (by rw [← HCS.out]; rfl)⟩
    have hat1 : ¬ ((all.length : Int) + 1 ≤ 0) := by omega
    clear c0 c1 c2 c3 c4 c5 c6 c7 c8 c9 z0 z7 z8 hb1 hb2 hbw1 hbw2 hU1 hU2
    go_wp2_with fail
    go_region
    go_wp2_with fail
    go_ret
    refine ⟨.slice (some ⟨gg, 0, none⟩) (all.length + 1) cap, .slice none 0 0, vs ++ [(.slice A1 m k1, .slice A2 m k2)], rfl, ?_⟩
    have hfin := ((HF0.out.set 7 (.pointer (some ⟨gg, all.length * 4, none⟩))).set 8 (.slice none 0 0)).drop.drew
    rw [← HCS.out] at hfin
    exact hfin
theorem change_any {w0 w : World} {U : Nat} {u : Un} {i : Nat} (h : UnIn w0 w U u) (hu : UnOk u i) (hi : i ≤ 900000) :
    Calls Tryd.prog 47 #[.pointer (some ⟨U, 0, none⟩)] w fun e w' => ∃ hv cv vs, e = .returned (lastPtr hv u.chg.fin.length) ∧ UnAt w0 w' U u.chg hv cv vs := by
  obtain ⟨hv, cv, vs, h⟩ := h
  by_cases hold : ∃ k, u.cur = some k ∧ u.ctx = []
  · obtain ⟨k, hc, hx⟩ := hold
    rw [chg_old hc hx]
    obtain ⟨g, cap, vs0, o, n, rfl, rfl, hl⟩ := h.last hc
    obtain ⟨c0, c1, c2, c3, c4, c5, c6, c7, c8, c9⟩ := h.cells
    obtain ⟨CA, cc, rfl⟩ := own_fmU (UnMem.cvOwn h)
    have H := hide h
    rw [hx] at c8
    simp only [hc, curPtr, lastPtr] at c7
    clear h hl hu hc hx
    go_enter Tryd.func47, Tryd.ntmps47
    go_wp2_with fail
    go_ret
    exact ⟨_, _, _, rfl, H.out⟩
  · have hnew : u.cur = none ∨ u.ctx ≠ [] := by
      cases hc : u.cur with
      | none => exact .inl rfl
      | some k => exact .inr fun hx => hold ⟨k, hc, hx⟩
    rw [chg_new hnew]
    obtain ⟨fin, cur, oa, oc, na, nc, oe, de, ctx, long⟩ := u
    exact change_new h hu hi _ rfl hnew
end Go.Proofs.YtinpgnekjebipaaDoor
