/- slices.Concat of two slices of ints. -/
import Derived.Test.YtfjbdbdjhkmifaaAppend
import Derived.Test.YtfjbdbdjhkmifaaHunk
import Derived.Test.YtfjbdbdjhkmifaaDiff
import Derived.Lib.Walk
import Derived.Lib.SliceRun
import Derived.Lib.AppendZerosOnto
set_option linter.unusedVariables false
set_option linter.unusedSimpArgs false
namespace Go.Proofs.Ytfjbdbdjhkmifaa
open Go.RowKit Go.Pw
set_option maxHeartbeats 2000000 in
set_option maxRecDepth 100000 in
theorem growI_any (n : Nat) (w : World) (hn0 : 0 < n) (hn : n ≤ 1000000) :
    Calls Try.prog 94 #[.slice none 0 0, .int .i64 (n : Int)] w fun e w' => ∃ v, e = .returned v ∧ w'.ownsRow w.heap.size 3 1 v 0 [] ∧ Below w.heap.size w w' := by
  obtain ⟨ip, hip, hpz, hps, hpb⟩ := info_parts info_int
  have h1 : ¬ ((n : Int) < 0) := by omega
  have h4 : (0 : Int) < (n : Int) := by omega
  have hwn : IntKind.i64.wrap ((n : Int)) = (n : Int) := IntWalk.i64_in _ (by omega)
  obtain ⟨Z, hZ⟩ : ∃ Z : Value, Z = .int .i64 0 := ⟨_, rfl⟩
  rw [← hZ] at hpz
  have hZs : Z.cells.size = 1 := by rw [hZ]; rfl
  have hrz : ∀ ty, (Builtin.append_ #[52, 3] ty #[.slice none 0 0, .int .i64 (n : Int)]).run Try.prog w =
      .ok (.slice (some ⟨w.heap.size, 0, none⟩) n (grownCap w n 0 3)) (w.drew.alloc (.cells (#[] ++ Builtin.zeroCells Z.cells n ++ Builtin.zeroCells Z.cells (grownCap w n 0 3 - n)) 3)) := fun ty => by
    have h := Lib.run_append_grow_zeros w 52 3 ty 3 ip Z .i64 .i64 Try.underlying52 Try.underlying3 hip hpz none 0 0 [] (run_firstCells_none w.drew ip.size 0 0 0) n hn0 (by omega) (by omega) (by omega) (by rw [hpb]; omega)
      (by rw [Nat.zero_add]; exact growslice_fits (by omega) (by rw [hpb]; omega))
    rw [Nat.zero_add] at h
    exact h
  have hGn : n ≤ grownCap w n 0 3 := grownCap_ge w _ _ _
  have hG63 := grownCap_le_maxLen w n 0 3 (by unfold maxLen; omega)
  obtain ⟨G, hG⟩ : ∃ G, G = grownCap w n 0 3 := ⟨_, rfl⟩
  rw [← hG] at hrz hGn hG63
  have hG64 : G ≤ 9223372036854775807 := by unfold maxLen at hG63; omega
  clear hG
  go_enter Try.func94, Try.ntmps94
  go_wp2_with (at_builtin; refine Lib.wpList_append_run _ rfl _ _ _ _ rfl _ _ rfl rfl _ _ (hrz _) ?_)
  all_goals go_ret
  refine ⟨_, rfl, ⟨rfl, .inr ⟨w.heap.size, G, _, rfl, Nat.le_refl _, heap_alloc_new w.drew _, Nat.zero_le _, hG63, ?_, by simp⟩⟩, ?_⟩
  · simp [size_zeroCells, hZs]
    omega
  · exact (show Below w.heap.size w w.drew from ⟨rfl, rfl, rfl, Nat.le_refl _, fun _ _ => rfl⟩).alloc (Nat.le_refl _) _
set_option maxHeartbeats 1000000 in
theorem growINil_any (w : World) : Calls Try.prog 94 #[.slice none 0 0, .int .i64 0] w fun e w' => e = .returned (.slice none 0 0) ∧ w = w' := by
  go_enter Try.func94, Try.ntmps94
  go_wp2_with fail
  go_ret
  exact ⟨rfl, rfl⟩
/-- slices.Grow of nothing, by any number -/
theorem growI_all (n : Nat) (w : World) (hn : n ≤ 1000000) :
    Calls Try.prog 94 #[.slice none 0 0, .int .i64 (n : Int)] w fun e w' => ∃ v, e = .returned v ∧ w'.ownsRow w.heap.size 3 1 v 0 [] ∧ Below w.heap.size w w' := by
  by_cases h0 : n = 0
  · subst h0
    refine (growINil_any w).mono ?_
    rintro e w' ⟨rfl, rfl⟩
    exact ⟨_, rfl, World.ownsRow_nil _ _ _ _, Below.refl _ _⟩
  · exact growI_any n w (by omega) hn

/-- append(v, u...) of ints: v nil or the call's own, u any slice -/
theorem run_app_ints (w : World) (base : Nat) (ty : TypeId) (v : Value) (n : Nat) (xs : List Value) (hown : w.ownsRow base 3 1 v n xs) (u : Value) (m : Nat) (ys : List Value) (hu : Rd w 1 u m ys) (h1 : ∀ y ∈ ys, y.oneCell' = true)
    (hb : n + m ≤ 1000000000) (hbase : base ≤ w.heap.size) :
    ∃ v' w', (Builtin.append_ #[52, 52] ty #[v, u]).run Try.prog w = .ok v' w' ∧ w'.ownsRow base 3 1 v' (n + m) (xs ++ ys) ∧ w.grownBy w' v.ownBlock := by
  obtain ⟨ip, hip, hpz, hps, hpb⟩ := info_parts info_int
  obtain ⟨hl, A, cap, rfl, _, _, hx⟩ := hu
  by_cases h0 : m = 0
  · subst h0
    have hm : ys = [] := List.eq_nil_of_length_eq_zero (by omega)
    subst hm
    cases A with
    | none =>
      refine ⟨v, w, ?_, by simpa using hown, grownBy_refl _ _⟩
      exact run_append_none_any base _ ty 3 ip 1 cap Try.underlying52 hip v _ _ hown
    | some a =>
      obtain ⟨v', w', h1, h2, h3, _⟩ := run_append_own (P := Try.prog) w base 52 ty 3 ip _ 1 8 Try.underlying52 hip hpz hps hpb rfl (by decide) v n _ hown a 0 cap [] rfl (by simp) (by simp) (by unfold maxLen; omega) (by omega) hbase
      exact ⟨v', w', h1, by simpa using h2, h3⟩
  · obtain ⟨b, o, rfl, hbb, hj⟩ := hx (by omega)
    obtain ⟨v', w', q1, h2, h3, _⟩ := run_append_own (P := Try.prog) w base 52 ty 3 ip _ 1 8 Try.underlying52 hip hpz hps hpb rfl (by decide) v n _ hown ⟨b, o, none⟩ m cap ys (by omega) (fun j u hu => by rw [add_at _ _ rfl]; exact hj j u hu) h1 (by unfold maxLen; omega) (by omega) hbase
    exact ⟨v', w', q1, h2, h3⟩
theorem wpList_app_ints {w : World} {ops : Array Oper} {rest : List Oper} {o : Oper} {a : Act} {Q : Exit → Act → World → Prop} (hgd : o.guard = none) (s x : Operand)
    (ho : o.op = .call { callee := .builtin .append, args := #[s, x], argTypes := #[52, 52] }) (base : Nat) (v : Value) (n : Nat) (xs : List Value) (hs : a.eval s = v)
    (hown : w.ownsRow base 3 1 v n xs) (u : Value) (m : Nat) (ys : List Value) (hx : a.eval x = u) (hu : Rd w 1 u m ys) (h1 : ∀ y ∈ ys, y.oneCell' = true) (hb : n + m ≤ 1000000000) (hbase : base ≤ w.heap.size)
    (h : ∀ v' w', w'.ownsRow base 3 1 v' (n + m) (xs ++ ys) → w.grownBy w' v.ownBlock → wpList Try.prog ops Q rest (a.put o.dst v') w') : wpList Try.prog ops Q (o :: rest) a w :=
  wpList_plain hgd fun _ hK => by
    obtain ⟨v', w', hr, h2, h3⟩ := run_app_ints w base o.type v n xs hown u m ys hu h1 hb hbase
    unfold Oper.wp execOp
    simp only [ho, resolve, invoke, builtin, Sem.run_bind, Sem.run_pure, Result.andThen_ok, List.map_toArray, List.map_cons, List.map_nil, hs, hx, hr]
    exact hK _ _ (h v' w' h2 h3)
theorem rd_formI {w : World} {size n : Nat} {v : Value} {xs : List Value} (h : Rd w size v n xs) : ∃ A c, v = .slice A n c := by
  obtain ⟨_, A, c, rfl, _⟩ := h
  exact ⟨A, c, rfl⟩
theorem own_formI {w : World} {base : Nat} {e : TypeId} {size : Nat} {v : Value} {n : Nat} {xs : List Value} (h : w.ownsRow base e size v n xs) : ∃ A c, v = .slice A n c := rd_formI (Rd.of_own h)

set_option maxHeartbeats 4000000 in
set_option maxRecDepth 100000 in
theorem concatI_any (v va vb : Value) (n m : Nat) (xs ys : List Value) (w : World) (hv : Rd w 1 v 2 [va, vb]) (ha : Rd w 1 va n xs) (hb : Rd w 1 vb m ys) (h1 : ∀ y ∈ xs, y.oneCell' = true) (h2 : ∀ y ∈ ys, y.oneCell' = true) (hn : n ≤ 100000) (hm : m ≤ 100000) :
    Calls Try.prog 81 #[v] w fun e w' => ∃ v', e = .returned v' ∧ w'.ownsRow w.heap.size 3 1 v' (n + m) (xs ++ ys) ∧ Below w.heap.size w w' := by
  obtain ⟨_, A, cap, rfl, hcap, hmax, hx⟩ := hv
  obtain ⟨b, o, rfl, hbb, hj⟩ := hx (by omega)
  have c1 : w.cell? ⟨b, o, none⟩ = some va := hj 0 _ rfl
  have c2 : w.cell? ⟨b, o + 1, none⟩ = some vb := hj 1 _ rfl
  have HA := hide ha
  have HB := hide hb
  have H1 := hide h1
  have H2 := hide h2
  obtain ⟨A1, k1, rfl⟩ := rd_formI ha
  obtain ⟨A2, k2, rfl⟩ := rd_formI hb
  have HG := hide (growI_all (n + m) w (by omega))
  have hw1 : IntKind.i64.wrap ((n : Int) + (m : Int)) = (n : Int) + (m : Int) := IntWalk.i64_in _ (by omega)
  have hnn : ¬ ((n : Int) < 0) := by omega
  have hnm : ¬ ((n : Int) + (m : Int) < 0) := by omega
  have hcst : ((n + m : Nat) : Int) = (n : Int) + (m : Int) := by omega
  rw [hcst] at HG
  clear hcst ha hb h1 h2 hj hx hmax hcap
  go_enter Try.func81, Try.ntmps81
  go_wp2_with fail
  refine wp_loop_rounds 3 ?_
  rw [rounds_succ]
  go_wp2_with fail
  rw [rounds_succ]
  go_wp2_with fail
  rw [rounds_succ]
  go_wp2_with fail
  refine HG.out.mono ?_
  rintro e w1 ⟨v1, rfl, hown1, hb1⟩
  have d1 : w1.cell? ⟨b, o, none⟩ = some (.slice A1 n k1) := (hb1.cell (p := ⟨b, o, none⟩) hbb).trans c1
  have d2 : w1.cell? ⟨b, o + 1, none⟩ = some (.slice A2 m k2) := (hb1.cell (p := ⟨b, o + 1, none⟩) hbb).trans c2
  have hz1 := hb1.size
  clear hw1 hnn hnm
  go_wp2_with fail
  refine wp_loop_rounds 3 ?_
  rw [rounds_succ]
  go_wp2_with (at_builtin; refine wpList_app_ints rfl _ _ rfl w.heap.size _ 0 [] rfl hown1 _ n xs rfl (HA.out.below hb1) H1.out (by omega) hz1 ?_)
  intro v2 w2 hown2 hg2
  have hb2 : Below w.heap.size w w2 := hb1.grown hg2 hz1 (own_ge hown1)
  have e2 : w2.cell? ⟨b, o + 1, none⟩ = some (.slice A2 m k2) := (hb2.cell (p := ⟨b, o + 1, none⟩) hbb).trans c2
  have hz2 := hb2.size
  go_wp2_with fail
  rw [rounds_succ]
  go_wp2_with (at_builtin; refine wpList_app_ints rfl _ _ rfl w.heap.size _ n xs rfl hown2 _ m ys rfl (HB.out.below hb2) H2.out (by omega) hz2 ?_)
  intro v3 w3 hown3 hg3
  have hb3 : Below w.heap.size w w3 := hb2.grown hg3 hz2 (own_ge hown2)
  go_wp2_with fail
  rw [rounds_succ]
  go_wp2_with fail
  go_ret
  exact ⟨_, rfl, hown3, hb3⟩
end Go.Proofs.Ytfjbdbdjhkmifaa
