/- The reference's closure sure: the walk. -/
import Derived.Test.YtfjbdbdjhkmifaaDmX
import Derived.StillTailTactics
set_option linter.unusedVariables false
set_option linter.unusedSimpArgs false
namespace Go.Proofs.Ytfjbdbdjhkmifaa
open Go.RowKit Go.Pw
set_option maxHeartbeats 4000000 in
set_option maxRecDepth 100000 in
theorem sureR_any (M N : Nat) (v vl : Value) (ps : List Pc) (l : List ByteArray) (w : World) (hE : MgEnv w M N v ps) (hvl : Strs w vl l) (hl : l.length ≤ 1000000) (hn : ps.length ≤ 1000000) (hps : LinesLe ps 500000000000) :
    Calls Try.prog 41 #[vl, .pointer (some ⟨M, 0, none⟩)] w fun e w' => e = .returned (.tuple #[]) ∧ ∃ v', MgEnv w' M N v' (sureP ps l) ∧ But N M w w' ∧ OffT w w' M := by
  have HE := hide hE
  have HVL := hide hvl
  have cM := hE.cell
  have fM := hE.free
  have hMN := hE.lt
  have hNw := hE.le
  obtain ⟨⟨_, LA, lc, rfl, _⟩, hlz⟩ := hvl
  have HLZ := hide hlz
  clear hlz
  by_cases h0 : l = []
  · subst h0
    rw [sureP_nil]
    go_enter Try.func41, Try.ntmps41
    go_wp2_with fail
    try simp only [Exit.inBlock, Exit.then]
    refine bodyPost_ret (results_none rfl _ _ _) rfl ?_
    exact ⟨rfl, _, HE.out, But.refl _ _ _, OffT.refl _ _⟩
  · have h0' : ((l.length : Int) == 0) = false := by
      have : 0 < l.length := List.length_pos_iff.2 h0
      simp; omega
    have h0'' : ¬ ((l.length : Int) = 0) := by
      have : 0 < l.length := List.length_pos_iff.2 h0
      omega
    have hlw : M < w.heap.size := by omega
    obtain ⟨vs, hvs, hown, hel, hlast⟩ := hE.own
    have huge := own_ge hown
    have hult := own_lt hown
    have HVS := hide hvs
    have HEL := hide hel
    have HLAST := hide hlast
    have HOWN := hide hown
    have H0 := hide h0
    obtain ⟨ip, hip, hpz, hpq, hpb⟩ := info_parts info_piece
    have HPS := hide hps
    by_cases hc : ∃ A q, ps = A ++ [q] ∧ q.conf = false
    · obtain ⟨A, q, rfl, hq⟩ := hc
      obtain ⟨B, u, rfl⟩ : ∃ B u, vs = B ++ [u] := by
        rcases last_of vs with h | h
        · rw [h] at hvs; simp at hvs
        · exact h
      have hBA : B.length = A.length := by simpa using hvs
      have hml : (A ++ [q]).length = A.length + 1 := by simp
      obtain ⟨L, hL1, hLw, hL2, hL3, hn1, hn2, hn3⟩ := hlast A q B u rfl rfl hq
      have HL2 := hide hL2
      rw [hml] at hown hn
      obtain ⟨g, cap, rfl⟩ : ∃ g cap, v = .slice (some ⟨g, 0, none⟩) (A.length + 1) cap := by
        obtain ⟨_, h | ⟨g, c2, _, rfl, _⟩⟩ := hown
        · omega
        · exact ⟨g, c2, rfl⟩
      have hlc := pcCells_last A B hBA q u
      have e0 := (hown.cellAt (A.length * 5) (by omega)).trans hlc.1
      have e1 := (hown.cellAt (A.length * 5 + 1) (by omega)).trans hlc.2
      have f1 := hown.frozenAt (A.length * 5 + 1)
      have lg := hult g rfl
      have lgN := huge g rfl
      rw [hq] at e0
      obtain ⟨UA, uc, hux⟩ := own_form hL2
      rw [hux] at e1
      have hne : (Value.slice UA q.lines.length uc).ownBlock ≠ some g := by rw [← hux]; exact own_types hown hL2 (by decide) rfl
      have hql : q.lines.length ≤ 500000000000 := HPS.out q (by simp)
      have HX := hide hux
      have hbl : q.lines.length + l.length ≤ 1000000000000 := by omega
      have HEL2 := hide hL3
      have HN := hide (And.intro hn1 (And.intro hn2 hn3))
      have HBA := hide hBA
      have hBA := HBA.out
      have HZ : Hid (∀ s ∈ q.lines ++ l, s.size ≤ maxLen) := hide (fun s hs => by
        rcases List.mem_append.1 hs with hs | hs
        · exact (hel A.length q u (by simp) (by rw [List.getElem?_append_right (by omega), hBA]; simp)).1.1.2 s hs
        · exact HLZ.out s hs)
      have HOWN2 := hide hown
      obtain ⟨m, hm⟩ : ∃ m, A.length = m := ⟨_, rfl⟩
      have HM := hide hm
      rw [hm] at cM e0 e1 f1 hn
      have hm0 : (0 : Int) ≤ (m : Int) := by omega
      have hm1 : m ≤ 1000000 := by omega
      have hm2 : (m : Int) < (m : Int) + 1 := by omega
      have hm3 : (0 : Int) < (m : Int) + 1 := by omega
      have hm4 : IntKind.i64.wrap (m : Int) = (m : Int) := IntWalk.i64_in _ (by omega)
      clear hown hlast hel hvs hE hlc hBA hps hL2 hm huge hult hL3 hn1 hn2 hn3 hml HOWN
      go_enter Try.func41, Try.ntmps41
      go_wp2_with fail
      have hneM : (Value.slice UA q.lines.length uc).ownBlock ≠ some M := fun e => by have := own_ge HL2.out M (by rw [HX.out]; exact e); omega
      have hLO : w.drew.ownsRow L 9 1 (.slice UA q.lines.length uc) q.lines.length (q.lines.map Value.string) := by rw [← HX.out]; exact HL2.out
      go_region_law (refine step_app_strs (by rfl) (.tmp 28) (.tmp 29) (by rfl) L _ q.lines (by rfl) (by assumption) (.slice LA l.length lc) l (by rfl) HVL.out.drew hbl hLw ?_; intro x w1 hown1 hgrow1; obtain ⟨XA, xc, rfl⟩ := own_form hown1; have c1 : w1.cell? ⟨g, m * 5 + 1, none⟩ = some (.slice UA q.lines.length uc) := (grown_cell (p := ⟨g, m * 5 + 1, none⟩) hgrow1 lg hne).trans e1; have z1 : w1.frozen? ⟨g, m * 5 + 1, none⟩ = false := (grown_frozen (p := ⟨g, m * 5 + 1, none⟩) hgrow1 lg hne).trans f1; have cM1 : w1.cell? ⟨M, 0, none⟩ = some (.slice (some ⟨g, 0, none⟩) (m + 1) cap) := (grown_cell (p := ⟨M, 0, none⟩) hgrow1 hlw hneM).trans cM)
      all_goals
        have hg1 : w.grownBy w1 u.lines.ownBlock := by rw [HX.out]; exact ⟨hgrow1.os, hgrow1.tape, hgrow1.output, hgrow1.size, hgrow1.block⟩
        have hres := MgEnv.more HE.out HBA.out hq HOWN2.out HEL.out hL1 hLw HL2.out HEL2.out HN.out.1 HN.out.2.1 HN.out.2.2 hown1 hg1 HZ.out
        rw [HM.out, List.length_append] at hres
        have HRES := hide hres
        clear hres hown1 hgrow1 hg1 c1 z1 cM1
        go_wp2_with fail
        try simp only [Exit.inBlock, Exit.then]
        refine bodyPost_ret (results_none rfl _ _ _) rfl ?_
        rw [sureP_more H0.out hq]
        exact ⟨rfl, _, HRES.out⟩
    · have HSU : Hid (sureP ps l = ps ++ [⟨false, l, [], [], []⟩]) := hide (by
        rcases last_of ps with h | ⟨A, q, h⟩
        · subst h; exact sureP_none h0
        · subst h
          cases hq : q.conf with
          | false => exact absurd ⟨A, q, rfl, hq⟩ hc
          | true => exact sureP_conf h0 hq)
      have hcase : ps.length = 0 ∨ ∃ m, ps.length = m + 1 ∧ ∃ g cap, v = .slice (some ⟨g, 0, none⟩) (m + 1) cap ∧ w.cell? ⟨g, m * 5, none⟩ = some (.bool true) ∧ g < w.heap.size ∧ N ≤ g := by
        rcases last_of ps with h | ⟨A, q, h⟩
        · left; rw [h]; rfl
        · right
          subst h
          have hq : q.conf = true := by
            cases hq : q.conf with
            | false => exact absurd ⟨A, q, rfl, hq⟩ hc
            | true => rfl
          obtain ⟨B, u, rfl⟩ : ∃ B u, vs = B ++ [u] := by
            rcases last_of vs with h | h
            · rw [h] at hvs; simp at hvs
            · exact h
          have hBA : B.length = A.length := by simpa using hvs
          have hml : (A ++ [q]).length = A.length + 1 := by simp
          rw [hml] at hown
          refine ⟨A.length, hml, ?_⟩
          obtain ⟨g, cap, rfl⟩ : ∃ g cap, v = .slice (some ⟨g, 0, none⟩) (A.length + 1) cap := by
            obtain ⟨_, h | ⟨g, c2, _, rfl, _⟩⟩ := hown
            · omega
            · exact ⟨g, c2, rfl⟩
          have hlc := pcCells_last A B hBA q u
          have e0 := (hown.cellAt (A.length * 5) (by omega)).trans hlc.1
          rw [hq] at e0
          exact ⟨g, cap, rfl, e0, hult g rfl, huge g rfl⟩
      have HFRESH : Hid (∀ (A' : Option Addr) (c' : Nat) (w1 w3 : World) (ob : Obj) (v' : Value), Below w.heap.size w w1 → w1.ownsRow w.heap.size 9 1 (.slice A' l.length c') l.length (l.map Value.string) → w3.ownsRow N 73 5 v' (ps.length + 1) (pcCells ps vs ++ [.bool false, .slice A' l.length c', .slice none 0 0, .slice none 0 0, .slice none 0 0]) → (w1.alloc ob).grownBy w3 v.ownBlock → (v'.ownBlock = v.ownBlock ∨ v'.ownBlock = some (w1.alloc ob).heap.size) →
          MgEnv (w3.setCell ⟨M, 0, none⟩ v') M N v' (ps ++ [⟨false, l, [], [], []⟩]) ∧ But N M w (w3.setCell ⟨M, 0, none⟩ v') ∧ OffT w (w3.setCell ⟨M, 0, none⟩ v') M) := hide (fun A' c' w1 w3 ob v' q1 q2 q3 q4 q5 => MgEnv.fresh HE.out HVS.out HOWN.out HEL.out q1 q2 HLZ.out q3 q4 q5)
      have HCL : Hid (∀ W : World, Below w.heap.size w W → W.heap.size = w.heap.size → Calls Try.prog 42 #[.slice LA l.length lc, .int .i64 0, .int .i64 (l.length : Int)] W fun e w' => ∃ A c, e = .returned (.slice A l.length c) ∧ w'.ownsRow w.heap.size 9 1 (.slice A l.length c) l.length (l.map Value.string) ∧ Below w.heap.size w w') := hide (fun W hb hz => by
        refine (sub_own _ l 0 l.length W (HVL.out.below hb) (Nat.zero_le _) (Nat.le_refl _) (by omega)).mono ?_
        rintro e w' ⟨A, n, c, rfl, h1, h2, h3⟩
        have hp : partOf l 0 l.length = l := by unfold partOf; simp
        rw [hp] at h1 h2
        obtain rfl := h1.len
        rw [hz] at h2 h3
        exact ⟨A, c, rfl, h2, hb.trans h3⟩)
      have hbd : Below w.heap.size w w.drew := Below.drew (Below.refl _ _)
      obtain ⟨n, hnn⟩ : ∃ n, ps.length = n := ⟨_, rfl⟩
      have HNN := hide hnn
      rw [hnn] at hcase hn
      have hown2 := HOWN.out
      rw [hnn] at hown2 HFRESH
      have HOWN2 := hide hown2
      obtain ⟨VA, vc, hv⟩ := own_form hown2
      subst hv
      clear hown hlast hel hvs hE hps HPS hc hnn hown2 HEL HLAST HOWN HVS
      have huge2 := huge
      by_cases hn0 : n = 0
      case' pos =>
        subst hn0
      case' neg =>
        obtain ⟨m, hm, g, cap, hv, e0, lg, lgN⟩ : ∃ m, n = m + 1 ∧ ∃ g cap, (Value.slice VA n vc) = .slice (some ⟨g, 0, none⟩) (m + 1) cap ∧ w.cell? ⟨g, m * 5, none⟩ = some (.bool true) ∧ g < w.heap.size ∧ N ≤ g := by
          rcases hcase with h | h
          · exact absurd h hn0
          · exact h
        subst hm
        injection hv with hv1 _ hv2
        subst hv1 hv2
        have hm0 : (0 : Int) ≤ (m : Int) := by omega
        have hm2 : (m : Int) < (m : Int) + 1 := by omega
      have hm3 : (0 : Int) < (m : Int) + 1 := by omega
      have hm4 : IntKind.i64.wrap (m : Int) = (m : Int) := IntWalk.i64_in _ (by omega)
      all_goals
        clear hcase
        go_enter Try.func41, Try.ntmps41
        go_wp2_with fail
        go_region_law (first | (go_simp; go_at_call 42; (with_reducible refine (HCL.out w.drew hbd rfl).mono ?_); rintro e w1 ⟨A', c', rfl, hl1, hb1⟩; have cM1 := (hb1.cell (p := ⟨M, 0, none⟩) hlw).trans cM; have fM1 := (hb1.frozen (p := ⟨M, 0, none⟩) hlw).trans fM; have hlw1 : M < w1.heap.size := Nat.lt_of_lt_of_le hlw hb1.size; go_wp2_with fail) | (refine step_append_lies _ (by rfl) _ _ _ (by rfl) N 73 ip _ 5 104 Try.underlying23 hip hpz hpq hpb rfl (by omega) _ _ (pcCells ps vs) (by rfl) ((own_below HOWN2.out hb1).alloc _) ⟨w1.heap.size, 0, none⟩ 1 1 [.bool false, .slice A' l.length c', .slice none 0 0, .slice none 0 0, .slice none 0 0] (by rfl) (by rfl) (five_new _ _ _ _ _ _ _) (by simp [Value.oneCell']) (by omega) (by unfold maxLen; omega) (by omega) (by have := hb1.size; simp; omega) (w1.heap.size + 1) (by simp) ?_; intro gg cap3 w3 hown3 hgrow hat hlt3; have c3 : w3.cell? ⟨M, 0, none⟩ = _ := (grown_cell (p := ⟨M, 0, none⟩) hgrow (by have := hb1.size; simp; omega) (fun e => by have := huge M e; omega)).trans ((World.cell?_alloc_lt _ _ _ (by have := hb1.size; show M < _; omega)).trans cM1); have f3 : w3.frozen? ⟨M, 0, none⟩ = false := (grown_frozen (p := ⟨M, 0, none⟩) hgrow (by have := hb1.size; simp; omega) (fun e => by have := huge M e; omega)).trans (frozen_alloc fM1)))
        all_goals
          have hres := HFRESH.out A' c' w1 w3 _ _ hb1 hl1 hown3 hgrow (hat.elim (fun e => .inl (by rw [e]; rfl)) (fun e => .inr (by rw [e]; simp [Value.ownBlock])))
          have HRES := hide hres
          clear hres hown3 hgrow hat hlt3 c3 f3 cM1 fM1 hl1
          go_wp2_with fail
          go_end0
          rw [HSU.out]
          exact ⟨rfl, _, HRES.out⟩
end Go.Proofs.Ytfjbdbdjhkmifaa
