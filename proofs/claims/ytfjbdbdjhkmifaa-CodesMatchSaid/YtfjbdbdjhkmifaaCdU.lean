/- The reference's CodeLengths. -/
import Derived.Test.YtfjbdbdjhkmifaaCdUP
import Derived.Deep.RegionLaw
import Derived.Deep.RegionHeld3
set_option linter.unusedVariables false
set_option linter.unusedSimpArgs false
namespace Go.Proofs.Ytfjbdbdjhkmifaa
open Go.RowKit Go.Pw
theorem info_rtree : (Try.prog.info? 103).map (fun i => (i.zero, i.size, i.bytes)) = some (some (.agg #[.int .i64 0, .int .i64 0, .slice none 0 0]), 3, 40) := by kernel_rfl
def TreeR (w : World) (b : Nat) (a0 a1 a2 : Value) : Prop := w.heap[b]? = some (.cells #[a0, a1, a2] 103 (0, 0))
theorem TreeR.cells {w : World} {b : Nat} {a0 a1 a2 : Value} (h : TreeR w b a0 a1 a2) : (w.cell? ⟨b, 0, none⟩ = some a0 ∧ w.cell? ⟨b, 1, none⟩ = some a1 ∧ w.cell? ⟨b, 2, none⟩ = some a2) ∧ ∀ j, w.frozen? ⟨b, j, none⟩ = false := by
  unfold TreeR at h
  simp [World.cell?, World.frozen?, h]
theorem TreeR.set {w : World} {b : Nat} {a0 a1 a2 : Value} (h : TreeR w b a0 a1 a2) (b0 b1 b2 : Value) : TreeR (((w.setCell ⟨b, 0, none⟩ b0).setCell ⟨b, 1, none⟩ b1).setCell ⟨b, 2, none⟩ b2) b b0 b1 b2 := by
  unfold TreeR at h ⊢
  simp [World.setCell, Array.getElem?_modify, h]
/-- the memory of CodeLengths -/
structure RAt (w wr : World) (r : List Nat) (tv : Value) (ts : List Tr) : Prop where
  out : OutAt wr w.heap.size r
  trs : TrAt wr 103 (w.heap.size + 1) tv ts
  bel : Below w.heap.size w wr
  siz : w.heap.size + 1 ≤ wr.heap.size
theorem RAt.below {w wr w' : World} {r : List Nat} {tv : Value} {ts : List Tr} (h : RAt w wr r tv ts) (hb : Below wr.heap.size wr w') : RAt w w' r tv ts :=
  ⟨h.out.below hb, h.trs.below hb, h.bel.trans (hb.mono h.bel.size), Nat.le_trans h.siz hb.size⟩
theorem RAt.set {w wr : World} {r : List Nat} {tv : Value} {ts : List Tr} (h : RAt w wr r tv ts) (s x : Nat) : RAt w (wr.setCell ⟨w.heap.size, s, none⟩ (.int .i64 (x : Int))) (r.set s x) tv ts := by
  have hk : ∀ k, k ≠ w.heap.size → (wr.setCell ⟨w.heap.size, s, none⟩ (.int .i64 (x : Int))).heap[k]? = wr.heap[k]? := fun k hk => heap_setCell_other _ _ _ _ hk
  obtain ⟨us, e1, e2, e3⟩ := h.trs
  refine ⟨h.out.bump s x, ⟨us, e1, own_offG e2 fun g hg => hk g (fun e => by have := own_ge e2 g hg; omega), fun i u t q1 q2 => own_offG (e3 i u t q1 q2) fun g hg => hk g (fun e => by have := own_ge (e3 i u t q1 q2) g hg; omega)⟩, h.bel.setCell (p := ⟨w.heap.size, s, none⟩) (Nat.le_refl _) _, by have := h.siz; simpa [World.setCell] using this⟩
theorem RAt.push {w wr w1 w5 : World} {r : List Nat} {tv tv2 u : Value} {ts : List Tr} {t : Tr} {us : List Value} {ob : Obj} (h : RAt w wr r tv ts) (hus : us.length = ts.length) (hown : wr.ownsRow (w.heap.size + 1) 103 3 tv ts.length (trCells ts us))
    (hsy : ∀ (i : Nat) (u : Value) (t : Tr), us[i]? = some u → ts[i]? = some t → SyOwn wr (w.heap.size + 1) u t.sy) (hw1 : Below wr.heap.size wr w1) (hu : SyOwn w1 (w.heap.size + 1) u t.sy)
    (ho2 : w5.ownsRow (w.heap.size + 1) 103 3 tv2 (ts.length + 1) (trCells ts us ++ [.int .i64 (t.w : Int), .int .i64 (t.l : Int), u])) (hg : (w1.alloc ob).grownBy w5 tv.ownBlock) :
    RAt w w5 r tv2 (ts ++ [t]) := by
  have hz1 := hw1.size
  have hs := h.siz
  have hou1 := h.out.below hw1
  have hown1 := own_below hown hw1
  have hou5 : OutAt w5 w.heap.size r := (hg.block _ (by simp; omega) (own_typeG hown1 hou1 (by decide)).symm).trans ((heap_alloc_old _ _ (by omega)).trans hou1)
  have hsz := hg.size
  simp at hsz
  exact ⟨hou5, push_tree hus hown hsy (by decide) hw1 hu hz1 ho2 hg,
    ((h.bel.trans (hw1.mono h.bel.size)).alloc (by have := h.bel.size; omega) ob).grown hg (by simp; omega) (fun x hx => Nat.le_trans (Nat.le_add_right _ 1) (own_ge hown x hx)), by omega⟩
theorem RAt.drew {w wr : World} {r : List Nat} {tv : Value} {ts : List Tr} (h : RAt w wr r tv ts) : RAt w wr.drew r tv ts := h.below (below_drewN (Below.refl _ _) 1)
theorem RAt.allocT {w wr : World} {r : List Nat} {tv : Value} {ts : List Tr} (h : RAt w wr r tv ts) (o : Obj) : RAt w (wr.alloc o) r tv ts := h.below ((Below.refl _ _).alloc (Nat.le_refl _) o)
theorem below_put3 {M : Nat} {a w : World} {g : Nat} (h : Below M a w) (hg : M ≤ g) (o : Nat) (x y z : Value) : Below M a (put3 w g o x y z) :=
  ((h.setCell (p := ⟨g, o, none⟩) hg x).setCell (p := ⟨g, o + 1, none⟩) hg y).setCell (p := ⟨g, o + 2, none⟩) hg z
theorem RAt.swap {w wr : World} {r : List Nat} {g n cap : Nat} {ts : List Tr} {us : List Value} (h : RAt w wr r (.slice (some ⟨g, 0, none⟩) n cap) ts) (hus : us.length = ts.length) (hown : wr.ownsRow (w.heap.size + 1) 103 3 (.slice (some ⟨g, 0, none⟩) n cap) n (trCells ts us))
    (hsy : ∀ (i : Nat) (u : Value) (t : Tr), us[i]? = some u → ts[i]? = some t → SyOwn wr (w.heap.size + 1) u t.sy) {i k : Nat} {a b : Tr} {ua ub : Value} (ha : ts[i]? = some a) (hb : ts[k]? = some b) (hua : us[i]? = some ua) (hub : us[k]? = some ub) (hn : n = ts.length) :
    RAt w (put3 (put3 wr g (i * 3) (.int .i64 (b.w : Int)) (.int .i64 (b.l : Int)) ub) g (k * 3) (.int .i64 (a.w : Int)) (.int .i64 (a.l : Int)) ua) r (.slice (some ⟨g, 0, none⟩) n cap) (swapA ts i k a b) := by
  have hg : w.heap.size + 1 ≤ g := own_ge hown g rfl
  refine ⟨((put3_other _ _ _ _ (by omega)).trans (put3_other _ _ _ _ (by omega))).trans h.out, tr_swap (by decide) hus hown hsy ha hb hua hub hn, below_put3 (below_put3 h.bel (by omega) _ _ _ _) (by omega) _ _ _ _, ?_⟩
  have := h.siz
  simpa [put3, World.setCell] using this
theorem slice_two (g n cap : Nat) (h : 2 ≤ n) (hc : n ≤ cap) : ∃ a, (∀ W, (Instr.slice 101 (.slice (some ⟨g, 0, none⟩) n cap) (some (.int .i64 2)) none none).run Try.prog W = .ok (.slice (some a) (n - 2) (cap - 2)) W) ∧ (0 < n - 2 → a = ⟨g, 6, none⟩) := by
  have hk' : (2 : Int) ≤ (n : Int) := by omega
  by_cases e : cap = 2
  · refine ⟨⟨g, 0, none⟩, fun W => ?_, fun h => by omega⟩
    simp [go_sem, hk', sliced, e]
  · refine ⟨⟨g, 6, none⟩, fun W => ?_, fun h => rfl⟩
    simp [go_sem, hk', sliced, e, Addr.add_lit]
/-- append of the trees behind the second one to a fresh row of one tree -/
theorem step_pre {w V : World} {ops : Array Oper} {o : Oper} {a : Act} {K : Act → World → Prop} {Q : Exit → Act → World → Prop} {E : Prop} (hgd : o.guard = none) (s x : Operand)
    (ho : o.op = .call { callee := .builtin .append, args := #[s, x], argTypes := #[101, 101] })
    {r : List Nat} {g n cap N c m : Nat} {ta tb t : Tr} {rest : List Tr} {u : Value} {ad : Addr}
    (h : RAt w V r (.slice (some ⟨g, 0, none⟩) n cap) (ta :: tb :: rest)) (hq : V.heap[N]? = some (.cells #[.int .i64 (t.w : Int), .int .i64 (t.l : Int), u] 103 (0, 0))) (hN : w.heap.size + 1 ≤ N) (hu : SyOwn V (w.heap.size + 1) u t.sy)
    (hs : a.eval s = .slice (some ⟨N, 0, none⟩) 1 1) (hm : n = m + 2) (hx : a.eval x = .slice (some ad) m c) (had : 0 < m → ad = ⟨g, 6, none⟩) (hn3 : n ≤ 300)
    (H : ∀ tv2 w5, RAt w w5 r tv2 (t :: rest) → K (a.put o.dst tv2) w5) :
    if Region.wanted o (yielded ops a.tmps) = true then Oper.wp Try.prog o a V K Q else E := by
  obtain ⟨ip, hip, hpz, hps, hpb⟩ := info_parts info_rtree
  obtain ⟨us, hus, hown, hsy⟩ := h.trs
  obtain ⟨g', cap', eu, _⟩ := own_slice hown (by simp)
  have hnr : n = (ta :: tb :: rest).length := by injection eu
  clear eu
  have hown' := hown
  rw [← hnr] at hown'
  have hNV : N < V.heap.size := (Array.getElem?_eq_some_iff.1 hq).1
  match us, hus with
  | ua :: ub :: us, hus =>
    simp only [List.length_cons] at hnr hus
    have hus' : us.length = rest.length := by omega
    have hmr : m = rest.length := by omega
    have hl : (trCells rest us).length = m * 3 := by rw [trCells_len _ _ hus', hmr]
    have hownN : V.ownsRow (w.heap.size + 1) 103 3 (.slice (some ⟨N, 0, none⟩) 1 1) 1 [.int .i64 (t.w : Int), .int .i64 (t.l : Int), u] :=
      ⟨rfl, .inr ⟨N, 1, _, rfl, hN, hq, Nat.le_refl _, by unfold maxLen; omega, rfl, rfl⟩⟩
    have hnews : ∀ j v, (trCells rest us)[j]? = some v → V.cell? (ad.add j) = some v := fun j v hv => by
      have hj := (List.getElem?_eq_some_iff.1 hv).1
      rw [had (by omega), add_at _ _ rfl]
      refine own_cellsAt hown' (6 + j) v ?_
      rw [show 6 + j = j + 1 + 1 + 1 + 1 + 1 + 1 by omega]
      simpa [trCells] using hv
    have h1 : ∀ v ∈ trCells rest us, v.oneCell' = true := trCells_one rest us fun v hv => by
      obtain ⟨j, hj⟩ := List.getElem?_of_mem hv
      have hjl := (List.getElem?_eq_some_iff.1 hj).1
      exact sy_one (hsy (j + 2) v (rest[j]'(by omega)) (by simpa using hj) (by simp))
    obtain ⟨v', w', hr, h2, h3, _⟩ := run_append_own_at (P := Try.prog) V (w.heap.size + 1) 101 o.type 103 ip _ 3 40 Try.underlying101 hip hpz hps hpb rfl (by decide) _ 1 _ hownN ad m c (trCells rest us) hl hnews h1 (by unfold maxLen; omega) (by omega) h.siz
    have hw : Region.wanted o (yielded ops a.tmps) = true := by simp [Region.wanted, hgd]
    rw [if_pos hw]
    unfold Oper.wp execOp
    simp only [ho, resolve, invoke, builtin, Sem.run_bind, Sem.run_pure, Result.andThen_ok, List.map_toArray, List.map_cons, List.map_nil, hs, hx, hr]
    refine H v' w' ⟨?_, ⟨u :: us, by simp [hus'], ?_, fun i x y e1 e2 => ?_⟩, ?_, Nat.le_trans h.siz h3.size⟩
    · exact (h3.block _ h.out.lt (fun e => by simp [Value.ownBlock] at e; omega)).trans h.out
    · rw [show (t :: rest).length = 1 + m by simp; omega]
      exact h2
    · have key : ∀ {v : Value} {l : List Nat}, SyOwn V (w.heap.size + 1) v l → SyOwn w' (w.heap.size + 1) v l := fun {v l} hs => own_offG hs fun z hz => by
        obtain ⟨cur, hc⟩ := own_cellsG hs hz
        refine h3.block z (Array.getElem?_eq_some_iff.1 hc).1 (fun e => own_typeG hs hq (by decide) ?_)
        rw [hz, e]; rfl
      match i, e1, e2 with
      | 0, e1, e2 => simp at e1 e2; subst e1 e2; exact key hu
      | i + 1, e1, e2 => exact key (hsy (i + 2) x y (by simpa using e1) (by simpa using e2))
    · exact h.bel.grown h3 (by have := h.siz; omega) (fun z hz => by simp [Value.ownBlock] at hz; omega)
set_option maxHeartbeats 8000000 in
set_option maxRecDepth 100000 in
theorem codeLengths_any (v : Value) (c : List Nat) (w : World) (h : Nats w v c) (hn : c.length ≤ 300) (hm : ∀ s ∈ c, s ≤ 1000000) :
    Calls Try.prog 26 #[v] w fun e w' => ∃ r, LensOf c r ∧ e = .returned (.slice (some ⟨w.heap.size, 0, none⟩) c.length c.length) ∧ OutAt w' w.heap.size r ∧ Below w.heap.size w w' := by
  obtain ⟨hl, A, cap, rfl, hcap, hmax, hx⟩ := h
  unfold maxLen at hmax
  have HX := hide hx
  clear hx hl
  obtain ⟨ip, hip, hpz, hps, hpb⟩ := info_parts info_rtree
  have hout0 : OutAt (w.alloc (.cells (madeCells #[.int .i64 0] c.length) 3)) w.heap.size (List.replicate c.length 0) := by
    unfold OutAt
    rw [made_nats]
    exact heap_alloc_new _ _
  have hmk := run_make_row' (P := Try.prog) 52 3 (.int .i64 0) 8 Try.underlying52 info_int rfl .i64 .i64 c.length (by omega) (by omega)
  have HR0 : Hid (RAt w (w.alloc (.cells (madeCells #[.int .i64 0] c.length) 3)) (List.replicate c.length 0) (.slice none 0 0) (tr0To c 0)) := hide
    ⟨hout0, ⟨[], rfl, World.ownsRow_nil _ _ _ _, fun i u t e => by simp at e⟩, (Below.refl _ _).alloc (Nat.le_refl _) _, by simp⟩
  clear hout0
  go_enter Try.func26, Try.ntmps26
  go_wp2_with fail
  clear hmk
  go_loopw [4, 19] (fun v0 i wr => ∃ (k : Nat) (tv : Value), tv = v0 ∧ k ≤ c.length ∧ i = .int .i64 (k : Int) ∧ Hid (RAt w wr (List.replicate c.length 0) tv (tr0To c k))) (fun _ i _ => c.length - (intOf i).toNat)
  case atStart => exact ⟨0, _, rfl, Nat.zero_le _, rfl, HR0⟩
  case round =>
    obtain ⟨k, tv, rfl, hk, rfl, hln⟩ := hrel
    by_cases hlt : k < c.length
    · obtain ⟨b, o, rfl, hb, hj⟩ := HX.out (by omega)
      have cc : wr.cell? ⟨b, o + k, none⟩ = some (.int .i64 ((c[k] : Nat) : Int)) := (hln.out.bel.cell (p := ⟨b, o + k, none⟩) hb).trans (hj k _ (by simp [natV, hlt]))
      clear hj
      have hst := tr0To_step c k
      rw [getD_nat hlt] at hst
      have hcm := hm _ (List.getElem_mem hlt)
      obtain ⟨ck, hck⟩ : ∃ x, c[k] = x := ⟨_, rfl⟩
      rw [hck] at cc hst hcm
      clear hck
      by_cases h0 : 0 < ck
      · rw [if_pos h0] at hst
        have h0' : (0 : Int) < (ck : Int) := by omega
        have HST := hide hst
        obtain ⟨us, hus, hown, hsy⟩ := hln.out.trs
        have hsl := tr0To_len c k
        obtain ⟨ts, hts⟩ : ∃ ts, tr0To c k = ts := ⟨_, rfl⟩
        rw [hts] at hln hown hus hsy HST hsl
        have bw1 := (Below.refl wr.heap.size wr).alloc (Nat.le_refl _) (.cells #[.int .i64 (k : Int)] 3)
        have bw2 := bw1.alloc (by simp) (.cells #[.int .i64 (ck : Int), .int .i64 (k : Int), .slice (some ⟨wr.heap.size, 0, none⟩) 1 1] 103)
        have HOWN := hide (own_below hown bw2)
        have HPU : Hid (∀ tv2 w5, w5.ownsRow (w.heap.size + 1) 103 3 tv2 (ts.length + 1) (trCells ts us ++ [.int .i64 (ck : Int), .int .i64 (k : Int), .slice (some ⟨wr.heap.size, 0, none⟩) 1 1]) → ((wr.alloc (.cells #[.int .i64 (k : Int)] 3)).alloc (.cells #[.int .i64 (ck : Int), .int .i64 (k : Int), .slice (some ⟨wr.heap.size, 0, none⟩) 1 1] 103)).grownBy w5 tv.ownBlock →
            RAt w w5 (List.replicate c.length 0) tv2 (ts ++ [⟨ck, k, [k]⟩])) := hide (fun tv2 w5 h1 h2 => hln.out.push (t := ⟨ck, k, [k]⟩) hus hown hsy bw1 (SyOwn.new wr _ k hln.out.siz) h1 h2)
        have hsz := hln.out.siz
        clear hst hown hsy hts bw1 bw2 hln
        go_wp2_with (at_builtin; refine wpList_append_own_at _ rfl _ _ 101 rfl (w.heap.size + 1) 103 ip _ 3 40 Try.underlying101 hip hpz hps hpb rfl (by decide) _ ts.length (trCells ts us) rfl HOWN.out ⟨wr.heap.size + 1, 0, none⟩ 1 1 [.int .i64 (ck : Int), .int .i64 (k : Int), .slice (some ⟨wr.heap.size, 0, none⟩) 1 1] (by rfl) rfl (fun j u hu => by have := three_new (wr.alloc (.cells #[.int .i64 (k : Int)] 3)) (.int .i64 (ck : Int)) (.int .i64 (k : Int)) (.slice (some ⟨wr.heap.size, 0, none⟩) 1 1) 103 j u hu; simpa using this) (by simp [Value.oneCell']) (by unfold maxLen; omega) (by omega) (by simp; omega) ?_; intro vv w5 hown5 hgrow5 hnil5 hat5; have HP5 := hide (HPU.out _ _ hown5 hgrow5); clear hown5 hgrow5 hnil5 hat5)
        go_roundw
        case rel => exact ⟨k + 1, _, rfl, by omega, by go_num, by rw [HST.out]; exact HP5⟩
        case measure => simp [intOf]; omega
      · rw [if_neg h0] at hst
        have h0' : ¬ ((0 : Int) < (ck : Int)) := by omega
        have h0'' : decide ((0 : Int) < (ck : Int)) = false := by simpa using h0'
        rw [← hst] at hln
        clear hst
        go_wp2_with fail
        go_roundw
        case rel => exact ⟨k + 1, tv, rfl, by omega, by go_num, hln⟩
        case measure => simp [intOf]; omega
    · obtain rfl : k = c.length := by omega
      have hln2 : Hid (RAt w wr (List.replicate c.length 0) tv (tr0 c)) := hln
      obtain ⟨us, hus, hown, hsy⟩ := hln2.out.trs
      have hb300 := (tr0_bounds hn hm).2.2.2.1
      by_cases hone : (tr0 c).length = 1
      · obtain ⟨t, ht⟩ : ∃ t, tr0 c = [t] := List.length_eq_one_iff.1 hone
        obtain ⟨hlp, htl⟩ := LpAt.one hn hm ht
        rw [ht] at hown hus hln2
        obtain ⟨g, tc, rfl, hg, hgz, hgc, hgm⟩ := own_slice hown (by simp)
        obtain ⟨u, hu⟩ : ∃ u, us = [u] := List.length_eq_one_iff.1 hus
        subst hu
        have cl := own_cellsAt hown 1 (.int .i64 (t.l : Int)) rfl
        obtain ⟨o0, o1⟩ := hln2.out.out.cells t.l (by simpa using htl)
        have htl2 : (t.l : Int) < (c.length : Int) := by omega
        have htl3 : t.l < c.length := htl
        have HO : Hid (OutAt (wr.setCell ⟨w.heap.size, t.l, none⟩ (.int .i64 1)) w.heap.size ((List.replicate c.length 0).set t.l 1)) := hide (hln2.out.out.bump t.l 1)
        have HBL : Hid (Below w.heap.size w (wr.setCell ⟨w.heap.size, t.l, none⟩ (.int .i64 1))) := hide (hln2.out.bel.setCell (p := ⟨w.heap.size, t.l, none⟩) (Nat.le_refl _) _)
        have HLEN : Hid (LensOf c ((List.replicate c.length 0).set t.l 1)) := hide (hlp.fin _ (.done _ _ (by rw [ht]; simp)))
        clear hln hown hsy hus hgm hlp ht hone hgc
        go_wp2_with fail
        refine wp_loop_rounds 1 ?_
        rw [rounds_succ]
        go_wp2_with fail
        go_ret
        exact ⟨_, HLEN.out, rfl, HO.out, HBL.out⟩
      · have hlp0 := LpAt.start hn hm hone
        have hone' : ¬ ((((tr0 c).length : Nat) : Int) = 1) := by omega
        have hone2 : ((((tr0 c).length : Nat) : Int) == 1) = false := by simp; omega
        obtain ⟨TA, tc, rfl⟩ := own_formI hown
        have HLP := hide hlp0
        clear hln hown hsy hus hlp0 us
        go_wp2_with fail
        clear hone hone' hone2
        go_loopg [4] (tr0 c).length (fun gh v0 wr => ∃ (r : List Nat) (tv : Value) (ts : List Tr), tv = v0 ∧ Hid (RAt w wr r tv ts) ∧ Hid (LpAt c r ts) ∧ ts.length = gh ∧ gh ≤ 300)
        case atStart => exact ⟨_, _, _, rfl, hln2, HLP, rfl, hb300⟩
        case round =>
          obtain ⟨r, tv, ts, rfl, hln, hlp, htl, h300⟩ := hrel
          clear hln2 HLP
          obtain ⟨us, hus, hown, hsy⟩ := hln.out.trs
          by_cases h1 : 1 < gk
          · have h1' : ((1 : Int) < (gk : Int)) := by omega
            obtain ⟨g, cap2, rfl, hg, hgz, hgc, hgm⟩ := own_slice hown (by omega)
            rw [htl]
            rw [htl] at hln
            have HTL := hide htl
            have HL0 := hide (show Sel 0 1 ts from Sel.start ts)
            have HP0 := hide (List.Perm.refl ts)
            clear hus hown hsy us hgm hgc hgz htl
            go_wp2_with fail
            go_loopw [47] (fun iv wx => ∃ (i : Nat) (xs : List Tr), iv = .int .i64 (i : Int) ∧ i ≤ 2 ∧ Hid (xs.Perm ts) ∧ Hid (Sel i (i + 1) xs) ∧ Hid (RAt w wx r (.slice (some ⟨g, 0, none⟩) gk cap2) xs)) (fun iv _ => 2 - (intOf iv).toNat)
            case atStart => exact ⟨0, ts, rfl, by omega, HP0, HL0, hln⟩
            case round =>
              obtain ⟨i, xs, rfl, hi, hpx, hse, hrx⟩ := hrel
              by_cases hi2 : i < 2
              · have hi2' : (i : Int) < 2 := by omega
                have hw1 : IntKind.i64.wrap ((i : Int) + 1) = (i : Int) + 1 := IntWalk.i64_in _ (by omega)
                go_wp2_with fail
                go_loopw [8] (fun kv wx => ∃ (k : Nat) (xs : List Tr), kv = .int .i64 (k : Int) ∧ i < k ∧ k ≤ gk ∧ Hid (xs.Perm ts) ∧ Hid (Sel i k xs) ∧ Hid (RAt w wx r (.slice (some ⟨g, 0, none⟩) gk cap2) xs)) (fun kv _ => gk - (intOf kv).toNat)
                case atStart => exact ⟨i + 1, xs, by go_num, by omega, by omega, hpx, hse, hrx⟩
                case round =>
                  obtain ⟨k, xs, rfl, hik, hkg, hpx, hse, hrx⟩ := hrel
                  by_cases hkl : k < gk
                  · have hxl : xs.length = gk := by rw [hpx.out.length_eq]; exact HTL.out
                    obtain ⟨us, hus, hown, hsy⟩ := hrx.out.trs
                    rw [hxl] at hown
                    have hcells := own_cellsAt hown
                    obtain ⟨F, hf1, hf2, hf3, hf4, hfz⟩ := own_fullG hown
                    have hfr := (own_thereG hfz).2
                    obtain ⟨ta, hta⟩ : ∃ t, xs[i]? = some t := ⟨_, List.getElem?_eq_getElem (by omega)⟩
                    obtain ⟨tb, htb⟩ : ∃ t, xs[k]? = some t := ⟨_, List.getElem?_eq_getElem (by omega)⟩
                    obtain ⟨ua, hua⟩ : ∃ u, us[i]? = some u := ⟨us[i]'(by omega), List.getElem?_eq_getElem (by omega)⟩
                    obtain ⟨ub, hub⟩ : ∃ u, us[k]? = some u := ⟨us[k]'(by omega), List.getElem?_eq_getElem (by omega)⟩
                    obtain ⟨a0, a1, a2⟩ := trCells_at xs us i ta ua hta hua hus
                    obtain ⟨b0, b1, b2⟩ := trCells_at xs us k tb ub htb hub hus
                    have a0 := hcells _ _ a0
                    have a1 := hcells _ _ a1
                    have a2 := hcells _ _ a2
                    have b0 := hcells _ _ b0
                    have b1 := hcells _ _ b1
                    have b2 := hcells _ _ b2
                    have fa0 := hfr (i * 3)
                    have fa1 := hfr (i * 3 + 1)
                    have fa2 := hfr (i * 3 + 2)
                    have fb0 := hfr (k * 3)
                    have fb1 := hfr (k * 3 + 1)
                    have fb2 := hfr (k * 3 + 2)
                    have HSW : Hid (∀ q, RAt w (put3 (put3 (wr.drewN q) g (i * 3) (.int .i64 (tb.w : Int)) (.int .i64 (tb.l : Int)) ub) g (k * 3) (.int .i64 (ta.w : Int)) (.int .i64 (ta.l : Int)) ua) r (.slice (some ⟨g, 0, none⟩) gk cap2) (swapA xs i k ta tb)) := hide (fun q => by
                      have hbq : Below wr.heap.size wr (wr.drewN q) := below_drewN (Below.refl _ _) q
                      exact (hrx.out.below hbq).swap hus (own_below hown hbq) (fun i u t e1 e2 => (hsy i u t e1 e2).below hbq) hta htb hua hub hxl.symm)
                    obtain ⟨UA, uac, rfl⟩ := own_formI (hsy i ua ta hua hta)
                    obtain ⟨UB, ubc, rfl⟩ := own_formI (hsy k ub tb hub htb)
                    have HTA := hide hta
                    have HTB := hide htb
                    have hir : i < gk := by omega
                    obtain ⟨la, hla⟩ : ∃ n, ta.sy.length = n := ⟨_, rfl⟩
                    obtain ⟨lb, hlb⟩ : ∃ n, tb.sy.length = n := ⟨_, rfl⟩
                    rw [hla] at a2 HSW
                    rw [hlb] at b2 HSW
                    clear hcells hfr hfz hf1 hf2 hf3 hf4 hus hown hsy hua hub hta htb hla hlb hxl
                    by_cases hl : ltT tb ta
                    · have HPX : Hid ((swapA xs i k ta tb).Perm ts) := hide ((swapA_perm xs i k ta tb (by omega) HTA.out HTB.out).trans hpx.out)
                      have HSE : Hid (Sel i (k + 1) (swapA xs i k ta tb)) := hide (hse.out.swap hik HTA.out HTB.out hl)
                      unfold ltT at hl
                      by_cases hw : (tb.w : Int) < (ta.w : Int)
                      · have hw' : decide ((tb.w : Int) < (ta.w : Int)) = true := by simpa using hw
                        clear hl
                        go_wp2_with fail
                        go_quiet (fail)
                        go_wp2_with fail
                        clear hw hw'
                        go_region
                        all_goals
                          go_wp2_with fail
                          go_roundw
                          case rel => exact ⟨k + 1, swapA xs i k ta tb, by go_num, by omega, by omega, HPX, HSE, hide (by first | exact HSW.out _ | exact (HSW.out _).drew | exact (HSW.out _).drew.drew)⟩
                          case measure => simp [intOf]; omega
                      · have hw' : decide ((tb.w : Int) < (ta.w : Int)) = false := by simpa using hw
                        have hq : ((tb.w : Int) == (ta.w : Int)) = true := by simp; omega
                        have hr : (tb.l : Int) < (ta.l : Int) := by omega
                        have hr' : decide ((tb.l : Int) < (ta.l : Int)) = true := by simpa using hr
                        obtain ⟨wa, hwa⟩ : ∃ n : Int, (ta.w : Int) = n := ⟨_, rfl⟩
                        obtain ⟨wb, hwb⟩ : ∃ n : Int, (tb.w : Int) = n := ⟨_, rfl⟩
                        rw [hwa] at a0 hw hw' hq HSW
                        rw [hwb] at b0 hw hw' hq HSW
                        clear hl hwa hwb
                        go_wp2_with fail
                        go_quiet (fail)
                        go_wp2_with fail
                        clear hw hw' hq hr hr'
                        go_region
                        all_goals
                          go_wp2_with fail
                          go_roundw
                          case rel => exact ⟨k + 1, swapA xs i k ta tb, by go_num, by omega, by omega, HPX, HSE, hide (by first | exact HSW.out _ | exact (HSW.out _).drew | exact (HSW.out _).drew.drew)⟩
                          case measure => simp [intOf]; omega
                    · have HSE : Hid (Sel i (k + 1) xs) := hide (hse.out.stay HTA.out HTB.out hl)
                      unfold ltT at hl
                      have hw : ¬ ((tb.w : Int) < (ta.w : Int)) := by omega
                      have hw' : decide ((tb.w : Int) < (ta.w : Int)) = false := by simpa using hw
                      by_cases hq : tb.w = ta.w
                      · have hq' : ((tb.w : Int) == (ta.w : Int)) = true := by simp; omega
                        have hr : ¬ ((tb.l : Int) < (ta.l : Int)) := by omega
                        have hr' : decide ((tb.l : Int) < (ta.l : Int)) = false := by simpa using hr
                        obtain ⟨wa, hwa⟩ : ∃ n : Int, (ta.w : Int) = n := ⟨_, rfl⟩
                        obtain ⟨wb, hwb⟩ : ∃ n : Int, (tb.w : Int) = n := ⟨_, rfl⟩
                        rw [hwa] at a0 hw hw' hq'
                        rw [hwb] at b0 hw hw' hq'
                        clear hl hq hwa hwb HSW
                        go_wp2_with fail
                        go_quiet (fail)
                        go_wp2_with fail
                        go_roundw
                        case rel => exact ⟨k + 1, xs, by go_num, by omega, by omega, hpx, HSE, hide (hrx.out.below (below_drewN (Below.refl _ _) _))⟩
                        case measure => simp [intOf]; omega
                      · have hq' : ((tb.w : Int) == (ta.w : Int)) = false := by simp; omega
                        obtain ⟨wa, hwa⟩ : ∃ n : Int, (ta.w : Int) = n := ⟨_, rfl⟩
                        obtain ⟨wb, hwb⟩ : ∃ n : Int, (tb.w : Int) = n := ⟨_, rfl⟩
                        rw [hwa] at a0 hw hw' hq'
                        rw [hwb] at b0 hw hw' hq'
                        clear hl hq hwa hwb HSW
                        go_wp2_with fail
                        go_quiet (fail)
                        go_wp2_with fail
                        go_roundw
                        case rel => exact ⟨k + 1, xs, by go_num, by omega, by omega, hpx, HSE, hide (hrx.out.below (below_drewN (Below.refl _ _) _))⟩
                        case measure => simp [intOf]; omega
                  · obtain rfl : k = gk := by omega
                    have HSE : Hid (Sel (i + 1) (i + 1 + 1) xs) := hide (hse.out.next (by rw [hpx.out.length_eq, HTL.out]; exact Nat.le_refl _))
                    go_wp2_with fail
                    go_roundw
                    case rel => exact ⟨i + 1, xs, by go_num, by omega, hpx, HSE, hrx⟩
                    case measure => simp [intOf]; omega
              · obtain rfl : i = 2 := by omega
                have hxl : xs.length = gk := by rw [hpx.out.length_eq]; exact HTL.out
                obtain ⟨a, b, rest, rfl⟩ : ∃ a b rest, xs = a :: b :: rest := by
                  match xs, hxl with
                  | [], e => simp at e; omega
                  | [_], e => simp at e; omega
                  | a :: b :: rest, _ => exact ⟨a, b, rest, rfl⟩
                have HSTEP := hide (Sel.step hlp.out.ap hpx.out hse.out rfl)
                obtain ⟨us, hus, hown, hsy⟩ := hrx.out.trs
                obtain ⟨ua, ub, urest, rfl⟩ : ∃ a b rest, us = a :: b :: rest := by
                  match us, hus with
                  | [], e => simp at e
                  | [_], e => simp at e
                  | a :: b :: rest, _ => exact ⟨a, b, rest, rfl⟩
                rw [hxl] at hown
                have hcells := own_cellsAt hown
                have a0 := hcells 0 (.int .i64 (a.w : Int)) rfl
                have a1 := hcells 1 (.int .i64 (a.l : Int)) rfl
                have a2 := hcells 2 ua rfl
                have b0 := hcells 3 (.int .i64 (b.w : Int)) rfl
                have b1 := hcells 4 (.int .i64 (b.l : Int)) rfl
                have b2 := hcells 5 ub rfl
                have HSA := hide (hsy 0 ua a rfl rfl)
                have HSB := hide (hsy 1 ub b rfl rfl)
                have HOWN := hide hown
                have HSY := hide hsy
                have HUS := hide hus
                have HXL := hide hxl
                obtain ⟨UA, uac, rfl⟩ := own_formI HSA.out
                obtain ⟨UB, ubc, rfl⟩ := own_formI HSB.out
                obtain ⟨la, hla⟩ : ∃ n, a.sy.length = n := ⟨_, rfl⟩
                obtain ⟨lb, hlb⟩ : ∃ n, b.sy.length = n := ⟨_, rfl⟩
                rw [hla] at a2
                rw [hlb] at b2
                have h2 : 2 ≤ gk := by omega
                have hgw : g < wr.heap.size := (own_slice hown (by omega)).elim fun g' h => by
                  obtain ⟨c', e1, _, e2, _⟩ := h
                  injection e1 with e1
                  injection e1 with e1
                  injection e1 with e1
                  omega
                have KA : ∀ (W : World) (j : Nat) (x : Value), g < W.heap.size → W.cell? ⟨g, j, none⟩ = some x → (W.alloc (.cells #[.int .i64 0, .int .i64 0, .slice none 0 0] 103)).cell? ⟨g, j, none⟩ = some x := fun W j x hW hx => ((Below.refl W.heap.size W).alloc (Nat.le_refl _) _).cell (p := ⟨g, j, none⟩) hW |>.trans hx
                have a0' := KA _ _ _ hgw a0
                have a1' := KA _ _ _ hgw a1
                have a2' := KA _ _ _ hgw a2
                have b0' := KA _ _ _ hgw b0
                have b1' := KA _ _ _ hgw b1
                have b2' := KA _ _ _ hgw b2
                have hgw2 : g < (wr.alloc (.cells #[.int .i64 0, .int .i64 0, .slice none 0 0] 103)).heap.size := by simp; omega
                have a0q := KA _ _ _ hgw2 a0'
                have a1q := KA _ _ _ hgw2 a1'
                have a2q := KA _ _ _ hgw2 a2'
                have b0q := KA _ _ _ hgw2 b0'
                have b1q := KA _ _ _ hgw2 b1'
                have b2q := KA _ _ _ hgw2 b2'
                have HT2 : Hid (∀ (x0 x1 x2 y0 y1 y2 : Value), TreeR ((wr.alloc (.cells #[x0, x1, x2] 103)).alloc (.cells #[y0, y1, y2] 103)).drew wr.heap.size x0 x1 x2 ∧ TreeR ((wr.alloc (.cells #[x0, x1, x2] 103)).alloc (.cells #[y0, y1, y2] 103)).drew (wr.heap.size + 1) y0 y1 y2 ∧ Below wr.heap.size wr ((wr.alloc (.cells #[x0, x1, x2] 103)).alloc (.cells #[y0, y1, y2] 103)).drew) := hide (fun x0 x1 x2 y0 y1 y2 =>
                  ⟨(heap_alloc_old _ _ (by simp)).trans (heap_alloc_new _ _), by
                    have := heap_alloc_new (wr.alloc (.cells #[x0, x1, x2] 103)) (.cells #[y0, y1, y2] 103)
                    rw [show (wr.alloc (.cells #[x0, x1, x2] 103)).heap.size = wr.heap.size + 1 by simp] at this
                    exact this, (((Below.refl _ _).alloc (Nat.le_refl _) _).alloc (by simp) _).drew⟩)
                clear hcells hown hsy hus hxl KA
                go_wp2_with fail
                go_cut [9, 10] from 110 to 115 (fun p q wx => ∃ X Y : Nat, p = .pointer (some ⟨X, 0, none⟩) ∧ q = .pointer (some ⟨Y, 0, none⟩) ∧ Hid (TreeR wx X (.int .i64 (a.w : Int)) (.int .i64 (a.l : Int)) (.slice UA la uac)) ∧ Hid (TreeR wx Y (.int .i64 (b.w : Int)) (.int .i64 (b.l : Int)) (.slice UB lb ubc)) ∧ Hid (Below wr.heap.size wr wx))
                case first =>
                  go_region
                  all_goals
                    go_wp2_with fail
                    go_meet
                    case rel =>
                      first
                        | exact ⟨wr.heap.size, wr.heap.size + 1, by simp, by simp, hide (HT2.out _ _ _ _ _ _).1, hide (HT2.out _ _ _ _ _ _).2.1, hide (HT2.out _ _ _ _ _ _).2.2⟩
                        | exact ⟨wr.heap.size + 1, wr.heap.size, by simp, by simp, hide (HT2.out _ _ _ _ _ _).2.1, hide (HT2.out _ _ _ _ _ _).1, hide (HT2.out _ _ _ _ _ _).2.2⟩
                case rest =>
                  obtain ⟨X, Y, rfl, rfl, hTX, hTY, hbc⟩ := hcut
                  clear a0 a1 a2 b0 b1 b2 a0' a1' a2' b0' b1' b2' a0q a1q a2q b0q b1q b2q HT2 hgw2
                  have HRX := hide (hrx.out.below hbc.out)
                  have HSA4 := hide (HSA.out.below hbc.out)
                  have HSB4 := hide (HSB.out.below hbc.out)
                  have hsz4 := HRX.out.siz
                  obtain ⟨⟨a0, a1, a2⟩, _⟩ := hTX.out.cells
                  obtain ⟨⟨b0, b1, b2⟩, _⟩ := hTY.out.cells
                  have hXl : X < wc.heap.size := (Array.getElem?_eq_some_iff.1 hTX.out).1
                  have hYl : Y < wc.heap.size := (Array.getElem?_eq_some_iff.1 hTY.out).1
                  go_wp2_with fail
                  go_cut [11] from 116 to 131 (fun x wx => ∃ (NB : Nat) (u : Value), x = .pointer (some ⟨NB, 0, none⟩) ∧ Hid (TreeR wx NB (.int .i64 (((joinT a b).w : Nat) : Int)) (.int .i64 (((joinT a b).l : Nat) : Int)) u) ∧ Hid (SyOwn wx (w.heap.size + 1) u (joinT a b).sy) ∧ Hid (Below wc.heap.size wc wx) ∧ wc.heap.size ≤ NB)
                  case first =>
                    have hmem := HSTEP.out
                    have hsum : a.w + b.w ≤ 300000000 ∧ a.sy.length ≤ 1000 ∧ b.sy.length ≤ 1000 := by
                      obtain ⟨a', b', l', pp, _, _, ej, _⟩ := hmem
                      have q1 := (pp.map Tr.w).sum_nat
                      have q2 := (pp.flatMap_right Tr.sy).length_eq
                      have q3 := hlp.out.wsum
                      have q4 := hlp.out.cnt
                      simp only [List.map_cons, List.sum_cons] at q1
                      simp only [List.flatMap_cons, List.length_append] at q2
                      have q5 : a.w + b.w = a'.w + b'.w := congrArg Tr.w ej
                      have q6 := congrArg (fun t => t.sy.length) ej
                      simp only [joinT, List.length_append] at q6
                      omega
                    have hwab : IntKind.i64.wrap ((a.w : Int) + (b.w : Int)) = (a.w : Int) + (b.w : Int) := by rw [IntKind.wrap_i64]; omega
                    have hwj : (a.w : Int) + (b.w : Int) = (((joinT a b).w : Nat) : Int) := (Int.natCast_add _ _).symm
                    have hlj : min (a.l : Int) (b.l : Int) = (((joinT a b).l : Nat) : Int) := by show _ = ((min a.l b.l : Nat) : Int); omega
                    obtain ⟨JW, hJW⟩ : ∃ x : Int, (((joinT a b).w : Nat) : Int) = x := ⟨_, rfl⟩
                    obtain ⟨JL, hJL⟩ : ∃ x : Int, (((joinT a b).l : Nat) : Int) = x := ⟨_, rfl⟩
                    rw [hJW] at hwj
                    rw [hJL] at hlj
                    rw [hwj] at hwab
                    have HJ := hide (show (((joinT a b).w : Nat) : Int) = JW ∧ (((joinT a b).l : Nat) : Int) = JL from ⟨hJW, hJL⟩)
                    obtain ⟨nj, hnj⟩ : ∃ n, (joinT a b).sy.length = n := ⟨_, rfl⟩
                    have KC : ∀ (W : World), Below wc.heap.size wc W → Calls Try.prog 56 #[.slice UA la uac, .slice UB lb ubc] W fun e w' => ∃ (U : Option Addr) (un : Nat), e = .returned (.slice U nj un) ∧ SyOwn w' (w.heap.size + 1) (.slice U nj un) (joinT a b).sy ∧ Below W.heap.size W w' := fun W hW => by
                      have qa : Nats W (.slice UA la uac) a.sy := by have := (HSA4.out.below hW).rd; rw [hla] at this; rw [← hla] at this ⊢; exact this
                      have qb : Nats W (.slice UB lb ubc) b.sy := by have := (HSB4.out.below hW).rd; rw [hlb] at this; rw [← hlb] at this ⊢; exact this
                      refine (both_any _ _ a.sy b.sy W qa qb hsum.2.1 hsum.2.2).mono ?_
                      rintro e w' ⟨v', rfl, hs, hb⟩
                      obtain ⟨U, un, rfl⟩ := own_formI hs
                      have hs2 : SyOwn w' (w.heap.size + 1) (.slice U (a.sy ++ b.sy).length un) (a.sy ++ b.sy) := World.ownsRow.mono hs (by have := hW.size; omega)
                      have e : (a.sy ++ b.sy).length = nj := hnj
                      rw [e] at hs2 ⊢
                      exact ⟨U, un, rfl, hs2, hb⟩
                    have n1 : Below wc.heap.size wc wc.drew := (Below.refl wc.heap.size wc).drew
                    have n2 : Below wc.heap.size wc (wc.alloc (.cells #[.int .i64 0, .int .i64 0, .slice none 0 0] 103)).drew := ((Below.refl wc.heap.size wc).alloc (Nat.le_refl _) _).drew
                    have HC1 := hide (KC _ n1)
                    have HC2 := hide (KC _ n2)
                    have N1 := hide n1
                    have N2 := hide n2
                    have g2 : Hid (TreeR (wc.alloc (.cells #[.int .i64 0, .int .i64 0, .slice none 0 0] 103)).drew wc.heap.size (.int .i64 0) (.int .i64 0) (.slice none 0 0)) := hide (heap_alloc_new wc _)
                    clear KC n1 n2 hmem hsum hJW hJL hla hlb hnj
                    have ne1a : ¬ (X = wc.heap.size) := by omega
                    have ne1b : ¬ (wc.heap.size = X) := by omega
                    have ne2a : ¬ (Y = wc.heap.size) := by omega
                    have ne2b : ¬ (wc.heap.size = Y) := by omega
                    go_region_held3 (fun w' => w'.cell? ⟨X, 0, none⟩ = some (.int .i64 (a.w : Int)) ∧ w'.cell? ⟨X, 1, none⟩ = some (.int .i64 (a.l : Int)) ∧ w'.cell? ⟨X, 2, none⟩ = some (.slice UA la uac) ∧ w'.cell? ⟨Y, 0, none⟩ = some (.int .i64 (b.w : Int)) ∧ w'.cell? ⟨Y, 1, none⟩ = some (.int .i64 (b.l : Int)) ∧ w'.cell? ⟨Y, 2, none⟩ = some (.slice UB lb ubc)) (go_keep)
                      (first
                        | (go_at_call 56; (with_reducible refine (HC1.out).mono ?_); rintro e w5 ⟨U, un, rfl, hu5, hb5⟩; have EB : Hid (Below wc.heap.size wc w5) := hide (N1.out.trans (hb5.mono N1.out.size)); have HU5 := hide hu5; clear hu5 hb5; have q0 := (EB.out.cell (p := ⟨X, 0, none⟩) hXl).trans a0; have q1 := (EB.out.cell (p := ⟨X, 1, none⟩) hXl).trans a1; have q2 := (EB.out.cell (p := ⟨X, 2, none⟩) hXl).trans a2; have q3 := (EB.out.cell (p := ⟨Y, 0, none⟩) hYl).trans b0; have q4 := (EB.out.cell (p := ⟨Y, 1, none⟩) hYl).trans b1; have q5 := (EB.out.cell (p := ⟨Y, 2, none⟩) hYl).trans b2)
                        | (go_at_call 56; (with_reducible refine (HC2.out).mono ?_); rintro e w5 ⟨U, un, rfl, hu5, hb5⟩; have EB : Hid (Below wc.heap.size wc w5) := hide (N2.out.trans (hb5.mono N2.out.size)); have G : Hid (TreeR w5 wc.heap.size (.int .i64 0) (.int .i64 0) (.slice none 0 0)) := hide ((hb5.block _ (Array.getElem?_eq_some_iff.1 g2.out).1).trans g2.out); have HU5 := hide hu5; clear hu5 hb5; obtain ⟨⟨k0, k1, k2⟩, kf⟩ := G.out.cells; have f0 := kf 0; have f1 := kf 1; have f2 := kf 2; clear kf; have q0 := (EB.out.cell (p := ⟨X, 0, none⟩) hXl).trans a0; have q1 := (EB.out.cell (p := ⟨X, 1, none⟩) hXl).trans a1; have q2 := (EB.out.cell (p := ⟨X, 2, none⟩) hXl).trans a2; have q3 := (EB.out.cell (p := ⟨Y, 0, none⟩) hYl).trans b0; have q4 := (EB.out.cell (p := ⟨Y, 1, none⟩) hYl).trans b1; have q5 := (EB.out.cell (p := ⟨Y, 2, none⟩) hYl).trans b2)
                        | (go_at_call 56; go_loud (show False)))
                    all_goals
                      try (rename (World.cell? _ _ = _ ∧ _) => hh; clear hh)
                      go_wp2_with fail
                      go_meet
                      case rel =>
                        rw [HJ.out.1, HJ.out.2]
                        have HTS := HU5.out
                        first
                          | (refine ⟨w5.heap.size, .slice U nj un, by with_reducible rfl, hide ?_, hide ?_, hide ?_, ?_⟩
                             · exact heap_alloc_new _ _
                             · exact HTS.below ((Below.refl _ _).alloc (Nat.le_refl _) _)
                             · exact EB.out.alloc EB.out.size _
                             · exact EB.out.size)
                          | (refine ⟨wc.heap.size, .slice U nj un, by with_reducible rfl, hide ?_, hide ?_, hide ?_, Nat.le_refl _⟩
                             · exact TreeR.set G.out _ _ _
                             · exact own_offG HTS (fun x hx => put3_other 0 _ _ _ (fun e => own_typeG HTS G.out (by decide) (by rw [hx, e])))
                             · exact below_put3 EB.out (Nat.le_refl _) 0 _ _ _)
                  case rest =>
                    obtain ⟨NB, u, rfl, htcx, hsyx, hbx, hNB⟩ := hcut
                    have hlpx := hlp.out.step HSTEP.out
                    have hrx2 := hide (HRX.out.below hbx.out)
                    have HTCX := htcx
                    have HSYX := hsyx
                    obtain ⟨U, uu, rfl⟩ := own_formI hsyx.out
                    obtain ⟨⟨t0, t1, t2⟩, _⟩ := htcx.out.cells
                    have HSLT : Hid (∀ s ∈ (joinT a b).sy, s < c.length) := hide (fun s hs => hlpx.sy _ List.mem_cons_self s hs)
                    have hnod0 : (joinT a b).sy.Nodup := by
                      have h := hlpx.nod
                      rw [List.flatMap_cons] at h
                      exact (List.nodup_append.1 h).1
                    have HNOD := hide hnod0
                    have HRL0 := hide hlp.out.len
                    have HDEP := hide hlp.out.dep
                    have HLPX := hide hlpx
                    obtain ⟨sy, hsy⟩ : ∃ l, (joinT a b).sy = l := ⟨_, rfl⟩
                    have hsyl : sy.length ≤ 1000 := by
                      have h := hlpx.cnt
                      rw [List.flatMap_cons, List.length_append, hsy] at h
                      omega
                    rw [hsy] at HSYX HSLT HNOD t2 HTCX HLPX
                    clear htcx hsyx hbx hlpx hnod0 a0 a1 a2 b0 b1 b2 hTX hTY HRX HSA4 HSB4 hla hlb
                    go_wp2_with fail
                    clear t0 t1 t2
                    go_loopw [135] (fun i wr => ∃ j : Nat, j ≤ sy.length ∧ i = .int .i64 (j : Int) ∧ Hid (RAt w wr (bump r (sy.take j)) (.slice (some ⟨g, 0, none⟩) gk cap2) (a :: b :: rest)) ∧ Hid (TreeR wr NB (.int .i64 (((joinT a b).w : Nat) : Int)) (.int .i64 (((joinT a b).l : Nat) : Int)) (.slice U sy.length uu)) ∧ Hid (SyOwn wr (w.heap.size + 1) (.slice U sy.length uu) sy)) (fun i _ => sy.length - (intOf i).toNat)
                    case atStart => exact ⟨0, Nat.zero_le _, rfl, hrx2, HTCX, HSYX⟩
                    case round =>
                      obtain ⟨j, hj, rfl, hlj, htj, hsj⟩ := hrel
                      by_cases hjl : j < sy.length
                      · obtain ⟨gu, gc, eu, hgu, hguz, _, _⟩ := own_slice hsj.out (by omega)
                        injection eu with e1 _ e3
                        subst e1 e3
                        obtain ⟨s, hs⟩ : ∃ s, sy[j] = s := ⟨_, rfl⟩
                        have cs : wr.cell? ⟨gu, j, none⟩ = some (.int .i64 (s : Int)) := own_cellsAt hsj.out j _ (by simp [hjl, hs])
                        have hsm : s ∈ sy := by rw [← hs]; exact List.getElem_mem hjl
                        have hsl := HSLT.out s hsm
                        have hrl : (bump r (sy.take j)).length = c.length := by rw [bump_length]; exact HRL0.out
                        obtain ⟨o0, o1⟩ := hlj.out.out.cells s (by rw [hrl]; exact hsl)
                        have htk : sy.take (j + 1) = sy.take j ++ [s] := by rw [List.take_succ_eq_append_getElem hjl, hs]
                        have hval : (bump r (sy.take j)).getD s 0 ≤ 1000 := by
                          rw [getD_bump _ _ _ (List.Sublist.nodup (List.take_sublist j sy) HNOD.out) (fun t ht => by rw [HRL0.out]; exact HSLT.out t (List.mem_of_mem_take ht))]
                          have := HDEP.out s
                          split <;> omega
                        obtain ⟨x, hx⟩ : ∃ x, (bump r (sy.take j)).getD s 0 = x := ⟨_, rfl⟩
                        rw [hx] at o0 hval
                        have hw1' : IntKind.i64.wrap ((x : Int) + 1) = (x : Int) + 1 := by rw [IntKind.wrap_i64]; omega
                        have hsl2 : (s : Int) < (c.length : Int) := by omega
                        have HL2 : Hid (RAt w (wr.setCell ⟨w.heap.size, s, none⟩ (.int .i64 ((x : Int) + 1))) (bump r (sy.take (j + 1))) (.slice (some ⟨g, 0, none⟩) gk cap2) (a :: b :: rest)) := hide (by
                          rw [htk, bump_snoc, bump1, hx]
                          exact hlj.out.set s (x + 1))
                        have HT2 : Hid (TreeR (wr.setCell ⟨w.heap.size, s, none⟩ (.int .i64 ((x : Int) + 1))) NB (.int .i64 (((joinT a b).w : Nat) : Int)) (.int .i64 (((joinT a b).l : Nat) : Int)) (.slice (some ⟨gu, 0, none⟩) sy.length uu)) := hide ((heap_setCell_other _ _ _ _ (by show NB ≠ w.heap.size; omega)).trans htj.out)
                        have HS2 : Hid (SyOwn (wr.setCell ⟨w.heap.size, s, none⟩ (.int .i64 ((x : Int) + 1))) (w.heap.size + 1) (.slice (some ⟨gu, 0, none⟩) sy.length uu) sy) := hide (own_offG hsj.out fun y hy => heap_setCell_other _ _ _ _ (by have := own_ge hsj.out y hy; show y ≠ w.heap.size; omega))
                        clear hs hsm hrl htk hx hlj htj hsj
                        go_wp2_with fail
                        go_roundw
                        case rel => exact ⟨j + 1, by omega, by go_num, HL2, HT2, HS2⟩
                        case measure => simp [intOf]; omega
                      · obtain rfl : j = sy.length := by omega
                        have hlj' : Hid (RAt w wr (bump r sy) (.slice (some ⟨g, 0, none⟩) gk cap2) (a :: b :: rest)) := by
                          have h := hlj
                          rw [List.take_length] at h
                          exact h
                        clear hlj
                        obtain ⟨us2, hus2, hown2, hsy2⟩ := hlj'.out.trs
                        obtain ⟨g', c', eu, _, _, hgc2, _⟩ := own_slice hown2 (by simp)
                        injection eu with e1 e2 e3
                        have hgk : gk = rest.length + 2 := by simpa using e2
                        have hgc3 : gk ≤ cap2 := by rw [e2, e3]; exact hgc2
                        clear e1 e2 e3 hgc2 hus2 hown2 hsy2 us2
                        obtain ⟨ae, hae, hae2⟩ := slice_two g gk cap2 (by omega) hgc3
                        have HAE2 := hide hae2
                        have HGK := hide hgk
                        clear hae2 hgk hgc3
                        obtain ⟨⟨t0, t1, t2⟩, _⟩ := htj.out.cells
                        go_wp2_with fail
                        have hsN : w.heap.size + 1 ≤ wr.heap.size := hlj'.out.siz
                        have h300' : gk ≤ 300 := h300
                        go_region_law (refine step_pre (w := w) (r := bump r sy) (g := g) (n := gk) (cap := cap2) (N := wr.heap.size) (c := cap2 - 2) (m := gk - 2) (ta := a) (tb := b) (t := joinT a b) (rest := rest) (u := .slice U sy.length uu) (ad := ae) (by rfl) (.tmp 147) (.tmp 149) (by rfl) ?_ ?_ hsN ?_ (by kernel_rfl) (by omega) (by kernel_rfl) HAE2.out h300' ?_; (focus ((repeat (first | assumption | exact hlj'.out | refine RAt.allocT ?_ _ | refine RAt.drew ?_)); done)); (focus (first | exact heap_alloc_new _ _ | (simp; done))); (focus (rw [hsy]; (repeat (first | assumption | exact hsj.out | refine World.ownsRow.alloc ?_ _ | refine World.ownsRow.drew ?_)); done)); intro tv2 w9 hr9; have HR9 := hide hr9; clear hr9)
                        go_wp2_with fail
                        go_roundg (joinT a b :: rest).length
                        case measure => have := HGK.out; simp only [List.length_cons]; omega
                        case rel => exact ⟨_, _, _, rfl, HR9, HLPX, rfl, by have := HGK.out; simp only [List.length_cons]; omega⟩
          · have h1' : ¬ ((1 : Int) < (gk : Int)) := by omega
            obtain ⟨TA, tc, rfl⟩ := own_formI hown
            have hfin : LensOf c r := hlp.out.fin _ (.done _ _ (by omega))
            rw [htl]
            have h1'' : decide ((1 : Int) < (gk : Int)) = false := by simpa using h1'
            have HF := hide hfin
            clear hus hown hsy us hfin
            go_wp2_with fail
            go_ret
            exact ⟨r, HF.out, rfl, hln.out.out, hln.out.bel⟩
end Go.Proofs.Ytfjbdbdjhkmifaa
