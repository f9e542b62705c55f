/- delta.regions: the walk. -/
import Derived.Test.YtfjbdbdjhkmifaaDmR
set_option linter.unusedVariables false
set_option linter.unusedSimpArgs false
namespace Go.Proofs.Ytfjbdbdjhkmifaa
open Go.RowKit Go.Pw
theorem info_region : (Try.prog.info? 67).map (fun i => (i.zero, i.size, i.bytes)) = some (some (.agg #[.int .i64 0, .int .i64 0]), 2, 16) := by kernel_rfl
theorem rd_two (w : World) (va vb : Value) (t : TypeId) : Rd (w.alloc (.cells #[va, vb] t)) 1 (.slice (some ⟨w.heap.size, 0, none⟩) 2 2) 2 [va, vb] := by
  refine ⟨rfl, _, 2, rfl, Nat.le_refl _, by unfold maxLen; omega, fun _ => ⟨w.heap.size, 0, rfl, by simp, ?_⟩⟩
  intro j u hu
  match j, hu with
  | 0, hu => simp at hu; subst hu; simp [World.cell?_alloc_new]
  | 1, hu => simp at hu; subst hu; simp [World.cell?_alloc_new]
  | j + 2, hu => simp at hu

theorem own_rowH' {w : World} {base : Nat} {e : TypeId} {v : Value} {n : Nat} {L : List H4} (h : w.ownsRow base e 4 v n (rowCells L)) :
    (v = .slice none 0 0 ∧ n = 0) ∨ ∃ B c, v = .slice (some ⟨B, 0, none⟩) n c ∧ base ≤ B ∧ n ≤ c ∧ RowH w B 0 L := by
  have h' := h
  obtain ⟨hl, h0 | ⟨g, cap, cur, rfl, hg, hh, hc, _⟩⟩ := h'
  · exact .inl h0
  · rw [rowCells_length] at hl
    refine .inr ⟨g, cap, rfl, hg, hc, by obtain ⟨hlt, _⟩ := Array.getElem?_eq_some_iff.1 hh; exact hlt, fun i x hx => ?_⟩
    have hi := (List.getElem?_eq_some_iff.1 hx).1
    obtain ⟨a, b, c, d⟩ := rowCells_at L i x hx
    rw [Nat.zero_add]
    exact ⟨⟨(h.cellAt _ (by omega)).trans a, (h.cellAt _ (by omega)).trans b, (h.cellAt _ (by omega)).trans c, (h.cellAt _ (by omega)).trans d⟩, h.frozenAt _, h.frozenAt _, h.frozenAt _, h.frozenAt _⟩
/-- the last of a row of regions -/
theorem last_cells (A : List Rg) (q : Rg) : (pairCells (A ++ [q]))[A.length * 2]? = some (.int .i64 (q.1 : Int)) ∧ (pairCells (A ++ [q]))[A.length * 2 + 1]? = some (.int .i64 (q.2 : Int)) := by
  have h := pairCells_snoc A q.1 q.2
  have hl : (pairCells A).length = A.length * 2 := pairCells_length A
  rw [show (q.1, q.2) = q from rfl] at h
  rw [h, List.getElem?_append_right (by omega), List.getElem?_append_right (by omega), hl]
  simp
theorem last_set (A : List Rg) (q : Rg) (b : Nat) : (pairCells (A ++ [q])).set (A.length * 2 + 1) (.int .i64 (b : Int)) = pairCells (A ++ [(q.1, b)]) := by
  have hl : (pairCells A).length = A.length * 2 := pairCells_length A
  have h := pairCells_snoc A q.1 q.2
  rw [show (q.1, q.2) = q from rfl] at h
  rw [h, pairCells_snoc A q.1 b, List.set_append_right _ _ (by omega), hl, show A.length * 2 + 1 - A.length * 2 = 1 by omega]
  rfl
/-- a hunk that was put into a block of its own -/
theorem boxed4 {wr wq : World} {f t : Int} {A1 A2 : Option Addr} {n1 c1 n2 c2 nq : Nat} {T : TypeId} (h : (wr.alloc (.cells #[.int .i64 f, .int .i64 t, .slice A1 n1 c1, .slice A2 n2 c2] T)).drewN nq = wq) :
    Below wr.heap.size wr wq ∧ wq.heap.size = wr.heap.size + 1 ∧ wq.cell? ⟨wr.heap.size, 0, none⟩ = some (.int .i64 f) ∧ wq.cell? ⟨wr.heap.size, 1, none⟩ = some (.int .i64 t) ∧ wq.cell? ⟨wr.heap.size, 2, none⟩ = some (.slice A1 n1 c1) ∧ wq.cell? ⟨wr.heap.size, 3, none⟩ = some (.slice A2 n2 c2) := by
  subst h
  have k : ∀ (j : Nat) (u : Value), [Value.int .i64 f, .int .i64 t, .slice A1 n1 c1, .slice A2 n2 c2][j]? = some u → ((wr.alloc (.cells #[.int .i64 f, .int .i64 t, .slice A1 n1 c1, .slice A2 n2 c2] T)).drewN nq).cell? ⟨wr.heap.size, j, none⟩ = some u := fun j u hu => by
    have := four_new wr _ _ _ _ T j u hu
    rw [add_at _ _ rfl, Nat.zero_add] at this
    exact this
  exact ⟨below_drewN ((Below.refl _ _).alloc (Nat.le_refl _) _) _, by simp [World.drewN], k 0 _ rfl, k 1 _ rfl, k 2 _ rfl, k 3 _ rfl⟩
/-- the sorted hunks of two differences, in memory -/
structure Sorted4 (S : List H4) (x y : List Hk) : Prop where
  srt : Srt (ltH cfH) S
  ok : ∀ e ∈ S, e.ok ∧ e.ol ≤ 1000
  len : S.length = x.length + y.length
  cov : ∀ t, Cov (S.map rgH) t ↔ Cov ((x ++ y).map rgOf) t

set_option maxHeartbeats 4000000 in
set_option maxRecDepth 100000 in
theorem regions_any (va vb : Value) (x y : List Hk) (w : World) (hx : Hunks w va x) (hy : Hunks w vb y) (bx : ∀ h ∈ x, 0 ≤ h.frm ∧ h.frm + (h.old.length : Int) ≤ 1000) (by_ : ∀ h ∈ y, 0 ≤ h.frm ∧ h.frm + (h.old.length : Int) ≤ 1000) (lx : x.length ≤ 1001) (ly : y.length ≤ 1001) :
    Calls Try.prog 29 #[va, vb] w fun e w' => ∃ v, e = .returned v ∧ ∃ rs, w'.ownsRow w.heap.size 67 2 v rs.length (pairCells rs) ∧ Sep rs ∧ (∀ t, Cov rs t ↔ Cov ((x ++ y).map rgOf) t) ∧ rs.length ≤ 2002 ∧ Below w.heap.size w w' := by
  obtain ⟨vx, hvx, rx, okx, ex⟩ := hx
  obtain ⟨vy, hvy, ry, oky, ey⟩ := hy
  obtain ⟨L1, m1, m2, m3⟩ := hk_h4map x vx hvx ex
  obtain ⟨L2, k1, k2, k3⟩ := hk_h4map y vy hvy ey
  rw [m2] at rx
  rw [k2] at ry
  have RX := hide rx
  have RY := hide ry
  obtain ⟨AX, cx, rfl⟩ := rd_form rx
  obtain ⟨AY, cy, rfl⟩ := rd_form ry
  have hmap : (L1 ++ L2).map (fun e => (e.f, e.ol)) = (x ++ y).map (fun h => (h.frm, h.old.length)) := by rw [List.map_append, List.map_append, m3, k3]
  have hall : ∀ e ∈ L1 ++ L2, e.ok ∧ e.ol ≤ 1000 := by
    intro e he
    have : (e.f, e.ol) ∈ (x ++ y).map (fun h => (h.frm, h.old.length)) := by rw [← hmap]; exact List.mem_map_of_mem (f := fun e : H4 => (e.f, e.ol)) he
    obtain ⟨h, hh, heq⟩ := List.mem_map.1 this
    injection heq with q1 q2
    have hb : 0 ≤ h.frm ∧ h.frm + (h.old.length : Int) ≤ 1000 := by
      rcases List.mem_append.1 hh with hh | hh
      · exact bx h hh
      · exact by_ h hh
    unfold H4.ok
    omega
  have hrg : (L1 ++ L2).map rgH = (x ++ y).map rgOf := by
    have := congrArg (List.map (fun p : Int × Nat => ((p.1.toNat, p.1.toNat + p.2) : Rg))) hmap
    rw [List.map_map, List.map_map] at this
    exact this
  have HALL := hide hall
  have HRG := hide hrg
  have HL : Hid ((L1 ++ L2).length = x.length + y.length) := hide (by rw [List.length_append, m1, k1])
  clear hmap hall hrg m2 m3 k2 k3 ex ey hvx hvy rx ry okx oky bx by_
  have HST : Hid (Sorted4 (isrt (ltH cfH) (L1 ++ L2)) x y) := hide ⟨isrt_srt cfH_swo _, fun e he => HALL.out e (isrt_mem _ he), by rw [isrt_len]; exact HL.out, fun t => by
    rw [← HRG.out]
    exact cov_mem (fun r => by
      simp only [List.mem_map]
      exact ⟨fun ⟨e, he, q⟩ => ⟨e, isrt_mem _ he, q⟩, fun ⟨e, he, q⟩ => ⟨e, isrt_mem_of _ he, q⟩⟩) t⟩
  obtain ⟨S, hS⟩ : ∃ S, isrt (ltH cfH) (L1 ++ L2) = S := ⟨_, rfl⟩
  have HSS := hide hS
  rw [hS] at HST
  clear hS
  obtain ⟨wA, hwA⟩ : ∃ wA, wA = w.alloc (.cells #[.slice AX x.length cx, .slice AY y.length cy] 33) := ⟨_, rfl⟩
  have bA : Below w.heap.size w wA := by rw [hwA]; exact (Below.refl _ _).alloc (Nat.le_refl _) _
  have HC : Hid (Calls Try.prog 60 #[.slice (some ⟨w.heap.size, 0, none⟩) 2 2] wA fun e w' => ∃ v', e = .returned v' ∧ w'.ownsRow wA.heap.size 43 4 v' (x.length + y.length) (rowCells (L1 ++ L2)) ∧ Below wA.heap.size wA w') := hide (by
    refine (concatH_any _ _ _ x.length y.length (rowCells L1) (rowCells L2) wA (by rw [hwA]; exact rd_two w _ _ _) (RX.out.below bA) (RY.out.below bA) (rowCells_one _) (rowCells_one _) (by omega) (by omega)).mono ?_
    rintro e w' ⟨v', rfl, ho, hb⟩
    exact ⟨v', rfl, by rw [rowCells_append]; exact ho, hb⟩)
  go_enter Try.func29, Try.ntmps29
  rw [hwA] at HC
  go_wp2_with fail
  refine HC.out.mono ?_
  rintro e w1 ⟨v1, rfl, hown1, hb1⟩
  rw [← hwA] at hown1 hb1
  have hbw1 : Below w.heap.size w w1 := bA.trans (hb1.mono bA.size)
  rcases own_rowH' hown1 with ⟨rfl, hn0⟩ | ⟨B, c, rfl, hB, hc, hrow⟩
  · have hx0 : x = [] := List.eq_nil_of_length_eq_zero (by omega)
    have hy0 : y = [] := List.eq_nil_of_length_eq_zero (by omega)
    subst hx0 hy0
    clear HC HSS HST HL HALL HRG RX RY hown1
    go_wp2_with fail
    refine (sortStableHNil_any _ _).mono ?_
    rintro e w' ⟨rfl, rfl⟩
    go_wp2_with fail
    refine wp_loop_rounds 1 ?_
    rw [rounds_succ]
    go_wp2_with fail
    go_ret
    exact ⟨_, rfl, [], World.ownsRow_nil _ _ _ _, ⟨List.Pairwise.nil, by simp⟩, fun t => Iff.rfl, by simp, hbw1⟩
  · have hlB := hrow.1
    have HSORT := hide (sortStableH_any cfH (.bool false) w1.heap.size B 0 c (x.length + y.length) (L1 ++ L2) w1 hlB (Nat.le_refl _) hrow HL.out hc (by omega) (fun s hs => (HALL.out s hs).1) cfH_swo (fun a b w2 ha hb _ => regions1_any a b w2 ha hb))
    rw [HSS.out] at HSORT
    have hwB : w.heap.size ≤ B := Nat.le_trans bA.size hB
    clear hown1 hrow HC RX RY HRG HSS hwA
    obtain ⟨n, hn⟩ : ∃ n, x.length + y.length = n := ⟨_, rfl⟩
    rw [hn] at HSORT hc ⊢
    have HLS : Hid (S.length = n) := hide (by rw [HST.out.len, hn])
    have hnn : n ≤ 2002 := by omega
    clear hn HL HALL
    go_wp2_with fail
    refine HSORT.out.mono ?_
    rintro e w2 ⟨rfl, hrow2, hbut⟩
    have hbw2 : Below w.heap.size w w2 := hbw1.trans (hbut.below hbw1.size hwB)
    have HR2 := hide hrow2
    have hlB2 := hrow2.1
    clear HSORT hbut hrow2 hbw1 hb1 bA
    obtain ⟨N2, hN2⟩ : ∃ N2, w2.heap.size = N2 := ⟨_, rfl⟩
    have HB2 := hide hbw2
    clear hbw2
    rw [hN2] at hlB2
    go_wp2_with fail
    go_loopw [6, 18] (fun ov i wr => ∃ (k : Nat) (out : List Rg), k ≤ n ∧ i = .int .i64 (k : Int) ∧ out.length ≤ k ∧ wr.ownsRow N2 67 2 ov out.length (pairCells out) ∧ RowH wr B 0 S ∧ Hid (SwAt S k out) ∧ Below w.heap.size w wr ∧ N2 ≤ wr.heap.size) (fun _ i _ => n - (intOf i).toNat)
    case atStart => exact ⟨0, [], Nat.zero_le _, rfl, Nat.le_refl _, World.ownsRow_nil _ _ _ _, HR2.out, hide (SwAt.start S), HB2.out, by omega⟩
    case round =>
      clear HR2 HB2 hN2
      obtain ⟨k, out, hk, rfl, hok, hown, hrow, hsw, hbw, hz⟩ := hrel
      by_cases hlt : k < n
      · have hd : (k : Int) < (n : Int) := by omega
        obtain ⟨e, hse⟩ : ∃ e, S[k]? = some e := ⟨_, List.getElem?_eq_getElem (by have := HLS.out; omega)⟩
        obtain ⟨heok, heol⟩ := HST.out.ok e (List.mem_of_getElem? hse)
        obtain ⟨⟨a0, a1, a2, a3⟩, _⟩ := hrow.2 k e hse
        simp only [Nat.zero_add] at a0 a1 a2 a3
        obtain ⟨xf, hxf⟩ : ∃ xf : Nat, e.f = (xf : Int) := ⟨e.f.toNat, by unfold H4.ok at heok; omega⟩
        have hxb : xf ≤ 1000000 := by unfold H4.ok at heok; omega
        have HEND : Hid (∀ W : World, Calls Try.prog 63 #[.agg #[.int .i64 (xf : Int), .int .i64 e.t, .slice e.oa e.ol e.oc, .slice e.na e.nl e.nc]] W fun e' w' => e' = .returned (.int .i64 ((xf : Int) + (e.ol : Int))) ∧ Below W.heap.size W w') := hide (fun W => by
          have := end_any e W heok (by omega)
          rw [H4.val, hxf] at this
          exact this)
        have hrg : rgH e = (xf, xf + e.ol) := by unfold rgH; rw [hxf]; rfl
        have HTO : Hid (∀ (A : List Rg) (q : Rg), out = A ++ [q] → xf ≤ q.2 → SwAt S (k + 1) (A ++ [(q.1, max q.2 (xf + e.ol))])) := hide (fun A q ho ht => by
          have h1 := hsw.out
          rw [ho] at h1
          have h2 : e.f.toNat = xf := by omega
          have := SwAt.touch (B := A) h1 HST.out.srt hse (by rw [h2]; exact ht)
          rwa [h2] at this)
        have HFR : Hid ((∀ A q, out = A ++ [q] → q.2 < xf) → SwAt S (k + 1) (out ++ [(xf, xf + e.ol)])) := hide (fun ht => by
          have h2 : e.f.toNat = xf := by omega
          have := SwAt.fresh hsw.out HST.out.srt hse (fun A q ho => by rw [h2]; exact ht A q ho)
          rwa [hrg] at this)
        have lB : B < wr.heap.size := by omega
        have HOW := hide hown
        have HRW := hide hrow
        have HBW := hide hbw
        rw [hxf] at a0
        clear hrg hse heok hsw hrow hbw hxf
        have hcase : (∃ A q, out = A ++ [q] ∧ xf ≤ q.2) ∨ (∀ A q, out = A ++ [q] → q.2 < xf) := by
          rcases List.eq_nil_or_concat out with ho | ⟨A, q, ho⟩
          · exact .inr (fun A q h => by rw [ho] at h; simp at h)
          · rw [List.concat_eq_append] at ho
            by_cases ht : xf ≤ q.2
            · exact .inl ⟨A, q, ho, ht⟩
            · refine .inr (fun A' q' h => ?_)
              rw [ho] at h
              obtain ⟨_, h2⟩ := List.append_inj' h rfl
              simp at h2
              subst h2
              omega
        have hlast : ∀ m, out.length = m + 1 → ∃ A q, out = A ++ [q] ∧ A.length = m := fun m hm => by
          rcases List.eq_nil_or_concat out with ho | ⟨A, q, ho⟩
          · rw [ho] at hm; simp at hm
          · rw [List.concat_eq_append] at ho
            refine ⟨A, q, ho, ?_⟩
            rw [ho] at hm; simp at hm; exact hm
        rcases hcase with ⟨A, q, ho, ht⟩ | hfresh
        · subst ho
          have hml : (A ++ [q]).length = A.length + 1 := by simp
          rw [hml] at hown hok
          obtain ⟨g, c2, rfl⟩ : ∃ g c2, u6 = .slice (some ⟨g, 0, none⟩) (A.length + 1) c2 := by
            obtain ⟨_, h0 | ⟨g, c2, _, rfl, _⟩⟩ := hown
            · omega
            · exact ⟨g, c2, rfl⟩
          have lc := last_cells A q
          have e1 := (hown.cellAt (A.length * 2 + 1) (by omega)).trans lc.2
          have f1 := hown.frozenAt (A.length * 2 + 1)
          have lg := own_lt hown g rfl
          have lgN := own_ge hown g rfl
          have HNX := hide (HTO.out A q rfl ht)
          have HSET := hide (last_set A q (max q.2 (xf + e.ol)))
          obtain ⟨m, hm⟩ : ∃ m, A.length = m := ⟨_, rfl⟩
          rw [hm] at hown hok e1 f1 HSET ⊢
          have HM := hide hm
          have HOWN := hide hown
          clear lc hm hml HTO HFR hlast HOW hown
          have hneB : g ≠ B := by omega
          have hm0 : (0 : Int) ≤ (m : Int) := by omega
          obtain ⟨q1, q2⟩ := q
          dsimp only at e1 ht HNX HSET
          have ht' : (xf : Int) ≤ (q2 : Int) := by omega
          obtain ⟨mx, hmx⟩ : ∃ mx, max q2 (xf + e.ol) = mx := ⟨_, rfl⟩
          have HMX : Hid (max (q2 : Int) ((xf : Int) + (e.ol : Int)) = (mx : Int)) := hide (by omega)
          rw [hmx] at HNX HSET
          clear hmx
          go_wp2_with fail
          go_quiet (fail)
          go_wp2_with fail
          obtain ⟨wq, hwq⟩ : ∃ wq, (wr.alloc (.cells #[.int .i64 (xf : Int), .int .i64 e.t, .slice e.oa e.ol e.oc, .slice e.na e.nl e.nc] 43)).drewN nq = wq := ⟨_, rfl⟩
          rw [hwq]
          obtain ⟨hbq, hsq, b0, b1, b2, b3⟩ := boxed4 hwq
          have e2 := (hbq.cell (p := ⟨g, m * 2 + 1, none⟩) lg).trans e1
          have f2 := (hbq.frozen (p := ⟨g, m * 2 + 1, none⟩) lg).trans f1
          have lgq : g < wq.heap.size := by omega
          clear hwq e1 f1 a0 a1 a2 a3
          go_region_with (go_at_call 63; (with_reducible refine (HEND.out _).mono ?_); rintro e' w1 ⟨rfl, hb⟩; have hb1 : Below wq.heap.size wq w1 := ⟨hb.os, hb.tape, hb.output, hb.size, hb.block⟩; have e3 := (hb1.cell (p := ⟨g, m * 2 + 1, none⟩) lgq).trans e2; have f3 := (hb1.frozen (p := ⟨g, m * 2 + 1, none⟩) lgq).trans f2)
          all_goals
            have hbr : Below wr.heap.size wr w1 := hbq.trans (hb1.mono (by omega))
            clear hb e2 f2 b0 b1 b2 b3
            go_wp2_with fail
            go_roundw
            case rel =>
              have hsz1 := hbr.size
              have hsz0 := HBW.out.size
              have hbs : Below N2 wr (w1.setCell ⟨g, m * 2 + 1, none⟩ (.int .i64 (max (q2 : Int) ((xf : Int) + (e.ol : Int))))) := (hbr.mono hz).setCell lgN _
              refine ⟨k + 1, A ++ [(q1, mx)], by omega, by go_num, by rw [List.length_append, HM.out]; simp; omega, ?_, HRW.out.below hbs (by omega), HNX, HBW.out.trans (hbs.mono (by omega)), by simpa [World.setCell] using Nat.le_trans hz hsz1⟩
              rw [List.length_append, HM.out, HMX.out, ← HSET.out]
              exact ((own_below HOWN.out hbr).stored (m * 2 + 1) _).1
            case measure => simp [intOf]; omega
        · have HNX := hide (HFR.out hfresh)
          obtain ⟨L, hL⟩ : ∃ L, out.length = L := ⟨_, rfl⟩
          rw [hL] at hown hok
          have HL := hide hL
          obtain ⟨ip, hip, hpz, hps, hpb⟩ := info_parts info_region
          have huge := own_ge hown
          have hult := own_lt hown
          clear HTO HFR
          by_cases h0 : L = 0
          case' pos =>
            subst h0
            obtain ⟨UA, uc, rfl⟩ := own_form hown
          case' neg =>
            obtain ⟨m, rfl⟩ : ∃ m, L = m + 1 := ⟨L - 1, by omega⟩
            obtain ⟨A, q, ho, hAm⟩ := hlast m hL
            have ht := hfresh A q ho
            obtain ⟨g, c2, rfl⟩ : ∃ g c2, u6 = .slice (some ⟨g, 0, none⟩) (m + 1) c2 := by
              obtain ⟨_, h0 | ⟨g, c2, _, rfl, _⟩⟩ := hown
              · omega
              · exact ⟨g, c2, rfl⟩
            have lc := last_cells A q
            rw [← ho, hAm] at lc
            have e1 := (hown.cellAt (m * 2 + 1) (by omega)).trans lc.2
            have lg := hult g rfl
            obtain ⟨q1, q2⟩ := q
            dsimp only at e1 ht
            have ht' : ¬ ((xf : Int) ≤ (q2 : Int)) := by omega
            have hm0 : (0 : Int) ≤ (m : Int) := by omega
            clear lc ho hAm
          all_goals
            have HOWN := hide hown
            clear hL hlast hfresh HOW hown
            go_wp2_with fail
            go_quiet (fail)
            go_wp2_with fail
            obtain ⟨wq, hwq⟩ : ∃ wq, (wr.alloc (.cells #[.int .i64 (xf : Int), .int .i64 e.t, .slice e.oa e.ol e.oc, .slice e.na e.nl e.nc] 43)).drewN nq = wq := ⟨_, rfl⟩
            rw [hwq]
            obtain ⟨hbq, hsq, b0, b1, b2, b3⟩ := boxed4 hwq
            clear hwq a0 a1 a2 a3
            try clear e1
            go_region_held3 (fun w' => w'.cell? ⟨wr.heap.size, 0, none⟩ = some (.int .i64 (xf : Int)) ∧ w'.cell? ⟨wr.heap.size, 1, none⟩ = some (.int .i64 e.t) ∧ w'.cell? ⟨wr.heap.size, 2, none⟩ = some (.slice e.oa e.ol e.oc) ∧ w'.cell? ⟨wr.heap.size, 3, none⟩ = some (.slice e.na e.nl e.nc)) (go_keep) (first | (go_at_call 63; (with_reducible refine (HEND.out _).mono ?_); rintro e' w1 ⟨rfl, hb⟩; have hb1 : Below wq.heap.size wq w1 := ⟨hb.os, hb.tape, hb.output, hb.size, hb.block⟩; have hlq : wr.heap.size < wq.heap.size := (by omega); have z0 := (hb1.cell (p := ⟨wr.heap.size, 0, none⟩) hlq).trans b0; have z1 := (hb1.cell (p := ⟨wr.heap.size, 1, none⟩) hlq).trans b1; have z2 := (hb1.cell (p := ⟨wr.heap.size, 2, none⟩) hlq).trans b2; have z3 := (hb1.cell (p := ⟨wr.heap.size, 3, none⟩) hlq).trans b3; have hlw1 : wr.heap.size < w1.heap.size := Nat.lt_of_lt_of_le hlq hb1.size) | (refine step_append_lies _ (by rfl) _ _ _ (by rfl) N2 67 ip _ 2 16 Try.underlying64 hip hpz hps hpb rfl (by omega) _ _ (pairCells out) (by rfl) ((own_below (own_below HOWN.out hbq) hb1).alloc _) ⟨w1.heap.size, 0, none⟩ 1 1 [.int .i64 (xf : Int), .int .i64 ((xf : Int) + (e.ol : Int))] (by rfl) (by rfl) (two_new _ _ _ _) (by simp [Value.oneCell']) (by omega) (by unfold maxLen; omega) (by omega) (by simp; omega) (w1.heap.size + 1) (by simp) ?_; intro gg cap w3 hown3 hgrow hat hlt3; have far : ∀ j, w3.cell? ⟨wr.heap.size, j, none⟩ = w1.cell? ⟨wr.heap.size, j, none⟩ := fun j => (grown_cell (p := ⟨wr.heap.size, j, none⟩) hgrow (by simp; omega) (fun e => Nat.lt_irrefl _ (hult _ e))).trans (World.cell?_alloc_lt _ _ _ hlw1); have y0 := (far 0).trans z0; have y1 := (far 1).trans z1; have y2 := (far 2).trans z2; have y3 := (far 3).trans z3))
            have hbr1 : Below wr.heap.size wr w1 := hbq.trans (hb1.mono (by omega))
            have hba : Below N2 wr (w1.alloc (.cells #[.int .i64 (xf : Int), .int .i64 ((xf : Int) + (e.ol : Int))] 67)) := (hbr1.mono hz).alloc (by have := hbr1.size; omega) _
            have hb3 : Below N2 wr w3 := hba.grown hgrow (by have := hbr1.size; simp; omega) huge
            go_wp2_with fail
            go_roundw
            case rel =>
              refine ⟨k + 1, out ++ [(xf, xf + e.ol)], by omega, by go_num, by rw [List.length_append, HL.out]; simp only [List.length_cons, List.length_nil]; omega, ?_, HRW.out.below hb3 (by omega), HNX, HBW.out.trans (hb3.mono (by have := HBW.out.size; omega)), Nat.le_trans hz hb3.size⟩
              have hp := pairCells_snoc out xf (xf + e.ol)
              rw [List.length_append, HL.out, hp]
              first | exact hown3 | (simpa using hown3)
            case measure => simp [intOf]; omega
      · obtain rfl : k = n := by omega
        have hd : ¬ ((k : Int) < (k : Int)) := by omega
        go_wp2_with fail
        go_ret
        obtain ⟨f, h1, _⟩ := hsw.out
        rw [List.take_of_length_le (by have := HLS.out; omega)] at h1
        exact ⟨_, rfl, out, own_mono hown (by have := hbw.size; omega), h1.sep, fun t => by rw [← List.map_append]; exact (h1.cov t).trans (HST.out.cov t), by omega, hbw⟩
end Go.Proofs.Ytfjbdbdjhkmifaa
