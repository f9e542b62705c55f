/- The reference's regions: the walk. -/
import Derived.Test.YtfjbdbdjhkmifaaDmZP
import Derived.Test.YtfjbdbdjhkmifaaDmU
import Derived.BigRegion
import Derived.Deep.RegionLaw
set_option linter.unusedVariables false
set_option linter.unusedSimpArgs false
namespace Go.Proofs.Ytfjbdbdjhkmifaa
open Go.RowKit Go.Pw
theorem info_regionR : (Try.prog.info? 87).map (fun i => (i.zero, i.size, i.bytes)) = some (some (.agg #[.int .i64 0, .int .i64 0]), 2, 16) := by kernel_rfl
def slen : Value → Nat
  | .slice _ n _ => n
  | _ => 0
def boolN : Value → Nat
  | .bool true => 1
  | _ => 0
/-- the regions of hunks, list after list -/
def accR (hss : List (List Hk)) (k : Nat) : List Rg := ((hss.take k).flatten).map rgOf
theorem accR_next {hss : List (List Hk)} {k : Nat} {hs : List Hk} (h : hss[k]? = some hs) : accR hss (k + 1) = accR hss k ++ hs.map rgOf := by
  obtain ⟨hk, rfl⟩ := List.getElem?_eq_some_iff.1 h
  unfold accR
  rw [List.take_succ_eq_append_getElem hk, List.flatten_append, List.map_append]
  simp
theorem two_newAt (w : World) (x y : Value) (t : TypeId) (b : Nat) (hb : w.heap.size = b) : ∀ (j : Nat) (u : Value), [x, y][j]? = some u → (w.alloc (.cells #[x, y] t)).cell? (Addr.add ⟨b, 0, none⟩ j) = some u := by
  subst hb; exact two_new w x y t
/-- a row of regions, written at one place -/
theorem own_put2 {w : World} {base g n cap : Nat} {e : TypeId} {L : List Rg} (h : w.ownsRow base e 2 (.slice (some ⟨g, 0, none⟩) n cap) n (pairCells L)) (i : Nat) (r : Rg) :
    ((w.setCell ⟨g, i * 2, none⟩ (.int .i64 (r.1 : Int))).setCell ⟨g, i * 2 + 1, none⟩ (.int .i64 (r.2 : Int))).ownsRow base e 2 (.slice (some ⟨g, 0, none⟩) n cap) n (pairCells (L.set i r)) := by
  rw [← pairCells_set]
  exact ((h.stored _ _).1.stored _ _).1

set_option maxHeartbeats 8000000 in
set_option maxRecDepth 100000 in
theorem regionsR_any (va vb : Value) (x y : List Hk) (w : World) (hx : Hunks w va x) (hy : Hunks w vb y) (bx : ∀ h ∈ x, 0 ≤ h.frm ∧ h.frm + (h.old.length : Int) ≤ 1000) (by_ : ∀ h ∈ y, 0 ≤ h.frm ∧ h.frm + (h.old.length : Int) ≤ 1000) (lx : x.length ≤ 1001) (ly : y.length ≤ 1001) :
    Calls Try.prog 43 #[va, vb] w fun e w' => ∃ v, e = .returned v ∧ ∃ rs, w'.ownsRow w.heap.size 87 2 v rs.length (pairCells rs) ∧ Sep rs ∧ (∀ t, Cov rs t ↔ Cov ((x ++ y).map rgOf) t) ∧ rs.length ≤ 2002 ∧ Below w.heap.size w w' := by
  obtain ⟨wB, hwB⟩ : ∃ wB, wB = w.alloc (.cells #[va, vb] 33) := ⟨_, rfl⟩
  have bB : Below w.heap.size w wB := by rw [hwB]; exact (Below.refl _ _).alloc (Nat.le_refl _) _
  have sB : wB.heap.size = w.heap.size + 1 := by rw [hwB]; simp
  obtain ⟨N1, hN1⟩ : ∃ N1, w.heap.size + 1 = N1 := ⟨_, rfl⟩
  have HEL : Hid (∀ k, k < 2 → ∃ A n c hs, wB.cell? ⟨w.heap.size, k, none⟩ = some (.slice A n c) ∧ [x, y][k]? = some hs ∧ hs.length = n ∧ Hunks w (.slice A n c) hs ∧ (∀ h ∈ hs, 0 ≤ h.frm ∧ h.frm + (h.old.length : Int) ≤ 1000) ∧ hs.length ≤ 1001 ∧ (accR [x, y] k).length + hs.length ≤ 2002) := hide (fun k hk => by
    have hx' := hx
    have hy' := hy
    obtain ⟨_, _, ⟨_, A1, c1, e1, _⟩, _⟩ := hx'
    obtain ⟨_, _, ⟨_, A2, c2, e2, _⟩, _⟩ := hy'
    match k, hk with
    | 0, _ => exact ⟨A1, _, c1, x, by rw [hwB, e1]; simp [World.cell?_alloc_new], rfl, rfl, by rw [← e1]; exact hx, bx, lx, by simp [accR]; omega⟩
    | 1, _ => exact ⟨A2, _, c2, y, by rw [hwB, e2]; simp [World.cell?_alloc_new], rfl, rfl, by rw [← e2]; exact hy, by_, ly, by simp [accR]; omega⟩)
  have HALL : Hid (∀ h ∈ x ++ y, 0 ≤ h.frm ∧ h.frm + (h.old.length : Int) ≤ 1000) := hide (fun h hh => by
    rcases List.mem_append.1 hh with hh | hh
    · exact bx h hh
    · exact by_ h hh)
  have hlen : (x ++ y).length ≤ 2002 := by rw [List.length_append]; omega
  have HLEN := hide hlen
  obtain ⟨ip, hip, hpz, hps, hpb⟩ := info_parts info_regionR
  obtain ⟨_, _, ⟨_, A1, c1, rfl, _⟩, _⟩ := hx
  obtain ⟨_, _, ⟨_, A2, c2, rfl, _⟩, _⟩ := hy
  clear bx by_ hlen
  go_enter Try.func43, Try.ntmps43
  go_wp2_with fail
  rw [← hwB]
  clear hwB
  go_loopw [5, 19] (fun ov i wr => ∃ (k : Nat) (D : List Rg), k ≤ 2 ∧ i = .int .i64 (k : Int) ∧ Hid (D = accR [x, y] k) ∧ wr.ownsRow N1 87 2 ov D.length (pairCells D) ∧ Below N1 wB wr) (fun _ i _ => 2 - (intOf i).toNat)
  case atStart => exact ⟨0, [], by omega, rfl, rfl, World.ownsRow_nil _ _ _ _, Below.refl _ _⟩
  case round =>
    obtain ⟨k, D, hk, rfl, hD, hown, hb⟩ := hrel
    have hz := hb.size
    by_cases hlt : k < 2
    · have hd : (k : Int) < 2 := by omega
      obtain ⟨A, n, c, hs, hc, hhs, hn, hH, hbd, hl1, hl2⟩ := HEL.out k hlt
      have c0 : wr.cell? ⟨w.heap.size, k, none⟩ = some (.slice A n c) := (hb.cell (p := ⟨w.heap.size, k, none⟩) (by show w.heap.size < N1; omega)).trans hc
      have HNX := hide (accR_next hhs)
      have HBD := hide hbd
      rw [← hD.out] at hl2 HNX
      have HH := hide hH
      obtain ⟨vs, hvs, ⟨_, A', ca, hv', hca, hma, hxa⟩, hok, hel⟩ := hH
      injection hv' with e1 e2 e3
      subst e1 e2 e3
      unfold maxLen at hma
      have HVS := hide hvs
      have HXA := hide hxa
      have HE := hide hel
      have hlw : w.heap.size < wr.heap.size := by omega
      have HOW := hide hown
      clear hc hhs hn hbd hvs hxa hok hel
      go_wp2_with fail
      go_loopw [5, 25] (fun ov i wr => ∃ (j : Nat) (F : List Rg), j ≤ hs.length ∧ i = .int .i64 (j : Int) ∧ Hid (F = D ++ (hs.take j).map rgOf) ∧ wr.ownsRow N1 87 2 ov F.length (pairCells F) ∧ Below N1 wB wr) (fun _ i _ => hs.length - (intOf i).toNat)
      case atStart => exact ⟨0, D, Nat.zero_le _, rfl, hide (by simp), HOW.out, hb⟩
      case round =>
        clear hown HOW hb
        obtain ⟨j, F, hj, rfl, hF, hown, hb⟩ := hrel
        have hzi := hb.size
        have hFl : F.length ≤ 2002 := by
          have := congrArg List.length hF.out
          simp only [List.length_append, List.length_map, List.length_take] at this
          omega
        by_cases hjl : j < hs.length
        · have hdj : (j : Int) < (hs.length : Int) := by omega
          obtain ⟨ba, oa, rfl, hba, hja⟩ := HXA.out (by omega)
          have kv : j < vs.length := by rw [HVS.out]; exact hjl
          have cs := hkCells_at hs vs j hs[j] vs[j] (List.getElem?_eq_getElem hjl) (List.getElem?_eq_getElem kv) HVS.out
          rw [Nat.mul_comm] at cs
          have hbW : Below w.heap.size w wr := bB.trans (hb.mono (by omega))
          have a0 := (hbW.cell hba).trans (hja _ _ cs.1)
          have a1 := (hbW.cell hba).trans (hja _ _ cs.2.1)
          have a2 := (hbW.cell hba).trans (hja _ _ cs.2.2.1)
          have a3 := (hbW.cell hba).trans (hja _ _ cs.2.2.2)
          clear cs hja
          simp only [← Nat.add_assoc] at a0 a1 a2 a3
          have s1 := HE.out j hs[j] vs[j].1 vs[j].2 (List.getElem?_eq_getElem hjl) (List.getElem?_eq_getElem kv)
          have hbj := HBD.out _ (List.getElem_mem hjl)
          obtain ⟨B1, n1, d1, e1⟩ := strs_form s1.1
          obtain ⟨B2, n2, d2, e2⟩ := strs_form s1.2
          rw [e1] at a2
          rw [e2] at a3
          rw [e1, e2] at s1
          clear e1 e2 kv
          obtain ⟨t1, t2⟩ := s1
          obtain rfl := t1.len
          obtain rfl := t2.len
          have HFN : Hid (F ++ [rgOf hs[j]] = D ++ (hs.take (j + 1)).map rgOf) := hide (by
            rw [hF.out, List.take_succ_eq_append_getElem hjl, List.map_append, List.append_assoc]; rfl)
          obtain ⟨h, hh⟩ : ∃ h, hs[j] = h := ⟨_, rfl⟩
          rw [hh] at a0 a1 a2 a3 t1 t2 hbj HFN
          clear hh
          obtain ⟨f, hf⟩ : ∃ f : Nat, h.frm = (f : Int) := ⟨h.frm.toNat, by omega⟩
          have hrg : rgOf h = (f, f + h.old.length) := by unfold rgOf; rw [hf]; rfl
          rw [hrg] at HFN
          rw [hf] at a0 hbj
          have lba : ba < wr.heap.size := by have := hbW.size; omega
          have hwe : IntKind.i64.wrap ((f : Int) + (h.old.length : Int)) = (f : Int) + (h.old.length : Int) := IntWalk.i64_in _ (by omega)
          have HOWN := hide hown
          have huge := own_ge hown
          have HB := hide hb
          obtain ⟨OA, oc, rfl⟩ := own_form hown
          clear t1 t2 hf hrg hown hb hF
          obtain ⟨wq, hwq⟩ : ∃ wq, wr.alloc (.cells #[.int .i64 (f : Int), .int .i64 h.to_, .slice B1 h.old.length d1, .slice B2 h.new.length d2] 43) = wq := ⟨_, rfl⟩
          obtain ⟨hbq, hsq, b0, b1, b2, b3⟩ := boxed4 (nq := 0) hwq
          have hOQ := own_below HOWN.out hbq
          have hzq : N1 ≤ wq.heap.size := by omega
          go_wp2_with (at_builtin; refine wpList_append_own_at _ rfl _ _ 84 rfl N1 87 ip _ 2 16 Try.underlying84 hip hpz hps hpb rfl (by decide) _ F.length (pairCells F) rfl (hOQ.alloc _) ⟨wr.heap.size + 1, 0, none⟩ 1 1 [.int .i64 (f : Int), .int .i64 ((f : Int) + (h.old.length : Int))] rfl rfl (two_newAt _ _ _ _ _ hsq) (by simp [Value.oneCell']) (by unfold maxLen; omega) (by omega) (by simp; omega) ?_; intro vv w5 hown5 hgrow5 hnil5 hat5)
          have hb5 : Below N1 wB w5 := (HB.out.trans (hbq.mono (by omega))).trans (((Below.refl N1 wq).alloc hzq _).grown hgrow5 (by simp; omega) huge)
          clear hnil5 hat5
          go_roundw
          case rel =>
            refine ⟨j + 1, F ++ [(f, f + h.old.length)], by omega, by go_num, HFN, ?_, hb5⟩
            have hp := pairCells_snoc F f (f + h.old.length)
            rw [List.length_append, hp]
            exact hown5
          case measure => simp [intOf]; omega
        · obtain rfl : j = hs.length := by omega
          have hdj : ¬ ((hs.length : Int) < (hs.length : Int)) := by omega
          rw [List.take_length] at hF
          have HFN : Hid (F = accR [x, y] (k + 1)) := hide (by rw [hF.out, HNX.out])
          go_wp2_with fail
          go_roundw
          case rel => exact ⟨k + 1, F, by omega, by go_num, HFN, hown, hb⟩
          case measure => simp [intOf]; omega
    · obtain rfl : k = 2 := by omega
      have hd : ¬ ((2 : Int) < 2) := by omega
      have HL0 : Hid (D = (x ++ y).map rgOf) := hide (by rw [hD.out]; simp [accR])
      have hst : RgSt ((x ++ y).map rgOf) D := by
        rw [HL0.out]
        refine ⟨fun r hr => ?_, fun _ => Iff.rfl, Nat.le_refl _, fun r hr => ?_⟩
        · obtain ⟨h, hh, rfl⟩ := List.mem_map.1 hr
          show h.frm.toNat ≤ h.frm.toNat + h.old.length; omega
        · obtain ⟨h, hh, rfl⟩ := List.mem_map.1 hr
          have := HALL.out h hh
          show h.frm.toNat + h.old.length ≤ 1000; omega
      have hDl : D.length ≤ 2002 := by rw [HL0.out, List.length_map]; exact HLEN.out
      have HST := hide hst
      have HOW := hide hown
      have HB := hide hb
      obtain ⟨L0, hL0⟩ : ∃ L0, (x ++ y).map rgOf = L0 := ⟨_, rfl⟩
      rw [hL0] at HST
      have HLL := hide hL0
      clear hst hown hb hD HL0 hL0 HEL HALL HLEN
      go_wp2_with fail
      go_loopw [5, 10] (fun lv av wr => ∃ (L : List Rg) (b : Bool), av = .bool b ∧ L.length ≤ 2002 ∧ wr.ownsRow N1 87 2 lv L.length (pairCells L) ∧ Hid (RgSt L0 L) ∧ Hid (b = false → L.Pairwise fun r q => ¬ Tou r q) ∧ Below N1 wB wr) (fun lv av _ => slen lv + boolN av)
      case atStart => exact ⟨D, true, rfl, hDl, HOW.out, HST, hide (fun h => by cases h), HB.out⟩
      case round =>
        clear HOW HST HB hz
        obtain ⟨L, b, rfl, hLl, hown, hst, hnt, hb⟩ := hrel
        have hz := hb.size
        cases b with
        | false =>
          have HS := hide (hst.out.sorted (hnt.out rfl))
          obtain ⟨LA, lc, rfl⟩ := own_form hown
          have HOW := hide hown
          have HB := hide hb
          obtain ⟨n, hn⟩ : ∃ n, L.length = n := ⟨_, rfl⟩
          have HN := hide hn
          rw [hn] at HOW hLl ⊢
          clear hnt hst hown hb hn
          go_wp2_with fail
          go_loopw [122] (fun iv wr => ∃ i : Nat, i ≤ n ∧ iv = .int .i64 (i : Int) ∧ wr.ownsRow N1 87 2 (.slice LA n lc) n (pairCells (insL ltR 0 i L)) ∧ Below N1 wB wr) (fun iv _ => n - (intOf iv).toNat)
          case atStart => exact ⟨0, Nat.zero_le _, rfl, HOW.out, HB.out⟩
          case round =>
            clear HOW HB hz
            obtain ⟨i, hi, rfl, hown, hb⟩ := hrel
            have hz := hb.size
            by_cases hil : i < n
            · have hdi : (i : Int) < (n : Int) := by omega
              have HOW := hide hown
              have HB := hide hb
              have hsk : Hid (insL ltR 0 (i + 1) L = sinkL ltR i i (insL ltR 0 i L)) := hide (by rw [insL, Nat.zero_add])
              obtain ⟨M0, hM0⟩ : ∃ M0, insL ltR 0 i L = M0 := ⟨_, rfl⟩
              have hM0l : Hid (M0.length = n) := hide (by rw [← hM0, insL_length]; exact HN.out)
              rw [hM0] at HOW hsk
              clear hown hb hM0
              go_wp2_with fail
              go_loopw [14] (fun kv wr => ∃ (k : Nat) (M : List Rg), kv = .int .i64 (k : Int) ∧ k ≤ i ∧ Hid (M.length = n) ∧ Hid (insL ltR 0 (i + 1) L = sinkL ltR k k M) ∧ wr.ownsRow N1 87 2 (.slice LA n lc) n (pairCells M) ∧ Below N1 wB wr) (fun kv _ => (intOf kv).toNat)
              case atStart => exact ⟨i, M0, rfl, Nat.le_refl _, hM0l, hsk, HOW.out, HB.out⟩
              case round =>
                clear HOW HB hz hM0l hsk
                obtain ⟨k, M, rfl, hki, hMl, hsk, hown, hb⟩ := hrel
                have hz := hb.size
                by_cases hk0 : 0 < k
                · have hdk0 : (0 : Int) < (k : Int) := by omega
                  have hdk0' : decide ((0 : Int) < (k : Int)) = true := by simpa using hdk0
                  have i1 : k < M.length := by rw [hMl.out]; omega
                  have i2 : k - 1 < M.length := by omega
                  have hstep := sinkL_step ltR (k - 1) k M i1
                  rw [show k - 1 + 1 = k by omega] at hstep
                  have hsw := swapL_eq M k (k - 1) i1 i2
                  obtain ⟨r, hr⟩ : ∃ r, M[k] = r := ⟨_, rfl⟩
                  obtain ⟨q, hq⟩ : ∃ q, M[k - 1] = q := ⟨_, rfl⟩
                  rw [hr, hq] at hstep hsw
                  have gr := pairCells_get M k r (by rw [List.getElem?_eq_getElem i1, hr])
                  have gq := pairCells_get M (k - 1) q (by rw [List.getElem?_eq_getElem i2, hq])
                  obtain ⟨g, mc, rfl, rfl⟩ : ∃ g mc, LA = some ⟨g, 0, none⟩ ∧ lc = mc := by
                    obtain ⟨_, h | ⟨g, c2, _, he, _⟩⟩ := hown
                    · omega
                    · injection he with e1 _ e3; exact ⟨g, c2, e1, e3⟩
                  have e1 := (hown.cellAt (k * 2) (by omega)).trans gr.1
                  have e2 := (hown.cellAt (k * 2 + 1) (by omega)).trans gr.2
                  have e3 := (hown.cellAt ((k - 1) * 2) (by omega)).trans gq.1
                  have e4 := (hown.cellAt ((k - 1) * 2 + 1) (by omega)).trans gq.2
                  have f1 := hown.frozenAt (k * 2)
                  have f2 := hown.frozenAt (k * 2 + 1)
                  have f3 := hown.frozenAt ((k - 1) * 2)
                  have f4 := hown.frozenAt ((k - 1) * 2 + 1)
                  have lg := own_lt hown g rfl
                  have lgN := own_ge hown g rfl
                  have HOW := hide hown
                  have HB := hide hb
                  have HSTEP := hide hstep
                  have HSW := hide hsw
                  have hkn : (k : Int) < (n : Int) := by omega
                  have hw1 : IntKind.i64.wrap ((k : Int) - 1) = (k : Int) - 1 := IntWalk.i64_in _ (by omega)
                  have hw2 : ((k : Int) - 1).toNat = k - 1 := by omega
                  have hw3 : (0 : Int) ≤ (k : Int) - 1 := by omega
                  have hw4 : (k : Int) - 1 < (n : Int) := by omega
                  have hw5 : k < n := by omega
                  have hw6 : (1 : Int) ≤ (k : Int) := by omega
                  have hw7 : 1 ≤ k := by omega
                  clear hstep hsw hr hq gr gq hown hb i1 i2
                  by_cases hlt : r.1 < q.1
                  · have hlt1 : (r.1 : Int) < (q.1 : Int) := by omega
                    have hlt2 : decide ((r.1 : Int) < (q.1 : Int)) = true := by simpa using hlt1
                    have HN2 : Hid (insL ltR 0 (i + 1) L = sinkL ltR (k - 1) (k - 1) ((M.set k q).set (k - 1) r)) := hide (by
                      rw [hsk.out, HSTEP.out, if_pos (by unfold ltR; simpa using hlt), HSW.out])
                    have HML : Hid (((M.set k q).set (k - 1) r).length = n) := hide (by rw [List.length_set, List.length_set]; exact hMl.out)
                    go_wp2_with fail
                    go_quiet (fail)
                    go_wp2_with fail
                    have x1 : (wr.drewN nq).cell? ⟨g, k * 2, none⟩ = some (.int .i64 (r.1 : Int)) := e1
                    have x2 : (wr.drewN nq).cell? ⟨g, k * 2 + 1, none⟩ = some (.int .i64 (r.2 : Int)) := e2
                    have x3 : (wr.drewN nq).cell? ⟨g, (k - 1) * 2, none⟩ = some (.int .i64 (q.1 : Int)) := e3
                    have x4 : (wr.drewN nq).cell? ⟨g, (k - 1) * 2 + 1, none⟩ = some (.int .i64 (q.2 : Int)) := e4
                    have z1 : (wr.drewN nq).frozen? ⟨g, k * 2, none⟩ = false := f1
                    have z2 : (wr.drewN nq).frozen? ⟨g, k * 2 + 1, none⟩ = false := f2
                    have z3 : (wr.drewN nq).frozen? ⟨g, (k - 1) * 2, none⟩ = false := f3
                    have z4 : (wr.drewN nq).frozen? ⟨g, (k - 1) * 2 + 1, none⟩ = false := f4
                    have HB6 : Hid (Below N1 wB (wr.drewN nq)) := hide (below_drewN HB.out nq)
                    have HOW6 : Hid ((wr.drewN nq).ownsRow N1 87 2 (.slice (some ⟨g, 0, none⟩) n lc) n (pairCells M)) := hide HOW.out
                    have lg6 : g < (wr.drewN nq).heap.size := lg
                    clear e1 e2 e3 e4 f1 f2 f3 f4 HOW HB lg
                    generalize wr.drewN nq = w6 at *
                    have hn1 : ¬ (k * 2 = (k - 1) * 2) := by omega
                    have hn2 : ¬ (k * 2 = (k - 1) * 2 + 1) := by omega
                    have hn3 : ¬ (k * 2 + 1 = (k - 1) * 2) := by omega
                    have hn4 : ¬ (k = k - 1) := by omega
                    go_region
                    all_goals
                      have hput := own_put2 (own_put2 HOW6.out k q) (k - 1) r
                      have hbp : Below N1 w6 ((((w6.setCell ⟨g, k * 2, none⟩ (.int .i64 (q.1 : Int))).setCell ⟨g, k * 2 + 1, none⟩ (.int .i64 (q.2 : Int))).setCell ⟨g, (k - 1) * 2, none⟩ (.int .i64 (r.1 : Int))).setCell ⟨g, (k - 1) * 2 + 1, none⟩ (.int .i64 (r.2 : Int))) := ((((Below.refl N1 w6).setCell (p := ⟨g, k * 2, none⟩) lgN _).setCell (p := ⟨g, k * 2 + 1, none⟩) lgN _).setCell (p := ⟨g, (k - 1) * 2, none⟩) lgN _).setCell (p := ⟨g, (k - 1) * 2 + 1, none⟩) lgN _
                      have HPUT := hide hput
                      have HBP := hide (HB6.out.trans hbp)
                      clear hput hbp x1 x2 x3 x4 z1 z2 z3 z4 hw1 hw2
                      go_wp2_with fail
                      go_roundw
                      case rel => exact ⟨k - 1, _, by go_num, by omega, HML, HN2, HPUT.out.drew, HBP.out.drew⟩
                      case measure => simp [intOf]; omega
                  · have hlt1 : ¬ ((r.1 : Int) < (q.1 : Int)) := by omega
                    have hlt2 : decide ((r.1 : Int) < (q.1 : Int)) = false := by simpa using hlt1
                    have HN2 : Hid (insL ltR 0 (i + 1) L = M) := hide (by
                      rw [hsk.out, HSTEP.out, if_neg (by unfold ltR; simpa using hlt)])
                    go_wp2_with fail
                    go_quiet (fail)
                    go_wp2_with fail
                    go_roundw
                    case rel => exact ⟨i + 1, by omega, by go_num, by rw [HN2.out]; exact HOW.out, below_drewN HB.out _⟩
                    case measure => simp [intOf]; omega
                · obtain rfl : k = 0 := by omega
                  have HN2 : Hid (insL ltR 0 (i + 1) L = M) := hide hsk.out
                  have HOW := hide hown
                  have HB := hide hb
                  clear hown hb
                  have hdk0' : decide ((0 : Int) < ((0 : Nat) : Int)) = false := by simp
                  go_wp2_with fail
                  go_quiet (fail)
                  go_wp2_with fail
                  go_roundw
                  case rel => exact ⟨i + 1, by omega, by go_num, by rw [HN2.out]; exact HOW.out, below_drewN HB.out _⟩
                  case measure => simp [intOf]; omega
            · obtain rfl : i = n := by omega
              have hdi : ¬ ((i : Int) < (i : Int)) := by omega
              have HFN : Hid (insL ltR 0 i L = isrt ltR L) := hide (by have := insL_whole ltR_swo L; rwa [HN.out] at this)
              have HOW := hide hown
              have HB := hide hb
              clear hown hb
              go_wp2_with fail
              go_ret
              refine ⟨_, rfl, isrt ltR L, ?_, HS.out.1, fun t => ?_, ?_, bB.trans (HB.out.mono (by omega))⟩
              · rw [isrt_len, HN.out, ← HFN.out]; exact own_mono HOW.out (by omega)
              · rw [← List.map_append, HLL.out]; exact HS.out.2 t
              · rw [isrt_len, HN.out]; exact hLl
        | true =>
          clear hnt
          obtain ⟨LA, lc, rfl⟩ := own_form hown
          have HOW := hide hown
          have HB := hide hb
          have HST := hide hst.out
          clear hown hb hst
          go_wp2_with fail
          go_loopw [5, 10, 46] (fun lv av iv wr => ∃ (M : List Rg) (b : Bool) (i : Nat), iv = .int .i64 (i : Int) ∧ i ≤ L.length ∧ av = .bool b ∧ wr.ownsRow N1 87 2 lv M.length (pairCells M) ∧ Hid (RgSt L0 M) ∧ Hid ((b = true ∧ M.length + 1 = L.length) ∨ (b = false ∧ M = L ∧ NoT L i (i + 1))) ∧ Below N1 wB wr) (fun _ _ iv _ => L.length - (intOf iv).toNat)
          case atStart => exact ⟨L, false, 0, rfl, Nat.zero_le _, rfl, HOW.out, HST, hide (.inr ⟨rfl, rfl, NoT.start L⟩), HB.out⟩
          case round =>
            clear HOW HB HST hz
            obtain ⟨M, b, i, rfl, hi, rfl, hown, hst, hcs, hb⟩ := hrel
            have hz := hb.size
            have hMl : M.length ≤ L.length := by rcases hcs.out with h | h; omega; rw [h.2.1]; exact Nat.le_refl _
            by_cases hil : i < L.length
            · have hdi : (i : Int) < (L.length : Int) := by omega
              obtain ⟨MA, mc, rfl⟩ := own_form hown
              have HOW := hide hown
              have HB := hide hb
              have HST := hide hst.out
              have HCS : Hid ((b = true ∧ M.length + 1 = L.length) ∨ (b = false ∧ M = L ∧ NoT L i (i + 1))) := hcs
              clear hown hb hst hcs
              go_wp2_with fail
              go_loopw [5, 10, 12] (fun lv av kv wr => ∃ (M : List Rg) (b : Bool) (k : Nat), kv = .int .i64 (k : Int) ∧ i < k ∧ k ≤ L.length + 1 ∧ av = .bool b ∧ wr.ownsRow N1 87 2 lv M.length (pairCells M) ∧ Hid (RgSt L0 M) ∧ Hid ((b = true ∧ M.length + 1 = L.length) ∨ (b = false ∧ M = L ∧ NoT L i k)) ∧ Below N1 wB wr) (fun _ _ kv _ => L.length + 1 - (intOf kv).toNat)
              case atStart => exact ⟨M, b, i + 1, by go_num, by omega, by omega, rfl, HOW.out, HST, HCS, HB.out⟩
              case round =>
                clear HOW HB HST HCS hz hMl
                obtain ⟨M, b, k, rfl, hik, hk, rfl, hown, hst, hcs, hb⟩ := hrel
                have hz := hb.size
                have hMl : M.length ≤ L.length := by rcases hcs.out with h | h; omega; rw [h.2.1]; exact Nat.le_refl _
                by_cases hgo : b = false ∧ k < L.length
                · obtain ⟨rfl, hkl⟩ := hgo
                  obtain ⟨rfl, hno⟩ : M = L ∧ NoT L i k := by
                    rcases hcs.out with h | h
                    · cases h.1
                    · exact h.2
                  obtain ⟨r, hr⟩ : ∃ r, M[i]? = some r := ⟨_, List.getElem?_eq_getElem (by omega)⟩
                  obtain ⟨q, hq⟩ : ∃ q, M[k]? = some q := ⟨_, List.getElem?_eq_getElem (by omega)⟩
                  have HR := hide hr
                  have HQ := hide hq
                  have HNO := hide hno
                  have hrb := hst.out.bd r (List.mem_of_getElem? hr)
                  have hqb := hst.out.bd q (List.mem_of_getElem? hq)
                  have hro := hst.out.ok r (List.mem_of_getElem? hr)
                  have hqo := hst.out.ok q (List.mem_of_getElem? hq)
                  have HJ := hide (fun ht => hst.out.join hik hr hq ht)
                  obtain ⟨g, mc, rfl⟩ : ∃ g mc, u5 = .slice (some ⟨g, 0, none⟩) M.length mc := by
                    obtain ⟨_, h | ⟨g, c2, _, rfl, _⟩⟩ := hown
                    · omega
                    · exact ⟨g, c2, rfl⟩
                  have hmc : M.length ≤ mc := by
                    obtain ⟨_, h | ⟨g', c2, _, he, _, _, h, _⟩⟩ := hown
                    · omega
                    · injection he with _ _ h3; omega
                  have e1 := (hown.cellAt (i * 2) (by omega)).trans (pairCells_get M i r hr).1
                  have e2 := (hown.cellAt (i * 2 + 1) (by omega)).trans (pairCells_get M i r hr).2
                  have e3 := (hown.cellAt (k * 2) (by omega)).trans (pairCells_get M k q hq).1
                  have e4 := (hown.cellAt (k * 2 + 1) (by omega)).trans (pairCells_get M k q hq).2
                  have f1 := hown.frozenAt (i * 2)
                  have f2 := hown.frozenAt (i * 2 + 1)
                  have lg := own_lt hown g rfl
                  have lgN := own_ge hown g rfl
                  have HOW := hide hown
                  have HB := hide hb
                  have HCUT := hide (cut_out (M.set i (min r.1 q.1, max r.2 q.2)) k (by rw [List.length_set]; omega))
                  obtain ⟨r1, r2⟩ := r
                  obtain ⟨q1, q2⟩ := q
                  dsimp only at e1 e2 e3 e4 hrb hqb hro hqo HCUT
                  obtain ⟨n, hn⟩ : ∃ n, M.length = n := ⟨_, rfl⟩
                  have HN := hide hn
                  have hn2 : n ≤ 2002 := by omega
                  rw [hn] at hkl hk hmc hMl HOW ⊢
                  have hdk : (k : Int) < (n : Int) := by omega
                  have hdi2 : (i : Int) < (n : Int) := by omega
                  clear hr hq hno hcs hown hb hn hMl
                  by_cases ht : r1 ≤ q2 ∧ q1 ≤ r2
                  · obtain ⟨ht1, ht2⟩ := ht
                    have hd1 : (r1 : Int) ≤ (q2 : Int) := by omega
                    have hd2 : (q1 : Int) ≤ (r2 : Int) := by omega
                    have hd1' : decide ((r1 : Int) ≤ (q2 : Int)) = true := by simpa using hd1
                    have hd2' : decide ((q1 : Int) ≤ (r2 : Int)) = true := by simpa using hd2
                    go_wp2_with fail
                    go_quiet (fail)
                    go_wp2_with fail
                    have x1 : (wr.drewN nq).cell? ⟨g, i * 2, none⟩ = some (.int .i64 (r1 : Int)) := e1
                    have x2 : (wr.drewN nq).cell? ⟨g, i * 2 + 1, none⟩ = some (.int .i64 (r2 : Int)) := e2
                    have x3 : (wr.drewN nq).cell? ⟨g, k * 2, none⟩ = some (.int .i64 (q1 : Int)) := e3
                    have x4 : (wr.drewN nq).cell? ⟨g, k * 2 + 1, none⟩ = some (.int .i64 (q2 : Int)) := e4
                    have z1 : (wr.drewN nq).frozen? ⟨g, i * 2, none⟩ = false := f1
                    have z2 : (wr.drewN nq).frozen? ⟨g, i * 2 + 1, none⟩ = false := f2
                    have HB6 : Hid (Below N1 wB (wr.drewN nq)) := hide (below_drewN HB.out nq)
                    have HOW6 : Hid ((wr.drewN nq).ownsRow N1 87 2 (.slice (some ⟨g, 0, none⟩) n mc) n (pairCells M)) := hide HOW.out
                    have lg6 : g < (wr.drewN nq).heap.size := lg
                    clear e1 e2 e3 e4 f1 f2 HOW HB lg
                    generalize wr.drewN nq = w6 at *
                    have hik2 : ¬ (i * 2 = k * 2) := by omega
                    go_region
                    have hmn : min (r1 : Int) (q1 : Int) = ((min r1 q1 : Nat) : Int) := by omega
                    have hmx : max (r2 : Int) (q2 : Int) = ((max r2 q2 : Nat) : Int) := by omega
                    rw [hmn, hmx]
                    have hput := own_put2 HOW6.out i (min r1 q1, max r2 q2)
                    have hbp : Below N1 w6 ((w6.setCell ⟨g, i * 2, none⟩ (.int .i64 ((min r1 q1 : Nat) : Int))).setCell ⟨g, i * 2 + 1, none⟩ (.int .i64 ((max r2 q2 : Nat) : Int))) := ((Below.refl N1 w6).setCell (p := ⟨g, i * 2, none⟩) lgN _).setCell (p := ⟨g, i * 2 + 1, none⟩) lgN _
                    have HPUT : Hid (((w6.setCell ⟨g, i * 2, none⟩ (.int .i64 ((min r1 q1 : Nat) : Int))).setCell ⟨g, i * 2 + 1, none⟩ (.int .i64 ((max r2 q2 : Nat) : Int))).drew.ownsRow N1 87 2 (.slice (some ⟨g, 0, none⟩) n mc) n (pairCells (M.set i (min r1 q1, max r2 q2)))) := hide hput
                    have HB7 : Hid (Below N1 wB ((w6.setCell ⟨g, i * 2, none⟩ (.int .i64 ((min r1 q1 : Nat) : Int))).setCell ⟨g, i * 2 + 1, none⟩ (.int .i64 ((max r2 q2 : Nat) : Int))).drew) := hide (HB6.out.trans hbp).drew
                    clear hput hbp hmn hmx x1 x2 x3 x4 z1 z2 HB6 HOW6 lg6
                    generalize ((w6.setCell ⟨g, i * 2, none⟩ (.int .i64 ((min r1 q1 : Nat) : Int))).setCell ⟨g, i * 2 + 1, none⟩ (.int .i64 ((max r2 q2 : Nat) : Int))).drew = w7 at *
                    obtain ⟨F, hF⟩ : ∃ F, M.set i (min r1 q1, max r2 q2) = F := ⟨_, rfl⟩
                    have hFl : F.length = n := by rw [← hF, List.length_set]; exact HN.out
                    have HFL := hide hFl
                    have hjoin : joinR M i k (r1, r2) (q1, q2) = F.eraseIdx k := by unfold joinR; rw [hF]
                    have HJN : Hid (RgSt L0 (F.eraseIdx k)) := hide (by rw [← hjoin]; exact HJ.out ⟨ht1, ht2⟩)
                    rw [hF] at HPUT HCUT
                    have lg7 := own_lt HPUT.out g rfl
                    clear hF hFl hjoin HJ
                    have hk1 : (k : Int) + 1 ≤ (n : Int) := by omega
                    have hk2 : (k : Int) ≤ (mc : Int) := by omega
                    have hk3 : (n : Int) ≤ (mc : Int) := by omega
                    have hwk : IntKind.i64.wrap ((k : Int) + 1) = (k : Int) + 1 := IntWalk.i64_in _ (by omega)
                    have HNEWL : Hid ((pairCells (F.drop (k + 1))).length = (n - (k + 1)) * 2) := hide (by rw [pairCells_len, List.length_drop, HFL.out])
                    have hk4 : ¬ (mc = 0) := by omega
                    have hk5 : (0 : Int) ≤ (k : Int) + 1 := by omega
                    have hk6 : (0 : Int) ≤ (k : Int) := by omega
                    have HFIN : Hid (∀ (w8 : World), w8 = w7.drew.setCells g (k * 2) (pairCells (F.drop (k + 1))) → w8.ownsRow N1 87 2 (.slice (some ⟨g, 0, none⟩) (n - 1) mc) (n - 1) (pairCells (F.eraseIdx k)) ∧ Below N1 wB w8) := hide (fun w8 e => by
                      obtain ⟨o1, o2, _⟩ := own_setCells (pairCells (F.drop (k + 1))) (pairCells F) (k * 2) w7.drew HPUT.out.drew
                      have o3 := own_short o1 (n' := n - 1) (by omega)
                      have hcut := HCUT.out
                      rw [HFL.out] at hcut
                      rw [hcut] at o3
                      rw [e]
                      exact ⟨o3, HB7.out.drew.trans (o2 N1 lgN)⟩)
                    have HEL2 : Hid ((F.eraseIdx k).length + 1 = n ∧ (F.eraseIdx k).length = n - 1) := hide (by
                      have := List.length_eraseIdx (l := F) (i := k)
                      rw [HFL.out, if_pos hkl] at this
                      omega)
                    have HSPARE : Hid (∀ j, j < (pairCells (F.drop (k + 1))).length → (w7.drew.cell? ⟨g, 0 + k * 2 + j, none⟩).isSome = true ∧ w7.drew.frozen? ⟨g, 0 + k * 2 + j, none⟩ = false) := hide (fun j hj => by
                      rw [HNEWL.out] at hj
                      refine ⟨?_, HPUT.out.frozenAt _⟩
                      have hc := HPUT.out.cellAt (0 + k * 2 + j) (by omega)
                      have hl := pairCells_len F
                      rw [HFL.out] at hl
                      rw [List.getElem?_eq_getElem (by omega)] at hc
                      show (w7.cell? _).isSome = true
                      rw [hc]; rfl)
                    by_cases hkc : mc = k + 1
                    · have hkn : n = k + 1 := by omega
                      have HDR : Hid (F.drop (k + 1) = []) := hide (List.drop_of_length_le (by rw [HFL.out]; omega))
                      subst hkc
                      clear hkn
                      have HCELLS : Hid (∀ (j : Nat) (u : Value), ([] : List Value)[j]? = some u → w7.drew.cell? ((⟨g, 0, none⟩ : Addr).add j) = some u) := hide (fun j u hu => by simp at hu)
                      have HSP0 : Hid (∀ j, j < ([] : List Value).length → (w7.drew.cell? ⟨g, 0 + k * 2 + j, none⟩).isSome = true ∧ w7.drew.frozen? ⟨g, 0 + k * 2 + j, none⟩ = false) := hide (fun j hj => by simp at hj)
                      have hka : (k : Int) ≤ (k : Int) + 1 := by omega
                      have hkb : (n : Int) ≤ (k : Int) + 1 := by omega
                      go_wp2_with fail
                      go_region_law (refine step_append_room (by rfl) (.tmp 113) (.tmp 117) 84 (by rfl) 87 ip 2 Try.underlying84 hip hps g 0 k (k + 1) (by kernel_rfl) ⟨g, 0, none⟩ 0 0 [] (by kernel_rfl) rfl HCELLS.out (by simp) (by omega) HSP0.out ?_)
                      all_goals
                        have HF2 := hide (HFIN.out w7.drew (by rw [HDR.out]; rfl))
                        go_wp2_with fail
                        go_roundw
                        case rel => exact ⟨F.eraseIdx k, true, k + 1, by go_num, by omega, by omega, rfl, by have h := HF2.out.1; rw [HEL2.out.2]; rw [show n - 1 = k by omega] at h ⊢; exact h, HJN, hide (.inl ⟨rfl, by first | exact HEL2.out.1 | exact HEL2.out.1.trans HN.out.symm⟩), HF2.out.2⟩
                        case measure => simp [intOf]; omega
                    · have HCELLS : Hid (∀ j u, (pairCells (F.drop (k + 1)))[j]? = some u → w7.drew.cell? ((⟨g, (k + 1) * 2, none⟩ : Addr).add j) = some u) := hide (fun j u hu => by
                        have hj := (List.getElem?_eq_some_iff.1 hu).1
                        rw [HNEWL.out] at hj
                        rw [add_at _ _ rfl]
                        have hc := HPUT.out.cellAt ((k + 1) * 2 + j) (by omega)
                        rw [← pairCells_drop, List.getElem?_drop] at hu
                        exact hc.trans hu)
                      have hkc2 : ¬ (k + 1 = mc) := fun e => hkc e.symm
                      have hkt : ((k : Int) + 1).toNat = k + 1 := by omega
                      go_wp2_with fail
                      go_region_law (refine step_append_room (by rfl) (.tmp 113) (.tmp 117) 84 (by rfl) 87 ip 2 Try.underlying84 hip hps g 0 k mc (by kernel_rfl) ⟨g, (k + 1) * 2, none⟩ (n - (k + 1)) (mc - (k + 1)) (pairCells (F.drop (k + 1))) (by kernel_rfl) HNEWL.out HCELLS.out (pairCells_one _) (by omega) HSPARE.out ?_)
                      all_goals
                        have hkn : k + (n - (k + 1)) = n - 1 := by omega
                        rw [hkn]
                        obtain ⟨w8, hw8⟩ : ∃ w8, w8 = w7.drew.setCells g (k * 2) (pairCells (F.drop (k + 1))) := ⟨_, rfl⟩
                        have HF2 := hide (HFIN.out w8 hw8)
                        rw [← hw8]
                        clear hw8
                        go_wp2_with fail
                        go_roundw
                        case rel => exact ⟨F.eraseIdx k, true, k + 1, by go_num, by omega, by omega, rfl, by rw [HEL2.out.2]; exact HF2.out.1, HJN, hide (.inl ⟨rfl, by first | exact HEL2.out.1 | exact HEL2.out.1.trans HN.out.symm⟩), HF2.out.2⟩
                        case measure => simp [intOf]; omega
                  · have HNT : Hid (NoT M i (k + 1)) := hide (HNO.out.step HR.out HQ.out (fun h => ht h))
                    by_cases hd1 : r1 ≤ q2
                    case' pos =>
                      have hd1i : (r1 : Int) ≤ (q2 : Int) := by omega
                      have hd1' : decide ((r1 : Int) ≤ (q2 : Int)) = true := by simpa using hd1
                      have hd2 : ¬ ((q1 : Int) ≤ (r2 : Int)) := by omega
                      have hd2' : decide ((q1 : Int) ≤ (r2 : Int)) = false := by simpa using hd2
                    case' neg =>
                      have hd1i : ¬ ((r1 : Int) ≤ (q2 : Int)) := by omega
                      have hd1' : decide ((r1 : Int) ≤ (q2 : Int)) = false := by simpa using hd1
                    all_goals
                      clear ht
                      go_wp2_with fail
                      go_quiet (fail)
                      clear e1 e2 e3 e4 f1 f2
                      go_wp2_with fail
                      go_roundw
                      case rel => exact ⟨M, false, k + 1, by go_num, by omega, by omega, rfl, by rw [HN.out]; exact HOW.out, hst, hide (.inr ⟨rfl, rfl, HNT.out⟩), below_drewN HB.out _⟩
                      case measure => simp [intOf]; omega
                · have hend : Hid ((b = true ∧ M.length + 1 = L.length) ∨ (b = false ∧ M = L ∧ NoT L (i + 1) (i + 1 + 1))) := hide (by
                    rcases hcs.out with h | ⟨h1, h2, h3⟩
                    · exact .inl h
                    · refine .inr ⟨h1, h2, h3.row (by
                        rcases Nat.lt_or_ge k L.length with h | h
                        · exact absurd ⟨h1, h⟩ hgo
                        · exact h)⟩)
                  have hex : (b = true ∧ k < M.length) ∨ ¬ k < M.length := by
                    by_cases h : k < M.length
                    · cases b with
                      | true => exact .inl ⟨rfl, h⟩
                      | false => exact absurd ⟨rfl, by omega⟩ hgo
                    · exact .inr h
                  obtain ⟨MA, mc, rfl⟩ := own_form hown
                  have HOW := hide hown
                  have HB := hide hb
                  clear hgo hcs hown hb
                  rcases hex with ⟨rfl, hkm⟩ | hkm
                  · have hdk : (k : Int) < (M.length : Int) := by omega
                    go_wp2_with fail
                    go_roundw
                    case rel => exact ⟨M, true, i + 1, by go_num, by omega, rfl, HOW.out, hst, hend, HB.out⟩
                    case measure => simp [intOf]; omega
                  · have hdk : ¬ ((k : Int) < (M.length : Int)) := by omega
                    go_wp2_with fail
                    go_roundw
                    case rel => exact ⟨M, b, i + 1, by go_num, by omega, rfl, HOW.out, hst, hend, HB.out⟩
                    case measure => simp [intOf]; omega
            · obtain rfl : i = L.length := by omega
              have hdi : ¬ ((L.length : Int) < (L.length : Int)) := by omega
              obtain ⟨MA, mc, rfl⟩ := own_form hown
              have HOW := hide hown
              have HB := hide hb
              clear hown hb
              go_wp2_with fail
              go_roundw
              case rel =>
                refine ⟨M, b, rfl, by omega, HOW.out, hst, hide (fun h => ?_), HB.out⟩
                rcases hcs.out with ⟨h1, _⟩ | ⟨_, h2, h3⟩
                · rw [h1] at h; cases h
                · rw [h2]; exact h3.done (Nat.le_refl _)
              case measure =>
                show M.length + boolN (.bool b) < L.length + boolN (.bool true)
                rcases hcs.out with ⟨h1, h2⟩ | ⟨h1, h2, _⟩
                · rw [h1]; omega
                · rw [h1, h2]; simp [boolN]
end Go.Proofs.Ytfjbdbdjhkmifaa
