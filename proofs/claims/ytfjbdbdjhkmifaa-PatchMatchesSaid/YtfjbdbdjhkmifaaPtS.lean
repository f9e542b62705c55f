/- The reference's Patched: the walk. -/
import Derived.Test.YtfjbdbdjhkmifaaPtR
import Derived.Test.YtfjbdbdjhkmifaaFew
import Derived.Maps.AppendAt
set_option linter.unusedVariables false
set_option linter.unusedSimpArgs false
namespace Go.Proofs.Ytfjbdbdjhkmifaa
open Go.RowKit Go.Pw
theorem partOf_all (l : List ByteArray) : partOf l 0 l.length = l := by simp [partOf]
set_option maxHeartbeats 8000000 in
set_option maxRecDepth 100000 in
theorem Patched_any (va v : Value) (al : List ByteArray) (hs : List Hk) (fz : Nat) (w : World) (ha : Strs w va al) (h : Hunks w v hs) (hal : al.length ≤ 1000) (he2 : hunkErr none false hs = 0) (hfz : fz ≤ 10) :
    Calls Try.prog 19 #[va, v, .int .i64 (fz : Int)] w fun e w' => ∃ v1 v2, e = .returned (.tuple #[v1, v2]) ∧ Strs w' v1 (patchP fz hs 0 ⟨al, 0, 0, 0⟩).1.lst ∧ Rd w' 5 v2 hs.length (plCells (patchP fz hs 0 ⟨al, 0, 0, 0⟩).2) ∧ Below w.heap.size w w' := by
  obtain ⟨R, hR⟩ : ∃ R, patchP fz hs 0 ⟨al, 0, 0, 0⟩ = R := ⟨_, rfl⟩
  rw [hR]
  have HA := hide ha
  obtain ⟨⟨_, A, ca, rfl, _⟩, hsz⟩ := ha
  obtain ⟨hlen, hok⟩ := hunks_ok he2
  have HORD := hide (hunks_ord he2)
  obtain ⟨vs, hvs, ⟨_, B, cb, rfl, hcb, hmb, hxb⟩, hik, hel⟩ := h
  unfold maxLen at hmb
  have HVS := hide hvs
  have HXB := hide hxb
  have HE := hide hel
  have HIK := hide hik
  have HOK : Hid (∀ h ∈ hs, HkOk h) := hide (fun g hg => by
    obtain ⟨i, hi, rfl⟩ := List.getElem_of_mem hg
    obtain ⟨q1, q2, q3, q4⟩ := hok _ (List.getElem_mem hi)
    have := (hel i hs[i] (vs[i]'(by omega)).1 (vs[i]'(by omega)).2 (List.getElem?_eq_getElem hi) (List.getElem?_eq_getElem (by omega))).2.2
    exact ⟨q1, q2, q3, q4, this⟩)
  have HR0 := hide hR
  have HSZ := hide hsz
  clear he2 hvs hxb hel hik hok hR hsz
  obtain ⟨ip, hip, hpz, hps, hpb⟩ := info_parts info_placeF
  have hf0 : (0 : Int) ≤ (fz : Int) := by omega
  have hf1 : (fz : Int) ≤ 10 := by omega
  have hsub := sub_own (.slice A al.length ca) al 0 al.length w HA.out (Nat.zero_le _) (Nat.le_refl _) (by omega)
  rw [partOf_all] at hsub
  have HSUB := hide hsub
  clear hsub
  go_enter Try.func19, Try.ntmps19
  go_wp2_with fail
  refine HSUB.out.mono ?_
  rintro e w4 ⟨A4, n4, c4, rfl, hs4, ho4, hb4⟩
  obtain rfl := hs4.len
  go_wp2_with fail
  go_loopw [8, 9, 10, 11, 12, 34] (fun lv pv dv ov ev i wr => ∃ (k : Nat) (s : Pt) (A' : Option Addr) (c' : Nat) (pl : List Pl), k ≤ hs.length ∧ lv = .slice A' s.lst.length c' ∧ dv = .int .i64 s.del ∧ ov = .int .i64 s.off ∧ ev = .int .i64 (s.fin : Int) ∧ i = .int .i64 (k : Int) ∧ pl.length = k ∧ Hid (wr.ownsRow w.heap.size 9 1 (.slice A' s.lst.length c') s.lst.length (s.lst.map Value.string)) ∧
    Hid (wr.ownsRow w.heap.size 50 5 pv k (plCells pl)) ∧ Hid (PtOk s k) ∧ Hid (R = ((patchP fz (hs.drop k) k s).1, pl ++ (patchP fz (hs.drop k) k s).2)) ∧ Hid (Below w.heap.size w wr) ∧ Hid (∃ e, OrdH (hs.drop k) e ∧ Due s e)) (fun _ _ _ _ _ i _ => hs.length - (intOf i).toNat)
  case atStart => exact ⟨0, ⟨al, 0, 0, 0⟩, A4, c4, [], Nat.zero_le _, rfl, rfl, rfl, rfl, rfl, rfl, ho4, World.ownsRow_nil _ _ _ _, PtOk.start hal HSZ.out, by show _ = _; rw [List.drop_zero, List.nil_append, HR0.out], hb4, ⟨0, by simpa using HORD.out, by simp, by simp, by simp⟩⟩
  case round =>
    obtain ⟨k, s, A', c', pl, hk, rfl, rfl, rfl, rfl, rfl, hpll, hown, hrow, hpok, hRk, hbw, hdue⟩ := hrel
    by_cases hlt : k < hs.length
    · obtain ⟨ba, oa, rfl, hba, hja⟩ := HXB.out (by omega)
      have kv : k < vs.length := by rw [HVS.out]; exact hlt
      have cs := hkCells_at hs vs k hs[k] vs[k] (List.getElem?_eq_getElem hlt) (List.getElem?_eq_getElem kv) HVS.out
      rw [Nat.mul_comm] at cs
      have a0 := (hbw.out.cell hba).trans (hja _ _ cs.1)
      have a1 := (hbw.out.cell hba).trans (hja _ _ cs.2.1)
      have a2 := (hbw.out.cell hba).trans (hja _ _ cs.2.2.1)
      have a3 := (hbw.out.cell hba).trans (hja _ _ cs.2.2.2)
      clear cs hja
      simp only [← Nat.add_assoc] at a0 a1 a2 a3
      have s1 := HE.out k hs[k] vs[k].1 vs[k].2 (List.getElem?_eq_getElem hlt) (List.getElem?_eq_getElem kv)
      have hokk := HOK.out _ (List.getElem_mem hlt)
      obtain ⟨A1, n1, c1, e1⟩ := strs_form s1.1
      obtain ⟨A2, n2, c2, e2⟩ := strs_form s1.2
      rw [e1] at a2
      rw [e2] at a3
      rw [e1, e2] at s1
      clear e1 e2 kv
      obtain ⟨t1, t2⟩ := s1
      obtain rfl := t1.len
      obtain rfl := t2.len
      obtain ⟨h, hh⟩ : ∃ h, hs[k] = h := ⟨_, rfl⟩
      have hRk' := hRk.out
      obtain ⟨e0, hord, hdue0⟩ := hdue.out
      rw [List.drop_eq_getElem_cons hlt, hh, patchP] at hRk'
      rw [List.drop_eq_getElem_cons hlt, hh] at hord
      obtain ⟨hor1, hor2⟩ := hord
      have HOR1 := hide hor1
      have HOR2 := hide hor2
      have HDUE := hide hdue0
      rw [hh] at a0 a1 a2 a3 t1 t2 hokk
      have T1 := hide t1
      have T2 := hide t2
      have HT2 := hide (fun hn => t2.1.lt hn)
      have HRK := hide hRk'
      have HOKK := hide hokk
      clear hh t1 t2 hRk hRk' hokk hor1 hor2 hdue hdue0
      have hk1 : k ≤ 1000 := by omega
      go_wp2_with fail
      have hbw1 : Below wr.heap.size wr (wr.alloc (.cells #[.int .i64 h.frm, .int .i64 h.to_, .slice A1 h.old.length c1, .slice A2 h.new.length c2] 43)) := (Below.refl _ _).alloc (Nat.le_refl _) _
      have hbw2 := hbw.out.trans (hbw1.mono hbw.out.size)
      refine (alike_any _ _ h.old h.new _ (T1.out.below hbw2) (T2.out.below hbw2) (by have := HOKK.out.1; omega) (by have := HOKK.out.2.1; omega)).mono ?_
      rintro e w5 ⟨rfl, q, hw5⟩
      have hb5 : Below wr.heap.size wr w5 := by rw [hw5]; exact below_drewN hbw1 q
      have hbx5 : w5.heap[wr.heap.size]? = some (.cells #[.int .i64 h.frm, .int .i64 h.to_, .slice A1 h.old.length c1, .slice A2 h.new.length c2] 43 (0, 0)) := by rw [hw5]; exact heap_alloc_new _ _
      have hz5 : w5.heap.size = wr.heap.size + 1 := by rw [hw5]; show (wr.alloc _).heap.size = _; simp
      obtain ⟨N, hN⟩ : ∃ N, wr.heap.size = N := ⟨_, rfl⟩
      have hown5 := hide (own_below hown.out hb5)
      have hrow5 := hide (own_below hrow.out hb5)
      have hbw5 := hide (hbw.out.trans (hb5.mono hbw.out.size))
      have hrlt := hide (own_lt hrow.out)
      have hbsz := hbw.out.size
      rw [hN] at hbx5 hz5 hrlt hbsz
      rw [hN]
      clear hw5 hbw1 hbw2 hb5 a0 a1 a2 a3 hown hrow hbw hN wr
      obtain ⟨p, hpdef⟩ : ∃ p, pre h.old h.new = p := ⟨_, rfl⟩
      have hpl2 := pre_le h.old h.new
      rw [hpdef] at hpl2 ⊢
      have HPD := hide hpdef
      clear hpdef
      have HBX5 := hide hbx5
      obtain ⟨va, hva, hsa⟩ := cut_from (T1.out.below hbw5.out) (k := p) hpl2.1
      obtain ⟨vb, hvb, hsb⟩ := cut_from (T2.out.below hbw5.out) (k := p) hpl2.2
      have HT := hide (alikeEnds_any va vb (h.old.drop p) (h.new.drop p) w5.drew (hsa.drewN 1) (hsb.drewN 1) (by rw [List.length_drop]; have := HOKK.out.1; omega) (by rw [List.length_drop]; have := HOKK.out.2.1; omega))
      obtain ⟨Q, hQ⟩ : ∃ Q, pre (h.old.drop p).reverse (h.new.drop p).reverse = Q := ⟨_, rfl⟩
      rw [hQ] at HT
      have HQ := hide hQ
      clear hsa hsb hQ
      go_upto_region 8 with fail
      go_cut [16] from 44 to 53 (fun x wx => x = .int .i64 (Q : Int) ∧ ∃ q, wx = w5.drewN q)
      case first =>
        have x2 : w5.cell? ⟨N, 2, none⟩ = some (.slice A1 h.old.length c1) := by rw [Lib.cell_of_heap hbx5]; rfl
        have x3 : w5.cell? ⟨N, 3, none⟩ = some (.slice A2 h.new.length c2) := by rw [Lib.cell_of_heap hbx5]; rfl
        go_region_law (go_simp; go_at_call 51; (with_reducible refine (HT.out).mono ?_); rintro e wc ⟨rfl, q, rfl⟩; go_wp2_with fail)
        all_goals
          go_wp2_with fail
          go_meet
          case rel => exact ⟨rfl, _, rfl⟩
      case rest =>
        obtain ⟨rfl, q, hwc⟩ := hcut
        have hcx : wc.heap[N]? = some (.cells #[.int .i64 h.frm, .int .i64 h.to_, .slice A1 h.old.length c1, .slice A2 h.new.length c2] 43 (0, 0)) := by rw [hwc]; exact hbx5
        have hco : wc.ownsRow w.heap.size 9 1 (.slice A' s.lst.length c') s.lst.length (s.lst.map Value.string) := by rw [hwc]; exact hown5.out
        have hcr : wc.ownsRow w.heap.size 50 5 u9 k (plCells pl) := by rw [hwc]; exact hrow5.out
        have hcb : Below w.heap.size w wc := by rw [hwc]; exact below_drewN hbw5.out q
        have hcz : wc.heap.size = N + 1 := by rw [hwc]; exact hz5
        clear hwc hbx5 hz5 hva hvb
        have RF : Hid (RfAt w (wc.alloc (.cells #[.int .i64 (k : Int), .int .i64 0, .int .i64 0, .int .i64 0, .bool false] 50)) N k #[.int .i64 h.frm, .int .i64 h.to_, .slice A1 h.old.length c1, .slice A2 h.new.length c2] pl u9 A' c' s 0 0 0 false) := hide
          ⟨hco.alloc _, hcr.alloc _, (heap_alloc_old _ _ (by omega)).trans hcx, (by rw [← hcz]; exact heap_alloc_new _ _), hcb.alloc hcb.size _, by simp; omega, hbsz, hrlt.out⟩
        clear hcx hco hcr hcb hown5 hrow5 hbw5 HBX5 HT
        obtain ⟨T, hT⟩ : ∃ T, tryP h k s 0 (fz + 1) = T := ⟨_, rfl⟩
        have hTi : Hid (TryAt h k s fz 0 s 0 0 0 false) := hide (.inl ⟨rfl, rfl, rfl, rfl, rfl, rfl⟩)
        have HTT := hide hT
        clear hT
        go_wp2_with fail
        obtain ⟨HC, hHC⟩ : ∃ HC : Array Value, #[Value.int .i64 h.frm, Value.int .i64 h.to_, Value.slice A1 h.old.length c1, Value.slice A2 h.new.length c2] = HC := ⟨_, rfl⟩
        rw [hHC] at RF
        have HHC := hide hHC
        clear hHC
        go_loopw [8, 10, 12, 18] (fun lv dv ev i wj => ∃ (f : Nat) (s' : Pt) (A' : Option Addr) (c' : Nat) (b1 b2 b3 : Int) (d : Bool), f ≤ fz + 1 ∧ lv = .slice A' s'.lst.length c' ∧ dv = .int .i64 s'.del ∧ ev = .int .i64 (s'.fin : Int) ∧ i = .int .i64 (f : Int) ∧ Hid (RfAt w wj N k HC pl u9 A' c' s' b1 b2 b3 d) ∧ Hid (TryAt h k s fz f s' b1 b2 b3 d)) (fun _ _ _ i _ => fz + 1 - (intOf i).toNat)
        case atStart => exact ⟨0, s, A', c', 0, 0, 0, false, by omega, rfl, rfl, rfl, rfl, RF, hTi⟩
        case round =>
          obtain ⟨f, s', A', c', b1, b2, b3, d, hf, rfl, rfl, rfl, rfl, RFj, hTj⟩ := hrel
          by_cases hff : f ≤ fz
          · have hff1 : (f : Int) ≤ (fz : Int) := by omega
            obtain ⟨z0, z1, z2, z3, z4⟩ := RFj.out.pla.cells
            cases d with
            | true =>
              have HXD : Hid (true = true ∨ fz < f) := hide (.inl rfl)
              have hTd := hTj.out.done HXD.out
              rw [HTT.out] at hTd
              have hoff := tryP_off h k s (fz + 1) 0
              rw [HTT.out, hTd] at hoff
              have HRK2 : Hid (R = ((patchP fz (hs.drop (k + 1)) (k + 1) s').1, (pl ++ [⟨k, b1, b2, b3, true⟩]) ++ (patchP fz (hs.drop (k + 1)) (k + 1) s').2)) := hide (by
                rw [HRK.out, HTT.out, hTd, List.append_assoc]; rfl)
              have HPOK2 : Hid (PtOk s' (k + 1)) := hide (by
                have := PtOk.try HOKK.out (i := k) hpok.out hk1 (fz + 1) 0
                rw [HTT.out, hTd] at this
                exact this)
              have HDU2 : Hid (∃ e, OrdH (hs.drop (k + 1)) e ∧ Due s' e) := hide (by
                have := Due.try (i := k) HDUE.out HOR1.out (fz + 1) 0 (by omega)
                rw [HTT.out, hTd] at this
                exact ⟨_, HOR2.out, this⟩)
              have HOFF : Hid (b2 = s'.off) := hide ((hoff.1 rfl).symm)
              have HROWX : Hid (∀ ob, (wr.alloc ob).ownsRow w.heap.size 50 5 u9 k (plCells pl)) := hide (fun ob => RFj.out.row.alloc ob)
              have HNX : Hid (∀ ob w5, (wr.alloc ob).grownBy w5 u9.ownBlock → w5.ownsRow w.heap.size 9 1 (.slice A' s'.lst.length c') s'.lst.length (s'.lst.map Value.string) ∧ Below w.heap.size w w5) := hide (fun ob w5 hg => RFj.out.told hg)
              have hwz : w.heap.size ≤ wr.heap.size := RFj.out.bel.size
              clear hTd hTj hTi hoff
              go_wp2_with (at_builtin; refine wpList_append_own_at _ rfl _ _ 34 rfl w.heap.size 50 ip _ 5 40 Try.underlying34 hip hpz hps hpb rfl (by decide) _ k (plCells pl) rfl (HROWX.out _) ⟨wr.heap.size, 0, none⟩ 1 1 [.int .i64 (k : Int), .int .i64 b1, .int .i64 b2, .int .i64 b3, .bool true] (by rfl) rfl (five_new' _ _ _ _ _ _ _) (by simp [Value.oneCell']) (by unfold maxLen; omega) (by omega) (by simp; omega) ?_; intro vv w5 hown5 hgrow5 hnil5 hat5; have HN5 := hide (HNX.out _ _ hgrow5); have HOWN5 := hide hown5; clear hown5 hgrow5 hnil5 hat5)
              go_roundw
              case rel => exact ⟨k + 1, s', A', c', pl ++ [⟨k, b1, b2, b3, true⟩], by omega, rfl, rfl, by rw [HOFF.out], rfl, by go_num, by simp [hpll], HN5.out.1, by show World.ownsRow _ _ _ _ _ _ _; rw [plCells_snoc]; exact HOWN5.out, HPOK2, HRK2, HN5.out.2, HDU2⟩
              case measure => simp [intOf]; omega
            | false =>
              obtain rfl : s' = s := by
                rcases hTj.out with ⟨_, e, _⟩ | ⟨e, _⟩
                · exact e
                · cases e
              obtain ⟨y0, y2, y3⟩ : wr.cell? ⟨N, 0, none⟩ = some (.int .i64 h.frm) ∧ wr.cell? ⟨N, 2, none⟩ = some (.slice A1 h.old.length c1) ∧ wr.cell? ⟨N, 3, none⟩ = some (.slice A2 h.new.length c2) := by
                have hb := RFj.out.box
                rw [← HHC.out] at hb
                simp [World.cell?, hb]
              have hfs := fz_sum h f
              obtain ⟨H, hH⟩ : ∃ H, fzH h f = H := ⟨_, rfl⟩
              obtain ⟨F, hF⟩ : ∃ F, fzF h f = F := ⟨_, rfl⟩
              have hmH : min (f : Int) (p : Int) = (H : Int) := by rw [← hH, ← HPD.out]; unfold fzH; omega
              have hmF : min (f : Int) (Q : Int) = (F : Int) := by rw [← hF, ← HQ.out, ← HPD.out]; unfold fzF; omega
              rw [hH, hF] at hfs
              have hLO := fzO_length h f
              have hLN := fzN_length h f
              rw [hH, hF] at hLO hLN
              obtain ⟨YO, nO, cO, hcO, hsO⟩ := cut_hf A1 c1 h.old H F T1.out hfs.1
              obtain ⟨YN, nN, cN, hcN, hsN⟩ := cut_hf A2 c2 h.new H F T2.out hfs.2
              have hfO : (h.old.drop H).take (h.old.length - F - H) = fzO h f := by unfold fzO; rw [hH, hF]
              have hfN : (h.new.drop H).take (h.new.length - F - H) = fzN h f := by unfold fzN; rw [hH, hF]
              rw [hfO] at hsO
              rw [hfN] at hsN
              obtain rfl := hsO.len
              obtain rfl := hsN.len
              obtain ⟨q1, q2, q3, q4, _⟩ := HOKK.out
              have hLO' : (fzO h f).length ≤ 1000 := by omega
              have hLN' : (fzN h f).length ≤ 1000 := by omega
              have HSO := hide hsO
              have HSN := hide hsN
              obtain ⟨g1, g2, g3, g4, g5, g6, g7⟩ := hpok.out
              obtain ⟨D, hD⟩ : ∃ D, h.frm + (H : Int) + s'.del = D := ⟨_, rfl⟩
              have hDue : Hid (Pw.due h f s' = D) := by show _ = _; rw [← hD, ← hH]; rfl
              have hw1' : IntKind.i64.wrap (h.frm + (H : Int)) = h.frm + (H : Int) := by rw [IntKind.wrap_i64]; omega
              have hw2' : IntKind.i64.wrap (h.frm + (H : Int) + s'.del) = h.frm + (H : Int) + s'.del := by rw [IntKind.wrap_i64]; omega
              have hDb : -50000000 ≤ D ∧ D ≤ 52000000 := by omega
              have hhold : h.old.length ≤ 1000 := q1
              have hhnew : h.new.length ≤ 1000 := q2
              have HFS := hide hfs
              clear hfO hfN hsO hsN hfs hH hF hLO hLN q1 q2
              go_wp2_with fail
              go_quiet (fail)
              obtain ⟨wq, hwq⟩ : ∃ wq, wq = wr.drewN nq := ⟨_, rfl⟩
              have RFq : Hid (RfAt w wq N k HC pl u9 A' c' s' b1 b2 b3 false) := by rw [hwq]; exact RFj.out.below (below_drewN (Below.refl _ _) nq)
              have SKq : Hid (SkAt h s' f 0 0 s' b1 b2 b3 false) := by
                rcases hTj.out with ⟨_, _, rfl, rfl, rfl, _⟩ | ⟨e, _⟩
                · exact SkAt.start h s' f
                · cases e
              rw [← hwq]
              obtain ⟨yy0, yy2, yy3⟩ : wq.cell? ⟨N, 0, none⟩ = some (.int .i64 h.frm) ∧ wq.cell? ⟨N, 2, none⟩ = some (.slice A1 h.old.length c1) ∧ wq.cell? ⟨N, 3, none⟩ = some (.slice A2 h.new.length c2) := by rw [hwq]; exact ⟨y0, y2, y3⟩
              clear y0 y2 y3 z0 z1 z2 z3 z4 hwq RFj wr
              go_wp2_with fail
              clear yy0 yy2 yy3
              obtain ⟨C0, hC0⟩ : ∃ C0, D + s'.off = C0 := ⟨_, rfl⟩
              have hC0b : -60000000 ≤ C0 ∧ C0 ≤ 62000000 := by omega
              have HC0 : Hid (Pw.due h f s' + s'.off = C0) := by show _ = _; rw [hDue.out, hC0]
              have hw3' : IntKind.i64.wrap (D + s'.off) = D + s'.off := by rw [IntKind.wrap_i64]; omega
              have HG7 := hide g7
              obtain ⟨L, hL⟩ : ∃ L, s'.lst.length = L := ⟨_, rfl⟩
              have HL := hide hL
              have hLb : L ≤ 1001000 := by omega
              clear hL g7 hD
              go_loopw [8, 10, 12, 24] (fun lv dv ev i wj => ∃ (dd : Nat) (s2 : Pt) (A' : Option Addr) (c' : Nat) (b1 b2 b3 : Int) (d : Bool), (dd : Int) ≤ 2001 + (L : Int) + h.frm ∧ lv = .slice A' s2.lst.length c' ∧ dv = .int .i64 s2.del ∧ ev = .int .i64 (s2.fin : Int) ∧ i = .int .i64 (dd : Int) ∧ Hid (RfAt w wj N k HC pl u9 A' c' s2 b1 b2 b3 d) ∧ Hid (SkAt h s' f dd 0 s2 b1 b2 b3 d)) (fun _ _ _ i _ => (2002 + (L : Int) + h.frm - intOf i).toNat)
              case atStart => exact ⟨0, s', A', c', b1, b2, b3, false, by omega, rfl, rfl, rfl, rfl, RFq, SKq⟩
              case round =>
                obtain ⟨dd, s2, A', c', b1, b2, b3, d, hdd, rfl, rfl, rfl, rfl, RFj, SKj⟩ := hrel
                have hl2 : s2.lst.length ≤ 1002000 := by have := (SkAt.ok SKj.out hpok.out HOKK.out hk1).1; omega
                have yy0 : wr.cell? ⟨N, 0, none⟩ = some (.int .i64 h.frm) := by
                  have hb := RFj.out.box
                  rw [← HHC.out] at hb
                  simp [World.cell?, hb]
                obtain ⟨z0, z1, z2, z3, z4⟩ := RFj.out.pla.cells
                have hw4' : IntKind.i64.wrap (2000 + (s2.lst.length : Int)) = 2000 + (s2.lst.length : Int) := by rw [IntKind.wrap_i64]; omega
                have hw5' : IntKind.i64.wrap (2000 + (s2.lst.length : Int) + h.frm) = 2000 + (s2.lst.length : Int) + h.frm := by rw [IntKind.wrap_i64]; omega
                by_cases hcmp : (dd : Int) ≤ 2000 + (s2.lst.length : Int) + h.frm
                · have hcmp1 : decide ((dd : Int) ≤ 2000 + (s2.lst.length : Int) + h.frm) = true := by simpa using hcmp
                  cases d with
                  | true =>
                    have HOUT := hide (SkAt.out SKj.out hTj.out hff HDUE.out HOR1.out hfz (.inl rfl))
                    clear hTj SKj
                    go_wp2_with fail
                    go_roundw
                    case rel => exact ⟨f + 1, s2, A', c', b1, b2, b3, true, by omega, rfl, rfl, rfl, by go_num, RFj, HOUT⟩
                    case measure => simp [intOf]; omega
                  | false =>
                    obtain ⟨rfl, rfl, rfl, rfl, hnf⟩ := SKj.out.same
                    have HNF := hide hnf
                    clear hnf
                    obtain ⟨a0, ha0⟩ : ∃ a0, C0 + (dd : Int) = a0 := ⟨_, rfl⟩
                    obtain ⟨a1, ha1⟩ : ∃ a1, C0 - (dd : Int) = a1 := ⟨_, rfl⟩
                    have hw6' : IntKind.i64.wrap (C0 + (dd : Int)) = C0 + (dd : Int) := by rw [IntKind.wrap_i64]; omega
                    have hw7' : IntKind.i64.wrap (C0 - (dd : Int)) = C0 - (dd : Int) := by rw [IntKind.wrap_i64]; omega
                    have ha0b : -70000000 ≤ a0 ∧ a0 ≤ 72000000 := by omega
                    have ha1b : -70000000 ≤ a1 ∧ a1 ≤ 72000000 := by omega
                    have RFA := hide (RFj.out.below ((Below.refl wr.heap.size wr).alloc (Nat.le_refl _) (.cells #[.int .i64 a0, .int .i64 a1] 3)))
                    obtain ⟨NB, hNB⟩ : ∃ NB, wr.heap.size = NB := ⟨_, rfl⟩
                    have ARR : Hid ((wr.alloc (.cells #[.int .i64 a0, .int .i64 a1] 3)).heap[NB]? = some (.cells #[.int .i64 a0, .int .i64 a1] 3 (0, 0))) := by rw [← hNB]; exact heap_alloc_new _ _
                    have hNBs : NB < (wr.alloc (.cells #[.int .i64 a0, .int .i64 a1] 3)).heap.size := by simp; omega
                    have hNN : N + 2 ≤ NB := by have := RFj.out.siz; omega
                    have HA0 := hide ha0
                    have HA1 := hide ha1
                    go_wp2_with fail
                    try rw [hNB]
                    clear hNB RFj SKj
                    have hdd2 : (dd : Int) ≤ 2000 + (L : Int) + h.frm := by have := HL.out; omega
                    have SK0 : Hid (SkAt h s2 f dd 0 s2 0 0 0 false) := hide (.inl ⟨rfl, rfl, rfl, rfl, rfl, HNF.out⟩)
                    clear z0 z1 z2 z3 z4 yy0
                    go_loopw [8, 10, 12, 122] (fun lv dv ev i wm => ∃ (j : Nat) (s3 : Pt) (A' : Option Addr) (c' : Nat) (b1 b2 b3 : Int) (d : Bool), j ≤ 2 ∧ lv = .slice A' s3.lst.length c' ∧ dv = .int .i64 s3.del ∧ ev = .int .i64 (s3.fin : Int) ∧ i = .int .i64 (j : Int) ∧ Hid (RfAt w wm N k HC pl u9 A' c' s3 b1 b2 b3 d) ∧ Hid (SkAt h s2 f dd j s3 b1 b2 b3 d) ∧ Hid (wm.heap[NB]? = some (.cells #[.int .i64 a0, .int .i64 a1] 3 (0, 0))) ∧ NB < wm.heap.size) (fun _ _ _ i _ => 2 - (intOf i).toNat)
                    case atStart => exact ⟨0, s2, A', c', 0, 0, 0, false, by omega, rfl, rfl, rfl, rfl, RFA, SK0, ARR, hNBs⟩
                    case round =>
                      obtain ⟨j, s3, A', c', b1, b2, b3, d, hj, rfl, rfl, rfl, rfl, RFm, SKm, ARm, hNBm⟩ := hrel
                      by_cases hj2 : j < 2
                      ·
                        have hj3 : (j : Int) < 2 := by omega
                        obtain ⟨x, hcx, hxx⟩ : ∃ x : Int, wr.cell? ⟨NB, j, none⟩ = some (.int .i64 x) ∧ (j = 0 ∧ x = a0 ∨ j = 1 ∧ x = a1) := by
                          have hb := ARm.out
                          rcases (show j = 0 ∨ j = 1 by omega) with rfl | rfl
                          · exact ⟨a0, by simp [World.cell?, hb], .inl ⟨rfl, rfl⟩⟩
                          · exact ⟨a1, by simp [World.cell?, hb], .inr ⟨rfl, rfl⟩⟩
                        have hxb : -70000000 ≤ x ∧ x ≤ 72000000 := by omega
                        have HXX : Hid (j = 0 ∧ x = Pw.due h f s2 + s2.off + dd ∨ j = 1 ∧ x = Pw.due h f s2 + s2.off - dd) := by
                          have h1 := HC0.out
                          have h2 := HA0.out
                          have h3 := HA1.out
                          rw [h1]
                          rcases hxx with ⟨rfl, rfl⟩ | ⟨rfl, rfl⟩
                          · exact .inl ⟨rfl, h2.symm⟩
                          · exact .inr ⟨rfl, h3.symm⟩
                        clear hxx
                        obtain ⟨z0, z1, z2, z3, z4⟩ := RFm.out.pla.cells
                        cases d with
                        | true =>
                          go_wp2_with fail
                          go_roundw
                          case rel => exact ⟨j + 1, s3, A', c', b1, b2, b3, true, by omega, rfl, rfl, rfl, by go_num, RFm, SKm.out.done, ARm, by omega⟩
                          case measure => simp [intOf]; omega
                        | false =>
                          obtain ⟨rfl, rfl, rfl, rfl, _⟩ := SKm.out.same
                          by_cases hx1 : x < (s3.fin : Int)
                          · have hx1' : decide (x < (s3.fin : Int)) = true := by simpa using hx1
                            have SKN := hide (SKm.out.miss hj2 HXX.out (fun q e h1 _ => by omega))
                            clear SKm HXX
                            go_wp2_with fail
                            go_roundw
                            case rel => exact ⟨j + 1, s3, A', c', 0, 0, 0, false, by omega, rfl, rfl, rfl, by go_num, RFm, SKN, ARm, by omega⟩
                            case measure => simp [intOf]; omega
                          ·
                            obtain ⟨kk, rfl⟩ : ∃ kk : Nat, x = (kk : Int) := ⟨x.toNat, by omega⟩
                            have hx1' : decide ((kk : Int) < (s3.fin : Int)) = false := by simpa using hx1
                            have hx2 : ¬ ((kk : Int) < 0) := by omega
                            have hw8' : IntKind.i64.wrap ((kk : Int) + ((fzO h f).length : Int)) = (kk : Int) + ((fzO h f).length : Int) := by rw [IntKind.wrap_i64]; omega
                            by_cases hx3 : (s3.lst.length : Int) < (kk : Int) + ((fzO h f).length : Int)
                            · have hx3' : decide ((s3.lst.length : Int) < (kk : Int) + ((fzO h f).length : Int)) = true := by simpa using hx3
                              have SKN := hide (SKm.out.miss hj2 HXX.out (fun q e h1 h2 => by have := h2.1; omega))
                              clear SKm HXX
                              go_wp2_with fail
                              go_roundw
                              case rel => exact ⟨j + 1, s3, A', c', 0, 0, 0, false, by omega, rfl, rfl, rfl, by go_num, RFm, SKN, ARm, by omega⟩
                              case measure => simp [intOf]; omega
                            ·
                              have hx3' : decide ((s3.lst.length : Int) < (kk : Int) + ((fzO h f).length : Int)) = false := by simpa using hx3
                              have hkl : kk ≤ s3.lst.length := by omega
                              obtain ⟨vt, hvt, hst⟩ := cut_from (own_strs RFm.out.own HG7.out) (k := kk) hkl
                              have HAL := hide (alike_any (.slice YO (fzO h f).length cO) vt (fzO h f) (s3.lst.drop kk) wr (HSO.out.below RFm.out.bel) hst (by omega) (by rw [List.length_drop]; omega))
                              have hfp := fits_pre (l := s3.lst) (o := fzO h f) (k := kk) (by omega)
                              clear hst
                              obtain ⟨PV, hPV⟩ : ∃ PV, pre (fzO h f) (s3.lst.drop kk) = PV := ⟨_, rfl⟩
                              rw [hPV] at HAL hfp
                              clear hPV
                              by_cases hx4 : PV < (fzO h f).length
                              · have hx4' : decide ((PV : Int) < ((fzO h f).length : Int)) = true := by simp; omega
                                have hx4'' : (PV : Int) < ((fzO h f).length : Int) := by omega
                                have hnf : ¬ Fits s3.lst (fzO h f) kk := fun h => (hfp.1 h) hx4
                                have SKN := hide (SKm.out.miss hj2 HXX.out (fun q e h1 h2 => by have : q = kk := by omega
                                                                                                subst this; exact hnf h2))
                                clear SKm HXX hfp hnf
                                go_wp2_with fail
                                refine HAL.out.mono ?_
                                rintro e w9 ⟨rfl, q9, rfl⟩
                                go_wp2_with fail
                                go_roundw
                                case rel => exact ⟨j + 1, s3, A', c', 0, 0, 0, false, by omega, rfl, rfl, rfl, by go_num, hide (RFm.out.below (below_drewN (Below.refl _ _) q9)), SKN, ARm, hNBm⟩
                                case measure => simp [intOf]; omega
                              ·
                                have hx4' : decide ((PV : Int) < ((fzO h f).length : Int)) = false := by simp; omega
                                have hx4'' : ¬ ((PV : Int) < ((fzO h f).length : Int)) := by omega
                                have hfit := hfp.2 hx4
                                have SKN := fun j' => SKm.out.hit HXX.out (by omega) hfit j'
                                have HSK := hide SKN
                                clear SKm HXX hfp hfit SKN
                                go_wp2_with fail
                                refine HAL.out.mono ?_
                                rintro e w9 ⟨rfl, q9, rfl⟩
                                obtain ⟨w9, hw9⟩ : ∃ w9, w9 = wr.drewN q9 := ⟨_, rfl⟩
                                rw [← hw9]
                                have RF9 : Hid (RfAt w w9 N k HC pl u9 A' c' s3 0 0 0 false) := by rw [hw9]; exact RFm.out.below (below_drewN (Below.refl _ _) q9)
                                have AR9 : Hid (w9.heap[NB]? = some (.cells #[.int .i64 a0, .int .i64 a1] 3 (0, 0))) := by rw [hw9]; exact ARm.out
                                have hNB9 : NB < w9.heap.size := by rw [hw9]; exact hNBm
                                clear hw9 RFm ARm hNBm z0 z1 z2 z3 z4 hvt HAL
                                obtain ⟨z0, z1, z2, z3, z4⟩ := RF9.out.pla.cells
                                have zf0 := RF9.out.pla.frozen 0
                                have zf1 := RF9.out.pla.frozen 1
                                have zf2 := RF9.out.pla.frozen 2
                                have zf3 := RF9.out.pla.frozen 3
                                have zf4 := RF9.out.pla.frozen 4
                                have hbas := RF9.out.bas
                                have HSL := hide (own_strs (RF9.out.set_own (x1 := (kk : Int)) (x2 := (kk : Int) - D) (x3 := (f : Int))) HG7.out)
                                have HSN8 := hide (HSN.out.below (PlAt.set_below RF9.out.bel (b := N + 1) (by omega) (.int .i64 (k : Int)) (.int .i64 (kk : Int)) (.int .i64 ((kk : Int) - D)) (.int .i64 (f : Int)) (.bool true)))
                                have hko : kk + (fzO h f).length ≤ s3.lst.length := by omega
                                obtain ⟨v1, hv1, hs1⟩ := cut_to HSL.out (k := kk) hkl
                                obtain ⟨v3, hv3, hs3⟩ := cut_from HSL.out (k := kk + (fzO h f).length) hko
                                rw [Int.natCast_add] at hv3
                                have HS1 := hide hs1
                                have HS3 := hide hs3
                                clear hs1 hs3
                                obtain ⟨s8, hs8⟩ : ∃ s8, putAt h f s3 kk = s8 := ⟨_, rfl⟩
                                have HL8 : Hid ((([] ++ s3.lst.take kk) ++ fzN h f) ++ s3.lst.drop (kk + (fzO h f).length) = s8.lst) := hide (by rw [← hs8]; simp [putAt])
                                have HD8 : Hid (s3.del + (((fzN h f).length : Int) - ((fzO h f).length : Int)) = s8.del) := hide (by rw [← hs8]; rfl)
                                have HF8 : Hid ((kk : Int) + ((fzN h f).length : Int) = (s8.fin : Int)) := hide (by rw [← hs8]; exact (Int.natCast_add _ _).symm)
                                have HSK8 : Hid (SkAt h s3 f dd (j + 1) s8 (kk : Int) ((kk : Int) - D) (f : Int) true) := hide (by
                                  have := HSK.out (j + 1)
                                  rw [hs8, hDue.out] at this
                                  exact this)
                                have hzS : (setPl w9 (N + 1) (k : Int) (kk : Int) ((kk : Int) - D) (f : Int) true).heap.size = w9.heap.size := by simp [World.setCell]
                                have hARS : (setPl w9 (N + 1) (k : Int) (kk : Int) ((kk : Int) - D) (f : Int) true).heap[NB]? = some (.cells #[.int .i64 a0, .int .i64 a1] 3 (0, 0)) := (heap_set5 _ (N + 1) NB _ _ _ _ _ (by omega)).trans AR9.out
                                have HZS := hide hzS
                                have HARS := hide hARS
                                clear hs8 hzS hARS HSK
                                have hw9' : IntKind.i64.wrap ((kk : Int) - D) = (kk : Int) - D := by rw [IntKind.wrap_i64]; omega
                                have hw10 : IntKind.i64.wrap ((kk : Int) + ((fzN h f).length : Int)) = (kk : Int) + ((fzN h f).length : Int) := by rw [IntKind.wrap_i64]; omega
                                have hw11 : IntKind.i64.wrap (s3.del + (((fzN h f).length : Int) - ((fzO h f).length : Int))) = s3.del + (((fzN h f).length : Int) - ((fzO h f).length : Int)) := by rw [IntKind.wrap_i64]; omega
                                have hbnd1 : ([] : List ByteArray).length + (s3.lst.take kk).length ≤ 1000000000000 := by simp; omega
                                have hbnd2 : ([] ++ s3.lst.take kk).length + (fzN h f).length ≤ 1000000000000 := by simp; omega
                                have hbnd3 : (([] ++ s3.lst.take kk) ++ fzN h f).length + (s3.lst.drop (kk + (fzO h f).length)).length ≤ 1000000000000 := by simp; omega
                                have HB1 := hide hbnd1
                                have HB2 := hide hbnd2
                                have HB3 := hide hbnd3
                                have HB9 := hide RF9.out.bel
                                clear hbnd1 hbnd2 hbnd3
                                go_wp2_with (at_builtin; first
                                  | (refine wpList_app_strs rfl _ _ rfl (setPl w9 (N + 1) (k : Int) (kk : Int) ((kk : Int) - D) (f : Int) true).heap.size (.slice none 0 0) [] rfl (World.ownsRow_nil _ _ _ _) v1 (s3.lst.take kk) rfl HS1.out HB1.out (Nat.le_refl _) ?_; intro v6 w6 ho6 hg6; have b6 := hide ((Below.refl (setPl w9 (N + 1) (k : Int) (kk : Int) ((kk : Int) - D) (f : Int) true).heap.size _).grown hg6 (Nat.le_refl _) (fun g hg => by simp [Value.ownBlock] at hg)); have HO6 := hide ho6; clear ho6 hg6)
                                  | (refine wpList_app_strs rfl _ _ rfl (setPl w9 (N + 1) (k : Int) (kk : Int) ((kk : Int) - D) (f : Int) true).heap.size v6 ([] ++ s3.lst.take kk) rfl HO6.out (.slice YN (fzN h f).length cN) (fzN h f) rfl (HSN8.out.below b6.out) HB2.out b6.out.size ?_; intro v7 w7 ho7 hg7; have b7 := hide (b6.out.grown hg7 b6.out.size (fun g hg => own_ge HO6.out g hg)); have HO7 := hide ho7; clear ho7 hg7)
                                  | (refine wpList_app_strs rfl _ _ rfl (setPl w9 (N + 1) (k : Int) (kk : Int) ((kk : Int) - D) (f : Int) true).heap.size v7 (([] ++ s3.lst.take kk) ++ fzN h f) rfl HO7.out v3 (s3.lst.drop (kk + (fzO h f).length)) rfl (HS3.out.below b7.out) HB3.out b7.out.size ?_; intro v8 w8 ho8 hg8; have b8 := hide (b7.out.grown hg8 b7.out.size (fun g hg => own_ge HO7.out g hg)); rw [HL8.out] at ho8; obtain ⟨A8, c8, rfl⟩ := own_shape ho8; have HO8 := hide ho8; clear ho8 hg8))
                                have RF8 := hide (RF9.out.found b8.out HO8.out)
                                go_roundw
                                case rel => exact ⟨j + 1, s8, A8, c8, (kk : Int), (kk : Int) - D, (f : Int), true, by omega, rfl, by rw [HD8.out], by rw [HF8.out], by go_num, RF8, HSK8, hide ((b8.out.block NB (by rw [HZS.out]; omega)).trans HARS.out), by have := b8.out.size; rw [HZS.out] at this; omega⟩
                                case measure => simp [intOf]; omega
                      ·
                        obtain rfl : j = 2 := by omega
                        have SKN := hide SKm.out.next
                        clear SKm
                        go_wp2_with fail
                        go_roundw
                        case rel => exact ⟨dd + 1, s3, A', c', b1, b2, b3, d, by omega, rfl, rfl, rfl, by go_num, RFm, SKN⟩
                        case measure => simp [intOf]; omega
                · have hcmp1 : decide ((dd : Int) ≤ 2000 + (s2.lst.length : Int) + h.frm) = false := by simpa using hcmp
                  have hx : d = true ∨ 2000 + (s'.lst.length : Int) + h.frm < dd := by
                    cases d with
                    | true => exact .inl rfl
                    | false =>
                      obtain ⟨rfl, _⟩ := SKj.out.same
                      exact .inr (by omega)
                  have HOUT := hide (SkAt.out SKj.out hTj.out hff HDUE.out HOR1.out hfz hx)
                  clear hTj SKj hx
                  go_wp2_with fail
                  go_roundw
                  case rel => exact ⟨f + 1, s2, A', c', b1, b2, b3, d, by omega, rfl, rfl, rfl, by go_num, RFj, HOUT⟩
                  case measure => simp [intOf]; omega
          · have hff1 : ¬ ((f : Int) ≤ (fz : Int)) := by omega
            have hff2 : decide ((f : Int) ≤ (fz : Int)) = false := by simpa using hff1
            obtain ⟨z0, z1, z2, z3, z4⟩ := RFj.out.pla.cells
            cases d with
            | true =>
              have HXD : Hid (true = true ∨ fz < f) := hide (.inl rfl)
              have hTd := hTj.out.done HXD.out
              rw [HTT.out] at hTd
              have hoff := tryP_off h k s (fz + 1) 0
              rw [HTT.out, hTd] at hoff
              have HRK2 : Hid (R = ((patchP fz (hs.drop (k + 1)) (k + 1) s').1, (pl ++ [⟨k, b1, b2, b3, true⟩]) ++ (patchP fz (hs.drop (k + 1)) (k + 1) s').2)) := hide (by
                rw [HRK.out, HTT.out, hTd, List.append_assoc]; rfl)
              have HPOK2 : Hid (PtOk s' (k + 1)) := hide (by
                have := PtOk.try HOKK.out (i := k) hpok.out hk1 (fz + 1) 0
                rw [HTT.out, hTd] at this
                exact this)
              have HDU2 : Hid (∃ e, OrdH (hs.drop (k + 1)) e ∧ Due s' e) := hide (by
                have := Due.try (i := k) HDUE.out HOR1.out (fz + 1) 0 (by omega)
                rw [HTT.out, hTd] at this
                exact ⟨_, HOR2.out, this⟩)
              have HOFF : Hid (b2 = s'.off) := hide ((hoff.1 rfl).symm)
              have HROWX : Hid (∀ ob, (wr.alloc ob).ownsRow w.heap.size 50 5 u9 k (plCells pl)) := hide (fun ob => RFj.out.row.alloc ob)
              have HNX : Hid (∀ ob w5, (wr.alloc ob).grownBy w5 u9.ownBlock → w5.ownsRow w.heap.size 9 1 (.slice A' s'.lst.length c') s'.lst.length (s'.lst.map Value.string) ∧ Below w.heap.size w w5) := hide (fun ob w5 hg => RFj.out.told hg)
              have hwz : w.heap.size ≤ wr.heap.size := RFj.out.bel.size
              clear hTd hTj hTi hoff
              go_wp2_with (at_builtin; refine wpList_append_own_at _ rfl _ _ 34 rfl w.heap.size 50 ip _ 5 40 Try.underlying34 hip hpz hps hpb rfl (by decide) _ k (plCells pl) rfl (HROWX.out _) ⟨wr.heap.size, 0, none⟩ 1 1 [.int .i64 (k : Int), .int .i64 b1, .int .i64 b2, .int .i64 b3, .bool true] (by rfl) rfl (five_new' _ _ _ _ _ _ _) (by simp [Value.oneCell']) (by unfold maxLen; omega) (by omega) (by simp; omega) ?_; intro vv w5 hown5 hgrow5 hnil5 hat5; have HN5 := hide (HNX.out _ _ hgrow5); have HOWN5 := hide hown5; clear hown5 hgrow5 hnil5 hat5)
              go_roundw
              case rel => exact ⟨k + 1, s', A', c', pl ++ [⟨k, b1, b2, b3, true⟩], by omega, rfl, rfl, by rw [HOFF.out], rfl, by go_num, by simp [hpll], HN5.out.1, by show World.ownsRow _ _ _ _ _ _ _; rw [plCells_snoc]; exact HOWN5.out, HPOK2, HRK2, HN5.out.2, HDU2⟩
              case measure => simp [intOf]; omega
            | false =>
              have HXD : Hid (false = true ∨ fz < f) := hide (.inr (by omega))
              have hTd := hTj.out.done HXD.out
              rw [HTT.out] at hTd
              have hoff := tryP_off h k s (fz + 1) 0
              rw [HTT.out, hTd] at hoff
              have HRK2 : Hid (R = ((patchP fz (hs.drop (k + 1)) (k + 1) s').1, (pl ++ [⟨k, b1, b2, b3, false⟩]) ++ (patchP fz (hs.drop (k + 1)) (k + 1) s').2)) := hide (by
                rw [HRK.out, HTT.out, hTd, List.append_assoc]; rfl)
              have HPOK2 : Hid (PtOk s' (k + 1)) := hide (by
                have := PtOk.try HOKK.out (i := k) hpok.out hk1 (fz + 1) 0
                rw [HTT.out, hTd] at this
                exact this)
              have HDU2 : Hid (∃ e, OrdH (hs.drop (k + 1)) e ∧ Due s' e) := hide (by
                have := Due.try (i := k) HDUE.out HOR1.out (fz + 1) 0 (by omega)
                rw [HTT.out, hTd] at this
                exact ⟨_, HOR2.out, this⟩)
              have HOFF : Hid (s.off = s'.off) := hide (by have := hoff.2 rfl; rw [show s' = s from this])
              have HROWX : Hid (∀ ob, (wr.alloc ob).ownsRow w.heap.size 50 5 u9 k (plCells pl)) := hide (fun ob => RFj.out.row.alloc ob)
              have HNX : Hid (∀ ob w5, (wr.alloc ob).grownBy w5 u9.ownBlock → w5.ownsRow w.heap.size 9 1 (.slice A' s'.lst.length c') s'.lst.length (s'.lst.map Value.string) ∧ Below w.heap.size w w5) := hide (fun ob w5 hg => RFj.out.told hg)
              have hwz : w.heap.size ≤ wr.heap.size := RFj.out.bel.size
              clear hTd hTj hTi hoff
              go_wp2_with (at_builtin; refine wpList_append_own_at _ rfl _ _ 34 rfl w.heap.size 50 ip _ 5 40 Try.underlying34 hip hpz hps hpb rfl (by decide) _ k (plCells pl) rfl (HROWX.out _) ⟨wr.heap.size, 0, none⟩ 1 1 [.int .i64 (k : Int), .int .i64 b1, .int .i64 b2, .int .i64 b3, .bool false] (by rfl) rfl (five_new' _ _ _ _ _ _ _) (by simp [Value.oneCell']) (by unfold maxLen; omega) (by omega) (by simp; omega) ?_; intro vv w5 hown5 hgrow5 hnil5 hat5; have HN5 := hide (HNX.out _ _ hgrow5); have HOWN5 := hide hown5; clear hown5 hgrow5 hnil5 hat5)
              go_roundw
              case rel => exact ⟨k + 1, s', A', c', pl ++ [⟨k, b1, b2, b3, false⟩], by omega, rfl, rfl, by rw [HOFF.out], rfl, by go_num, by simp [hpll], HN5.out.1, by show World.ownsRow _ _ _ _ _ _ _; rw [plCells_snoc]; exact HOWN5.out, HPOK2, HRK2, HN5.out.2, HDU2⟩
              case measure => simp [intOf]; omega
    · obtain rfl : k = hs.length := by omega
      have hRk' := hRk.out
      rw [List.drop_of_length_le (Nat.le_refl _), patchP, List.append_nil] at hRk'
      subst hRk'
      obtain ⟨g1, g2, g3, g4, g5, g6, g7⟩ := hpok.out
      have HS := hide (own_strs hown.out g7)
      have HRW := hide (Rd.of_own hrow.out)
      clear g2 g3 g4 g5 g6 g7
      go_wp2_with fail
      go_ret2
      exact ⟨_, _, rfl, HS.out, HRW.out, hbw.out⟩
end Go.Proofs.Ytfjbdbdjhkmifaa
