/- ParseUnified: the walk. -/
import Derived.Test.YtinpgnekjebipaaDoorUrG
set_option linter.unusedSimpArgs false
set_option linter.unusedVariables false
namespace Go.Pw
theorem rest_cur (u : Un) (h : u.rest.opn = false) : u.rest.cur = none := by
  unfold Un.rest at h ⊢
  split
  · rename_i h1; rw [if_pos h1] at h; rw [h] at h1; cases h1
  · rfl
end Go.Pw
namespace Go.Proofs.YtinpgnekjebipaaDoor
open Go.RowKit Go.Pw
def ParsePost (s : ByteArray) (w : World) (e : Ending) (w' : World) : Prop := ∃ v, e = .returned (.tuple #[v, .int .i64 ((urRes hdS s).2.1 : Int), .int .i64 (urRes hdS s).2.2]) ∧ Hunks w' v (urRes hdS s).1 ∧ Below w.heap.size w w'
theorem hunks_nilU (w : World) : Hunks w (.slice none 0 0) [] := ⟨[], rfl, Rd.nil _ _, by simp, fun i h o n e => by simp at e⟩
def unZ : Array Value := #[.slice none 0 0, .int .i64 0, .int .i64 0, .int .i64 0, .int .i64 0, .int .i64 0, .int .i64 0, .pointer none, .slice none 0 0, .bool false]
theorem parse_start {w w1 : World} {U : Nat} (hU : w.heap.size = U) {L : List ByteArray} {v : Value} (h : LinesRes 9 (w.alloc (.cells unZ 53)) L v w1) :
    Below w.heap.size w w1 ∧ UnIn w1 w1 U .zero ∧ ∃ A, v = .slice A L.length L.length ∧ ∀ k x, L[k]? = some x → A = some ⟨U + 1, 0, none⟩ ∧ U + 1 < w1.heap.size ∧ w1.cell? ⟨U + 1, k, none⟩ = some (.string x) := by
  have hb := linesRes_below h
  have hz : (w.alloc (.cells unZ 53)).heap.size = U + 1 := by simp [hU]
  have hb1 : Below w.heap.size w w1 := ((Below.refl _ _).alloc (Nat.le_refl _) _).trans (hb.mono (by omega))
  have hlt : U < w1.heap.size := by have := hb.size; omega
  have hbox : w1.heap[U]? = some (.cells unZ 53 (0, 0)) := (hb.block U (by omega)).trans (hU ▸ heap_alloc_new w (.cells unZ 53))
  refine ⟨hb1, ⟨.slice none 0 0, .slice none 0 0, [], ⟨ButU.refl _ _, hlt, hbox, HkOwn.zero _ _ _ _⟩⟩, ?_⟩
  obtain ⟨A, hA⟩ := linesRes_len h
  refine ⟨A, hA, fun k x hx => ?_⟩
  have hk := (List.getElem?_eq_some_iff.1 hx).1
  obtain ⟨e1, e2⟩ := linesRes_row h (by omega)
  rw [hA, hz] at e1
  injection e1 with e1
  rcases h with ⟨e, _⟩ | ⟨_, _, rfl⟩
  · rw [e] at hk; simp at hk
  · refine ⟨e1, by simp [hU], ?_⟩
    have := World.cell?_alloc_new (w.alloc (.cells unZ 53)) (L.map Value.string).toArray 9 k
    rw [hz] at this
    rw [this]
    simp [hx]
set_option maxHeartbeats 8000000 in
set_option maxRecDepth 100000 in
theorem parse_any (s : ByteArray) (w : World) (hmax : s.size ≤ maxLen) (hP : PowTab w) (hE : ErrT w) : Calls Tryd.prog 12 #[.string s] w (ParsePost s w) := by
  unfold maxLen at hmax
  by_cases hbig : 65536 < s.size
  · have hr : urRes hdS s = ([], 0, 2) := if_pos hbig
    have HR := hide hr
    have hb' : (65536 : Int) < (s.size : Int) := by omega
    clear hr hP hE
    go_enter Tryd.func12, Tryd.ntmps12
    go_wp2_with fail
    go_ret3
    exact ⟨.slice none 0 0, by rw [HR.out]; rfl, by rw [HR.out]; exact hunks_nilU w, Below.refl _ _⟩
  · obtain ⟨L, hL⟩ : ∃ L, linesOf s = L := ⟨_, rfl⟩
    obtain ⟨R, hR⟩ : ∃ R, urRun hdS L 0 .zero = R := ⟨_, rfl⟩
    have hrs : urRes hdS s = urEnd R := by unfold urRes; rw [if_neg hbig, hL, hR]
    have HRS := hide hrs
    have hb' : ¬ (65536 : Int) < (s.size : Int) := by omega
    obtain ⟨hln, hlz⟩ := linesOf_bound s
    rw [hL] at hln hlz
    have hlz' : ∀ x ∈ L, x.size ≤ 65536 := fun x hx => by have := hlz x hx; omega
    have HLZ := hide hlz'
    have hLn : L.length ≤ 65537 := by omega
    have HLIN := hide (fun W => dlines_any s W (by omega))
    rw [hL] at HLIN
    have HR := hide hR
    have HPT := hide hP
    have HET := hide hE
    obtain ⟨U, hU⟩ : ∃ U, w.heap.size = U := ⟨_, rfl⟩
    have HU := hide hU
    obtain ⟨PST, hPST⟩ : ∃ P, ParsePost s w = P := ⟨_, rfl⟩
    have HPST := hide hPST
    rw [hPST]
    clear hrs hlz hlz' hln hR hP hE hPST hL
    go_enter Tryd.func12, Tryd.ntmps12
    go_wp2_with fail
    refine (HLIN.out _).mono ?_
    rintro e w1 ⟨v, rfl, hlr⟩
    obtain ⟨hb1, hun, A, rfl, hcl⟩ := parse_start hU hlr
    have HB1 := hide hb1
    have HUN := hide hun
    have HCL := hide hcl
    clear hlr hb1 hun hcl hU
    go_wp2_with fail
    go_loopw [20] (fun i wr => ∃ (k : Nat) (u : Un), k ≤ L.length ∧ i = .int .i64 (k : Int) ∧ Hid (UnIn w1 wr U u) ∧ Hid (UnOk u k) ∧ Hid (R = urRun hdS (L.drop k) k u) ∧ Hid (u.opn = false → u.cur = none)) (fun i _ => L.length - (intOf i).toNat)
    case atStart => exact ⟨0, .zero, Nat.zero_le _, rfl, HUN, hide UnOk.zero, hide (by rw [List.drop_zero]; exact HR.out.symm), hide (fun _ => rfl)⟩
    case round =>
      obtain ⟨k, u, hk, rfl, hin, hok, hrr, hcur⟩ := hrel
      have hoc : u.oc ≤ 3000000 := by have := hok.out.o1; have := hok.out.o2; omega
      have hnc : u.nc ≤ 3000000 := by have := hok.out.n1; have := hok.out.n2; omega
      have HOP := hide (open_any hin.out hoc hnc)
      have HBW : Hid (Below w.heap.size w wr) := hide (by
        obtain ⟨_, _, _, h1⟩ := hin.out
        exact (UnMem.bel h1).out HB1.out (by rw [HU.out]; exact Nat.le_refl _))
      clear hoc hnc
      by_cases hlt : k < L.length
      · obtain ⟨x, hx⟩ : ∃ x, L[k] = x := ⟨_, rfl⟩
        have hxs : x.size ≤ 65536 := by rw [← hx]; exact HLZ.out _ (List.getElem_mem hlt)
        obtain ⟨e1, hU1, hc1⟩ := HCL.out k L[k] (List.getElem?_eq_getElem hlt)
        subst e1
        have hcell : wr.cell? ⟨U + 1, k, none⟩ = some (.string x) := by
          obtain ⟨_, _, _, h1⟩ := hin.out
          rw [World.cell?_of_block (w := w1) ((UnMem.bel h1).block (U + 1) hU1 (by omega)), hc1, hx]
        have hrr2 := hrr.out
        rw [List.drop_eq_getElem_cons hlt, hx, urRun] at hrr2
        clear hx hc1 hrr
        go_wp2_with fail
        refine HOP.out.mono ?_
        rintro e w2 ⟨rfl, q, rfl⟩
        have hdr : Below wr.heap.size wr (wr.drewN q) := below_drewN (Below.refl _ _) q
        have HIN2 := hide (hin.out.below hdr)
        have HB2 := hide (HBW.out.trans (hdr.mono HBW.out.size))
        clear hdr HBW HOP hin
        generalize wr.drewN q = w2 at *
        have hk8 : k ≤ 800000 := by omega
        cases hop : u.opn with
        | true =>
          rw [hop, if_pos rfl] at hrr2
          have HRR := hide hrr2
          clear hrr2 hop hcur
          go_wp2_with fail
          refine (line_any HIN2.out hok.out hk8 x (by omega)).mono ?_
          rintro e w3 (⟨hst, rfl, hb3⟩ | ⟨u2, hst, rfl, hin3⟩)
          · have hre := HRR.out
            rw [hst] at hre
            have HRE : Hid (urRes hdS s = ([], k, 1)) := hide (by rw [HRS.out, hre]; rfl)
            have HB3 := hide (HB2.out.trans (hb3.mono HB2.out.size))
            clear hst hb3 hre HRR
            go_wp2_with fail
            go_ret3
            rw [← HPST.out]
            exact ⟨.slice none 0 0, by rw [HRE.out]; rfl, by rw [HRE.out]; exact hunks_nilU _, HB3.out⟩
          · have hre := HRR.out
            rw [hst] at hre
            have HRE := hide hre
            have HIN3 := hide hin3
            have HOK3 := hide (UnOk.rest (hok.out.step (by omega) (by omega) hst))
            have HC3 := hide (rest_cur u2)
            clear hst hin3 hre HRR
            go_wp2_with fail
            go_roundw
            case rel => exact ⟨k + 1, u2.rest, by omega, by go_num, HIN3, HOK3, HRE, HC3⟩
            case measure => simp [intOf]; omega
        | false =>
          rw [hop, if_neg (by simp)] at hrr2
          have HRR := hide hrr2
          clear hrr2 hop hcur
          go_wp2_with fail
          refine (begin_U HIN2.out hok.out hk8 x (by omega) (HPT.out.below HB2.out) (HET.out.below HB2.out)).mono ?_
          rintro e w3 (⟨hst, rfl, hb3⟩ | ⟨g, hst, ho, rfl, hb3⟩ | ⟨g, hst, ho, rfl, hin3⟩)
          · have hre := HRR.out
            rw [hst] at hre
            have HRE : Hid (urRes hdS s = ([], k, 1)) := hide (by rw [HRS.out, hre]; rfl)
            have HB3 := hide (HB2.out.trans (hb3.mono HB2.out.size))
            clear hst hb3 hre HRR
            go_wp2_with fail
            go_ret3
            rw [← HPST.out]
            exact ⟨.slice none 0 0, by rw [HRE.out]; rfl, by rw [HRE.out]; exact hunks_nilU _, HB3.out⟩
          · have hre := HRR.out
            rw [hst] at hre
            dsimp only at hre
            rw [if_pos ho] at hre
            have HRE : Hid (urRes hdS s = ([], 0, 9)) := hide (by rw [HRS.out, hre]; rfl)
            have HB3 := hide (HB2.out.trans (hb3.mono HB2.out.size))
            clear hst hb3 hre HRR ho
            go_wp2_with fail
            go_ret3
            rw [← HPST.out]
            exact ⟨.slice none 0 0, by rw [HRE.out]; rfl, by rw [HRE.out]; exact hunks_nilU _, HB3.out⟩
          · have hre := HRR.out
            rw [hst] at hre
            dsimp only at hre
            rw [if_neg ho] at hre
            have HRE := hide hre
            have HIN3 := hide hin3
            have HOK3 := hide ((UnOk.rest (hok.out.start (hdS_ok _ _ hst) ho)).mono (Nat.le_succ k))
            have HC3 := hide (rest_cur (u.start g))
            clear hst hin3 hre HRR ho
            go_wp2_with fail
            go_roundw
            case rel => exact ⟨k + 1, (u.start g).rest, by omega, by go_num, HIN3, HOK3, HRE, HC3⟩
            case measure => simp [intOf]; omega
      · obtain rfl : k = L.length := by omega
        have hrr2 := hrr.out
        rw [List.drop_of_length_le (Nat.le_refl _), urRun] at hrr2
        clear hrr
        go_wp2_with fail
        refine HOP.out.mono ?_
        rintro e w2 ⟨rfl, q, rfl⟩
        have hdr : Below wr.heap.size wr (wr.drewN q) := below_drewN (Below.refl _ _) q
        have HIN2 := hide (hin.out.below hdr)
        have HB2 := hide (HBW.out.trans (hdr.mono HBW.out.size))
        clear hdr HBW HOP hin
        generalize wr.drewN q = w2 at *
        cases hop : u.opn with
        | true =>
          rw [hop, if_pos rfl] at hrr2
          have HRE : Hid (urRes hdS s = ([], L.length, 1)) := hide (by rw [HRS.out, hrr2]; rfl)
          clear hrr2 hop hcur
          go_wp2_with fail
          go_ret3
          rw [← HPST.out]
          exact ⟨.slice none 0 0, by rw [HRE.out]; rfl, by rw [HRE.out]; exact hunks_nilU _, HB2.out⟩
        | false =>
          rw [hop, if_neg (by simp)] at hrr2
          have hcn := hcur.out hop
          have hres : urRes hdS s = if u.large then ([], 0, 2) else (u.fin, 0, 0) := by rw [HRS.out, hrr2]; rfl
          have HRE := hide hres
          obtain ⟨hv, cv, vs, hat⟩ := HIN2.out
          obtain ⟨c0, c1, c2, c3, c4, c5, c6, c7, c8, c9⟩ := hat.cells
          have hall : u.all = u.fin := by simp [Un.all, hcn]
          have hown := UnMem.own hat
          rw [hall] at hown
          have hoks := hok.out.hs
          rw [hall] at hoks
          have hfl : u.fin.length ≤ 65537 := by have := hok.out.n; rw [hall] at this; omega
          have hrd := hown.read (fun h hh => ⟨(hoks h hh).1, fun t ht => by have := (hoks h hh).2.1.2 t ht; unfold maxLen; omega, fun t ht => by have := (hoks h hh).2.2.2 t ht; unfold maxLen; omega⟩)
          have HRD := hide hrd
          obtain ⟨HA, hc, rfl⟩ := own_fmU hown.row
          obtain ⟨n, hn⟩ : ∃ n, u.fin.length = n := ⟨_, rfl⟩
          rw [hn] at c0 HRD hfl
          obtain ⟨lg, hlg⟩ : ∃ b, u.long = b := ⟨_, rfl⟩
          rw [hlg] at c9
          have HLG : Hid (u.large = (lg || decide (1000 < n) || u.fin.any hkBig)) := hide (by unfold Un.large; rw [hn, hlg])
          have HCF := hide (containsLargeU _ _ w2 HRD.out (by omega))
          clear hrr2 hop hcur hres hat c1 c2 c3 c4 c5 c6 c7 c8 hall hown hoks hrd hcn hn hlg
          cases lg with
          | true =>
            have HRE2 : Hid (urRes hdS s = ([], 0, 2)) := hide (by rw [HRE.out, HLG.out]; rfl)
            clear HCF HRE HLG
            go_wp2_with fail
            go_ret3
            rw [← HPST.out]
            exact ⟨.slice none 0 0, by rw [HRE2.out]; rfl, by rw [HRE2.out]; exact hunks_nilU _, HB2.out⟩
          | false =>
            by_cases hn1 : 1000 < n
            · have hn2 : (1000 : Int) < (n : Int) := by omega
              have HRE2 : Hid (urRes hdS s = ([], 0, 2)) := hide (by rw [HRE.out, HLG.out]; simp [hn1])
              clear HCF HRE HLG hn1
              go_wp2_with fail
              go_ret3
              rw [← HPST.out]
              exact ⟨.slice none 0 0, by rw [HRE2.out]; rfl, by rw [HRE2.out]; exact hunks_nilU _, HB2.out⟩
            · have hn2 : ¬ (1000 : Int) < (n : Int) := by omega
              have HN1 := hide hn1
              clear hn1
              have HCELL : Hid (∀ w3, Below w2.heap.size w2 w3 → w3.cell? ⟨U, 0, none⟩ = some (.slice HA n hc)) := hide (fun w3 hb => (hb.cell (World.block_lt_of_cell? w2 ⟨U, 0, none⟩ c0)).trans c0)
              cases hbg : u.fin.any hkBig with
              | true =>
                have HRE2 : Hid (urRes hdS s = ([], 0, 2)) := hide (by rw [HRE.out, HLG.out, hbg]; simp)
                rw [hbg] at HCF
                clear HRE HLG hbg
                go_wp2_with fail
                refine HCF.out.mono ?_
                rintro e w3 ⟨rfl, hb3⟩
                have HB3 := hide (HB2.out.trans (hb3.mono HB2.out.size))
                clear hb3
                go_wp2_with fail
                go_ret3
                rw [← HPST.out]
                exact ⟨.slice none 0 0, by rw [HRE2.out]; rfl, by rw [HRE2.out]; exact hunks_nilU _, HB3.out⟩
              | false =>
                have HRE2 : Hid (urRes hdS s = (u.fin, 0, 0)) := hide (by
                  have := HN1.out
                  rw [HRE.out, HLG.out, hbg]
                  simp; omega)
                rw [hbg] at HCF
                clear HRE HLG hbg
                go_wp2_with fail
                refine HCF.out.mono ?_
                rintro e w3 ⟨rfl, hb3⟩
                have HB3 := hide (HB2.out.trans (hb3.mono HB2.out.size))
                have c3 := HCELL.out w3 hb3
                have HR3 := hide (HRD.out.below hb3)
                clear hb3 HCELL c0
                go_wp2_with fail
                go_ret3
                rw [← HPST.out]
                exact ⟨_, by rw [HRE2.out]; rfl, by rw [HRE2.out]; exact HR3.out, HB3.out⟩
end Go.Proofs.YtinpgnekjebipaaDoor
