/- strings.Cut at one byte; partOf. -/
import Derived.Test.YtinpgnekjebipaaDoorUrN
import Derived.Laws.ResultCell
import Derived.Laws.Rows
set_option linter.unusedSimpArgs false
set_option linter.unusedVariables false
namespace Go.Pw
open Go.RowKit
theorem mkB_dataU (l : List UInt8) : (mkB l).data.toList = l := by unfold mkB; simp
theorem ext_left {s : ByteArray} {x y : List UInt8} {b : UInt8} (h : s.data.toList = x ++ b :: y) : s.extract 0 x.length = mkB x ∧ s.extract (x.length + 1) s.size = mkB y := by
  constructor
  · rw [← mkB_list (s.extract 0 x.length), Lib.extract_data, h]; simp
  · rw [← mkB_list (s.extract (x.length + 1) s.size), Lib.extract_data, h]
    congr 1
    have hl := len_size s
    rw [h] at hl
    simp at hl
    rw [List.drop_append, List.drop_of_length_le (by omega), show x.length + 1 - x.length = 1 by omega]
    simp
    exact List.take_of_length_le (by omega)
end Go.Pw
namespace Go.Proofs.YtinpgnekjebipaaDoor
open Go.RowKit Go.Pw
def CutR (s : ByteArray) (b : UInt8) (x y : ByteArray) (c : Bool) : Prop := (c = true ∧ s.data.toList = x.data.toList ++ b :: y.data.toList ∧ ∀ d ∈ x.data.toList, d ≠ b) ∨ (c = false ∧ x = s ∧ y = ⟨#[]⟩ ∧ ∀ d ∈ s.data.toList, d ≠ b)
set_option maxHeartbeats 1000000 in
set_option maxRecDepth 100000 in
theorem cut_one (s : ByteArray) (b : UInt8) (w : World) (hs : s.size ≤ 1000000) :
    Calls Tryd.prog 85 #[.string s, .string ⟨#[b]⟩] w fun e w' => ∃ x y c, e = .returned (.tuple #[.string x, .string y, .bool c]) ∧ CutR s b x y c ∧ ∃ q, w' = w.drewN q := by
  have HIX := hide (fun W => Any.stringslite_Index_one { Tryd.lays145 with } s b W)
  have key : Calls Tryd.prog 102 #[.string s, .string ⟨#[b]⟩] w fun e w' => ∃ x y c, e = .returned (.tuple #[.string x, .string y, .bool c]) ∧ CutR s b x y c ∧ ∃ q, w' = w.drewN q := by
    rcases ixC_split b s.data.toList with ⟨h1, h2⟩ | ⟨x, y, h1, h2, h3⟩
    · rw [h1] at HIX
      have H2 := hide h2
      clear h1 h2
      go_enter Tryd.func102, Tryd.ntmps102
      go_wp2_with fail
      refine (HIX.out w).mono ?_
      rintro e w1 ⟨rfl, rfl⟩
      go_wp2_with fail
      go_ret3
      exact ⟨s, ⟨#[]⟩, false, rfl, .inr ⟨rfl, rfl, rfl, H2.out⟩, 0, rfl⟩
    · rw [h2] at HIX
      obtain ⟨e1, e2⟩ := ext_left h1
      have hl := len_size s
      rw [h1] at hl
      simp at hl
      have H1 := hide h1
      have H3 := hide h3
      have E1 := hide e1
      have E2 := hide e2
      obtain ⟨n, hn⟩ : ∃ n, x.length = n := ⟨_, rfl⟩
      rw [hn] at HIX hl E1 E2
      have hw : IntKind.i64.wrap ((n : Int) + 1) = (n : Int) + 1 := by rw [IntKind.wrap_i64]; omega
      clear h1 h2 h3 e1 e2 hn
      go_enter Tryd.func102, Tryd.ntmps102
      go_wp2_with fail
      refine (HIX.out w).mono ?_
      rintro e w1 ⟨rfl, rfl⟩
      go_wp2_with fail
      go_quiet (fail)
      go_wp2_with fail
      go_ret3
      refine ⟨mkB x, mkB y, true, by rw [← E1.out, ← E2.out]; rfl, .inl ⟨rfl, ?_⟩, _, rfl⟩
      rw [mkB_dataU, mkB_dataU]
      exact ⟨H1.out, H3.out⟩
  have HK := hide key
  clear key HIX
  go_enter Tryd.func85, Tryd.ntmps85
  go_wp2_with fail
  refine HK.out.mono ?_
  rintro e w1 ⟨x, y, c, rfl, hc, q, rfl⟩
  go_wp2_with fail
  go_ret3
  exact ⟨x, y, c, rfl, hc, q, rfl⟩
theorem info_ptU : (Tryd.prog.info? 50).map (·.size) = some 2 := by kernel_rfl
def PtRow (w : World) (b : Nat) (x y : Value) : Prop := w.heap[b]? = some (.cells #[x, y] 50 (0, 0))
theorem PtRow.cells {w : World} {b : Nat} {x y : Value} (h : PtRow w b x y) : w.cell? ⟨b, 0, none⟩ = some x ∧ w.cell? ⟨b, 1, none⟩ = some y := by
  unfold PtRow at h
  simp [World.cell?, h]
theorem PtRow.frozen {w : World} {b : Nat} {x y : Value} (h : PtRow w b x y) (j : Nat) : w.frozen? ⟨b, j, none⟩ = false := by
  unfold PtRow at h
  simp [World.frozen?, h]
theorem results_ptU {fn : Func} {p u : Tmp} (h : fn.results = #[.cell p 50, .tmp u]) (tmps : Array Value) (w : World) (g : Nat) (a0 a1 : Value)
    (hp : tmps.getD p undef = .pointer (some ⟨g, 0, none⟩)) (hg : PtRow w g a0 a1) : (results fn tmps).run Tryd.prog w = .ok (.tuple #[.agg #[a0, a1], tmps.getD u undef]) w := by
  rw [results_cell_tmp h, hp]
  simp [asAddr, run_loadVar_row w g 50 50 #[a0, a1] (0, 0) _ hg Tryd.underlying50 rfl info_ptU, Result.andThen]
/-- what a part is read as -/
def PartR (s : ByteArray) (sg : UInt8) (at_ ct : Int) (ok : Bool) : Prop := inI64 at_ ∧ inI64 ct ∧ ((ok = true ∧ ∃ x p, s.data.toList = sg :: x ∧ Part x p ∧ at_ = p.1 ∧ ct = (p.2 : Int)) ∨ (ok = false ∧ ∀ x p, s.data.toList = sg :: x → ¬ Part x p))
def PartPost (s : ByteArray) (sg : UInt8) (w : World) (e : Ending) (w' : World) : Prop := ∃ a c ok, e = .returned (.tuple #[.agg #[.int .i64 a, .int .i64 c], .bool ok]) ∧ PartR s sg a c ok ∧ Below w.heap.size w w'
theorem part_no {t x y : ByteArray} (hc : CutR t 44 x y false) {n1 : Int} {k1 : Bool} (h1 : NumR x n1 k1) {m : Int} (hm : inI64 m ∧ (0 ≤ n1 → m = n1 - 1)) :
    (k1 = true ∧ ∃ p : Int × Nat, Part t.data.toList p ∧ m = p.1 ∧ (1 : Int) = (p.2 : Int)) ∨ (k1 = false ∧ ∀ p, ¬ Part t.data.toList p) := by
  obtain ⟨-, h1⟩ := h1
  rcases hc with ⟨e, _⟩ | ⟨_, rfl, rfl, hne⟩
  · cases e
  · have hp := part_whole hne
    rcases h1 with ⟨rfl, a, rfl, ha⟩ | ⟨rfl, ha⟩
    · refine .inl ⟨rfl, (atH a 1, 1), (hp _).2 ⟨a, ha, rfl⟩, ?_, rfl⟩
      rw [hm.2 (by omega)]
      unfold atH
      rw [if_neg (by omega)]
    · exact .inr ⟨rfl, fun p h => by obtain ⟨n, hn, _⟩ := (hp p).1 h; exact ha n hn⟩
theorem part_yes {t x y : ByteArray} (hc : CutR t 44 x y true) {n1 : Int} {k1 : Bool} (h1 : NumR x n1 k1) {n2 : Int} {k2 : Bool} (h2 : NumR y n2 k2) {m : Int} (hm : inI64 m ∧ (0 ≤ n1 → m = n1 - 1)) :
    ((k1 && k2) = true ∧ ∃ p : Int × Nat, Part t.data.toList p ∧ (if 0 < n2 then m else n1) = p.1 ∧ n2 = (p.2 : Int)) ∨ ((k1 && k2) = false ∧ ∀ p, ¬ Part t.data.toList p) := by
  obtain ⟨-, h1⟩ := h1
  obtain ⟨-, h2⟩ := h2
  rcases hc with ⟨_, e, hne⟩ | ⟨e, _⟩
  · have hp := part_cut e hne
    rcases h1 with ⟨rfl, a, rfl, ha⟩ | ⟨rfl, ha⟩
    · rcases h2 with ⟨rfl, b, rfl, hb⟩ | ⟨rfl, hb⟩
      · refine .inl ⟨rfl, (atH a b, b), (hp _).2 ⟨a, b, ha, hb, rfl⟩, ?_, rfl⟩
        rw [hm.2 (by omega)]
        unfold atH
        by_cases h0 : b = 0
        · subst h0; simp
        · rw [if_pos (by omega), if_neg h0]
      · exact .inr ⟨rfl, fun p h => by obtain ⟨_, m, _, hm, _⟩ := (hp p).1 h; exact hb m hm⟩
    · exact .inr ⟨rfl, fun p h => by obtain ⟨n, m, hn, hm, _⟩ := (hp p).1 h; exact ha n hn⟩
  · cases e
theorem partR_fin {s t : ByteArray} {sg : UInt8} {pk k : Bool} {a ct : Int} (hpre : (pk = true ∧ s.data.toList = sg :: t.data.toList) ∨ (pk = false ∧ ∀ x, s.data.toList ≠ sg :: x))
    (h : (k = true ∧ ∃ p : Int × Nat, Part t.data.toList p ∧ a = p.1 ∧ ct = (p.2 : Int)) ∨ (k = false ∧ ∀ p, ¬ Part t.data.toList p)) (ha : inI64 a) (hc : inI64 ct) : PartR s sg a ct (pk && k) := by
  refine ⟨ha, hc, ?_⟩
  rcases hpre with ⟨rfl, e⟩ | ⟨rfl, e⟩
  · rcases h with ⟨rfl, p, h1, h2, h3⟩ | ⟨rfl, h⟩
    · exact .inl ⟨rfl, _, p, e, h1, h2, h3⟩
    · exact .inr ⟨rfl, fun x p e2 => by rw [e] at e2; injection e2 with _ e2; rw [← e2]; exact h p⟩
  · exact .inr ⟨rfl, fun x p e2 => absurd e2 (e x)⟩
theorem PtRow.set2 {w : World} {b : Nat} {x y : Value} (h : PtRow w b x y) (u v : Value) : PtRow ((w.setCell ⟨b, 0, none⟩ u).setCell ⟨b, 1, none⟩ v) b u v := by
  unfold PtRow at h ⊢
  simp [World.setCell, Array.getElem?_modify, h]
theorem PtRow.other {w : World} {b c j : Nat} {x y : Value} (h : PtRow w b x y) (hne : b ≠ c) (u : Value) : PtRow (w.setCell ⟨c, j, none⟩ u) b x y := (Below.heap_setCell _ _ _ _ hne).trans h
theorem pre_cases (l : List UInt8) (sg : UInt8) : (∃ x, l = sg :: x ∧ Lib.hasPrefix l [sg] = true ∧ Lib.trimPrefix l [sg] = x) ∨ (Lib.hasPrefix l [sg] = false ∧ Lib.trimPrefix l [sg] = l ∧ ∀ x, l ≠ sg :: x) := by
  cases l with
  | nil => exact .inr ⟨rfl, rfl, fun x e => by cases e⟩
  | cons c x =>
    by_cases h : sg = c
    · subst h
      have hp : Lib.hasPrefix (sg :: x) [sg] = true := by simp [Lib.hasPrefix, List.isPrefixOf]
      exact .inl ⟨x, rfl, hp, by unfold Lib.trimPrefix; rw [if_pos hp]; rfl⟩
    · have hp : Lib.hasPrefix (c :: x) [sg] = false := by simp [Lib.hasPrefix, List.isPrefixOf, h]
      exact .inr ⟨hp, by unfold Lib.trimPrefix; rw [if_neg (by simp [hp])], fun y e => by injection e with e; exact h e.symm⟩
theorem cutR_size {t x y : ByteArray} {b : UInt8} {c : Bool} (h : CutR t b x y c) : x.size ≤ t.size ∧ y.size ≤ t.size := by
  have h1 := len_size t
  have h2 := len_size x
  have h3 := len_size y
  rcases h with ⟨_, e, _⟩ | ⟨_, rfl, rfl, _⟩
  · rw [e] at h1
    simp at h1 h2 h3
    omega
  · exact ⟨Nat.le_refl _, Nat.zero_le _⟩
set_option maxHeartbeats 4000000 in
set_option maxRecDepth 100000 in
theorem partOf_any (s : ByteArray) (sg : UInt8) (w : World) (hs : s.size ≤ 90000) (hP : PowTab w) (hE : ErrT w) :
    Calls Tryd.prog 65 #[.string s, .string ⟨#[sg]⟩] w (PartPost s sg w) := by
  have HN := hide (fun (z : ByteArray) (W : World) (hz : z.size ≤ 90000) (hb : Below w.heap.size w W) => numeral_any z W (by omega) (hP.below hb) (hE.below hb))
  obtain ⟨t, ht⟩ : ∃ t : ByteArray, (⟨(Lib.trimPrefix s.data.toList (⟨#[sg]⟩ : ByteArray).data.toList).toArray⟩ : ByteArray) = t := ⟨_, rfl⟩
  obtain ⟨pk, hpk⟩ : ∃ pk, Lib.hasPrefix s.data.toList (⟨#[sg]⟩ : ByteArray).data.toList = pk := ⟨_, rfl⟩
  have htl : t.data.toList = Lib.trimPrefix s.data.toList [sg] := by rw [← ht]
  have hcp := Tryd.strings_CutPrefix s ⟨#[sg]⟩
  rw [ht, hpk] at hcp
  have HCP := hide hcp
  have hpre : (pk = true ∧ s.data.toList = sg :: t.data.toList) ∨ (pk = false ∧ ∀ x, s.data.toList ≠ sg :: x) := by
    rcases pre_cases s.data.toList sg with ⟨x, h1, h2, h3⟩ | ⟨h1, h2, h3⟩
    · exact .inl ⟨by rw [← hpk]; exact h2, by rw [htl, h3]; exact h1⟩
    · exact .inr ⟨by rw [← hpk]; exact h1, h3⟩
  have htz : t.size ≤ 90000 := by
    have h1 := len_size t
    have h2 := len_size s
    rw [htl] at h1
    unfold Lib.trimPrefix at h1
    split at h1
    · simp at h1; omega
    · omega
  have HPRE := hide hpre
  have HC := hide (fun W => cut_one t 44 W (by omega))
  clear ht hpk htl hcp hpre hP hE
  go_enter Tryd.func65, Tryd.ntmps65
  go_wp2_with fail
  refine (HCP.out _).mono ?_
  rintro e w1 ⟨rfl, rfl⟩
  go_wp2_with fail
  refine (HC.out _).mono ?_
  rintro e w1 ⟨x, y, c, rfl, hc, q, rfl⟩
  have hz := cutR_size hc
  have hx : x.size ≤ 90000 := by omega
  have hy : y.size ≤ 90000 := by omega
  have HCR := hide hc
  have b1 : Below w.heap.size w ((w.alloc (.cells #[.int .i64 0, .int .i64 0] 50)).drewN q) := below_drewN ((Below.refl _ _).alloc (Nat.le_refl _) _) q
  have hr1 : Hid (PtRow ((w.alloc (.cells #[.int .i64 0, .int .i64 0] 50)).drewN q) w.heap.size (.int .i64 0) (.int .i64 0)) := hide (by show (w.alloc _).heap[w.heap.size]? = _; exact heap_alloc_new _ _)
  have hlt1 : w.heap.size < ((w.alloc (.cells #[.int .i64 0, .int .i64 0] 50)).drewN q).heap.size := by show _ < (w.alloc _).heap.size; simp
  generalize ((w.alloc (.cells #[.int .i64 0, .int .i64 0] 50)).drewN q) = w1 at *
  clear hc hz
  go_wp2_with fail
  refine (HN.out x w1 hx b1).mono ?_
  rintro e w2 ⟨n1, k1, rfl, hn1, hb2⟩
  have HN1 := hide hn1
  have hb2' := hide (b1.trans (hb2.mono b1.size))
  have hr2 : Hid (PtRow w2 w.heap.size (.int .i64 0) (.int .i64 0)) := hide ((hb2.block _ hlt1).trans hr1.out)
  have hlt2 : w.heap.size < w2.heap.size := Nat.lt_of_lt_of_le hlt1 hb2.size
  clear hn1 hb2 b1 hr1 hlt1
  have hb3 : Hid (Below w.heap.size w (w2.alloc (.cells #[.int .i64 n1, .int .i64 1] 50))) := hide (hb2'.out.alloc hb2'.out.size _)
  have hr3 : Hid (PtRow (w2.alloc (.cells #[.int .i64 n1, .int .i64 1] 50)) w.heap.size (.int .i64 0) (.int .i64 0)) := hide ((heap_alloc_old _ _ hlt2).trans hr2.out)
  have hp3 : Hid (PtRow (w2.alloc (.cells #[.int .i64 n1, .int .i64 1] 50)) w2.heap.size (.int .i64 n1) (.int .i64 1)) := hide (heap_alloc_new _ _)
  obtain ⟨m, hm⟩ : ∃ m, IntKind.i64.wrap (n1 - 1) = m := ⟨_, rfl⟩
  have hmi : Hid (inI64 m ∧ (0 ≤ n1 → m = n1 - 1)) := hide (by
    have := HN1.out.1
    unfold inI64 at this ⊢
    rw [← hm, IntKind.wrap_i64]
    omega)
  obtain ⟨N, hN⟩ : ∃ N, w.heap.size = N := ⟨_, rfl⟩
  have hbN : Hid (N = w.heap.size) := hide hN.symm
  rw [hN] at hr3 hlt2 ⊢
  clear hr2 hb2'
  go_upto_region 5 with fail
  generalize w2.alloc (.cells #[.int .i64 n1, .int .i64 1] 50) = W3 at *
  generalize w2.heap.size = P at *
  cases c with
  | false =>
    obtain ⟨r0, r1⟩ := hr3.out.cells
    obtain ⟨p0, p1⟩ := hp3.out.cells
    have rz0 := hr3.out.frozen 0
    have rz1 := hr3.out.frozen 1
    have pz0 := hp3.out.frozen 0
    have s0 : ∀ j u, (W3.setCell ⟨P, 0, none⟩ u).cell? ⟨N, j, none⟩ = W3.cell? ⟨N, j, none⟩ := fun j u => World.cell?_setCell_other _ _ _ _ (by simp <;> omega)
    have s1 := (s0 0 (.int .i64 m)).trans r0
    have s2 := (s0 1 (.int .i64 m)).trans r1
    clear s0
    have HRES := hide (partR_fin HPRE.out (part_no HCR.out HN1.out hmi.out) hmi.out.1 ⟨by decide, by decide⟩)
    have hNP : N ≠ P := by omega
    cases pk
    all_goals
      cases k1
    all_goals
      go_wp2_with fail
      refine bodyPost_ret (results_ptU rfl _ _ N _ _ rfl (PtRow.set2 (hr3.out.other hNP _) _ _)) rfl ?_
      refine ⟨m, 1, _, rfl, HRES.out, ?_⟩
      have hNe := hbN.out
      exact ((hb3.out.setCell (by show _ ≤ P; omega) _).setCell (by show _ ≤ N; omega) _).setCell (by show _ ≤ N; omega) _
  | true =>
    go_wp2_with fail
    have hb3' : Below w.heap.size w W3 := hb3.out
    refine (HN.out y W3 hy hb3').mono ?_
    rintro e w4 ⟨n2, k2, rfl, hn2, hb4⟩
    have hlt3 : P < W3.heap.size := (Array.getElem?_eq_some_iff.1 hp3.out).1
    have hres := partR_fin HPRE.out (part_yes HCR.out HN1.out hn2 hmi.out) (by split; exact hmi.out.1; exact HN1.out.1) hn2.1
    have HN2 := hide hn2.1
    have hr4 : Hid (PtRow w4 N (.int .i64 0) (.int .i64 0)) := hide ((hb4.block _ (by omega)).trans hr3.out)
    have hp4 : Hid (PtRow w4 P (.int .i64 n1) (.int .i64 1)) := hide ((hb4.block _ hlt3).trans hp3.out)
    have hb5 : Hid (Below w.heap.size w w4) := hide (hb3'.trans (hb4.mono hb3'.size))
    clear hb3' hb4 hn2 hr3 hp3 hb3 hlt3
    obtain ⟨r0, r1⟩ := hr4.out.cells
    obtain ⟨p0, p1⟩ := hp4.out.cells
    have rz0 := hr4.out.frozen 0
    have rz1 := hr4.out.frozen 1
    have pz0 := hp4.out.frozen 0
    have pz1 := hp4.out.frozen 1
    have s0 : ∀ j i u, (w4.setCell ⟨P, i, none⟩ u).cell? ⟨N, j, none⟩ = w4.cell? ⟨N, j, none⟩ := fun j i u => World.cell?_setCell_other _ _ _ _ (by simp <;> omega)
    have t0 : ∀ j u, ((w4.setCell ⟨P, 1, none⟩ u).setCell ⟨P, 0, none⟩ (.int .i64 m)).cell? ⟨N, j, none⟩ = w4.cell? ⟨N, j, none⟩ := fun j u => (World.cell?_setCell_other _ _ _ _ (by simp <;> omega)).trans (s0 j 1 u)
    have s1 := (s0 0 1 (.int .i64 n2)).trans r0
    have s2 := (s0 1 1 (.int .i64 n2)).trans r1
    have s3 := (t0 0 (.int .i64 n2)).trans r0
    have s4 := (t0 1 (.int .i64 n2)).trans r1
    have hNP : N ≠ P := by omega
    clear s0 t0
    have hNe := hbN.out
    by_cases h2 : 0 < n2
    · rw [if_pos h2] at hres
      have h2' : decide (0 < n2) = true := by simpa using h2
      have HRES := hide hres
      have HQ : Hid (PtRow ((((w4.setCell ⟨P, 1, none⟩ (.int .i64 n2)).setCell ⟨P, 0, none⟩ (.int .i64 m)).setCell ⟨N, 0, none⟩ (.int .i64 m)).setCell ⟨N, 1, none⟩ (.int .i64 n2)) N (.int .i64 m) (.int .i64 n2)) := hide (PtRow.set2 ((hr4.out.other hNP _).other hNP _) _ _)
      have HB : Hid (Below w.heap.size w ((((w4.setCell ⟨P, 1, none⟩ (.int .i64 n2)).setCell ⟨P, 0, none⟩ (.int .i64 m)).setCell ⟨N, 0, none⟩ (.int .i64 m)).setCell ⟨N, 1, none⟩ (.int .i64 n2))) := hide ((((hb5.out.setCell (by show _ ≤ P; omega) _).setCell (by show _ ≤ P; omega) _).setCell (by show _ ≤ N; omega) _).setCell (by show _ ≤ N; omega) _)
      clear hres hNe
      cases pk
      all_goals
        cases k1
      all_goals
        cases k2
      all_goals
        go_wp2_with fail
        refine bodyPost_ret (results_ptU rfl _ _ N _ _ rfl HQ.out) rfl ?_
        exact ⟨m, n2, _, rfl, HRES.out, HB.out⟩
    · rw [if_neg h2] at hres
      have h2' : decide (0 < n2) = false := by simpa using h2
      have HRES := hide hres
      have HQ : Hid (PtRow (((w4.setCell ⟨P, 1, none⟩ (.int .i64 n2)).setCell ⟨N, 0, none⟩ (.int .i64 n1)).setCell ⟨N, 1, none⟩ (.int .i64 n2)) N (.int .i64 n1) (.int .i64 n2)) := hide (PtRow.set2 (hr4.out.other hNP _) _ _)
      have HB : Hid (Below w.heap.size w (((w4.setCell ⟨P, 1, none⟩ (.int .i64 n2)).setCell ⟨N, 0, none⟩ (.int .i64 n1)).setCell ⟨N, 1, none⟩ (.int .i64 n2))) := hide (((hb5.out.setCell (by show _ ≤ P; omega) _).setCell (by show _ ≤ N; omega) _).setCell (by show _ ≤ N; omega) _)
      clear hres hNe
      cases pk
      all_goals
        cases k1
      all_goals
        cases k2
      all_goals
        go_wp2_with fail
        refine bodyPost_ret (results_ptU rfl _ _ N _ _ rfl HQ.out) rfl ?_
        exact ⟨n1, n2, _, rfl, HRES.out, HB.out⟩
end Go.Proofs.YtinpgnekjebipaaDoor
