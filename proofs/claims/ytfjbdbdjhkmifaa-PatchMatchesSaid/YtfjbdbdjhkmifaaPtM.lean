/- delta.Patch. -/
import Derived.Test.YtfjbdbdjhkmifaaPtL
set_option linter.unusedVariables false
set_option linter.unusedSimpArgs false
namespace Go.Proofs.Ytfjbdbdjhkmifaa
open Go.RowKit Go.Pw
theorem strsL_1 (w : World) (va : Value) (a : List ByteArray) (t : TypeId) (ha : Strs w va a) : StrsL (w.alloc (.cells #[va] t)) (.slice (some ⟨w.heap.size, 0, none⟩) 1 1) [a] := by
  refine ⟨[va], rfl, ⟨by simp, _, 1, rfl, Nat.le_refl _, by unfold maxLen; omega, fun _ => ⟨w.heap.size, 0, rfl, by simp, fun j u hu => ?_⟩⟩, ?_⟩
  · rw [World.cell?_alloc_new]
    simpa using hu
  · intro i u l hu hl
    match i, hu, hl with
    | 0, hu, hl => simp at hu hl; subst hu hl; exact ha.alloc _
    | j + 1, hu, _ => simp at hu
theorem lists_1 (a : List ByteArray) : listsErr [a] = listErr a := by
  unfold listsErr
  simp only [List.map_cons, List.map_nil, firstNZ]
  split
  · rename_i h; exact h.symm
  · rfl
theorem withinD_any (n lo hi : Int) (w : World) : Calls Try.prog 47 #[.int .i64 n, .int .i64 lo, .int .i64 hi] w fun e w' => e = .returned (.bool (decide (lo ≤ n ∧ n ≤ hi))) ∧ w = w' := by
  by_cases h1 : lo ≤ n
  · by_cases h2 : n ≤ hi
    · have HD : Hid (decide (lo ≤ n ∧ n ≤ hi) = true) := hide (by simp [h1, h2])
      go_enter Try.func47, Try.ntmps47
      go_wp2
      go_ret
      exact ⟨by first | (rw [HD.out]; rfl) | rfl, rfl⟩
    · have HD : Hid (decide (lo ≤ n ∧ n ≤ hi) = false) := hide (by simp [h2])
      have h2' : decide (n ≤ hi) = false := by simpa using h2
      go_enter Try.func47, Try.ntmps47
      go_wp2
      go_ret
      exact ⟨by first | (rw [HD.out]; rfl) | rfl, rfl⟩
  · have HD : Hid (decide (lo ≤ n ∧ n ≤ hi) = false) := hide (by simp [h1])
    have h1' : decide (lo ≤ n) = false := by simpa using h1
    go_enter Try.func47, Try.ntmps47
    go_wp2
    go_ret
    exact ⟨by first | (rw [HD.out]; rfl) | rfl, rfl⟩
/-- the cells of places -/
def plCells (l : List Pl) : List Value := l.flatMap fun p => [.int .i64 (p.hunk : Int), .int .i64 p.line, .int .i64 p.off, .int .i64 p.fuzz, .bool p.done]
theorem plCells_snoc (l : List Pl) (p : Pl) : plCells (l ++ [p]) = plCells l ++ [.int .i64 (p.hunk : Int), .int .i64 p.line, .int .i64 p.off, .int .i64 p.fuzz, .bool p.done] := by simp [plCells]
theorem plCells_length (l : List Pl) : (plCells l).length = l.length * 5 := by
  induction l with
  | nil => rfl
  | cons p l ih => simp only [plCells, List.flatMap_cons, List.length_append, List.length_cons, List.length_nil] at ih ⊢; omega
theorem five_new' (w : World) (a b c d e : Value) (t : TypeId) : ∀ (j : Nat) (u : Value), [a, b, c, d, e][j]? = some u → (w.alloc (.cells #[a, b, c, d, e] t)).cell? (Addr.add ⟨w.heap.size, 0, none⟩ j) = some u
  | 0, u, h => by simp at h; subst h; simp [Addr.add, World.cell?_alloc_new]
  | 1, u, h => by simp at h; subst h; simp [Addr.add, World.cell?_alloc_new]
  | 2, u, h => by simp at h; subst h; simp [Addr.add, World.cell?_alloc_new]
  | 3, u, h => by simp at h; subst h; simp [Addr.add, World.cell?_alloc_new]
  | 4, u, h => by simp at h; subst h; simp [Addr.add, World.cell?_alloc_new]
  | j + 5, u, h => by simp at h
theorem info_placeF : (Try.prog.info? 50).map (fun i => (i.zero, i.size, i.bytes)) = some (some (.agg #[.int .i64 0, .int .i64 0, .int .i64 0, .int .i64 0, .bool false]), 5, 40) := by kernel_rfl
/-- the inner loop: what is tried so far -/
def TryAt (h : Hk) (i : Nat) (s : Pt) (fz f : Nat) (s' : Pt) (a1 a2 a3 : Int) (d : Bool) : Prop :=
  (d = false ∧ s' = s ∧ a1 = 0 ∧ a2 = 0 ∧ a3 = 0 ∧ tryP h i s 0 (fz + 1) = tryP h i s f (fz + 1 - f)) ∨ (d = true ∧ tryP h i s 0 (fz + 1) = (s', ⟨i, a1, a2, a3, true⟩))
theorem TryAt.done {h : Hk} {i : Nat} {s s' : Pt} {fz f : Nat} {a1 a2 a3 : Int} {d : Bool} (ht : TryAt h i s fz f s' a1 a2 a3 d) (hx : d = true ∨ fz < f) : tryP h i s 0 (fz + 1) = (s', ⟨i, a1, a2, a3, d⟩) := by
  rcases ht with ⟨rfl, rfl, rfl, rfl, rfl, e⟩ | ⟨rfl, e⟩
  · rcases hx with hx | hx
    · cases hx
    · rw [e, show fz + 1 - f = 0 by omega]; rfl
  · exact e
theorem TryAt.miss {h : Hk} {i : Nat} {s s' : Pt} {fz f : Nat} {a1 a2 a3 : Int} (ht : TryAt h i s fz f s' a1 a2 a3 false) (hf : f ≤ fz) (hp : putP h f s = none) : TryAt h i s fz (f + 1) s 0 0 0 false := by
  rcases ht with ⟨_, rfl, rfl, rfl, rfl, e⟩ | ⟨h1, _⟩
  · refine .inl ⟨rfl, rfl, rfl, rfl, rfl, ?_⟩
    rw [e, show fz + 1 - f = (fz + 1 - (f + 1)) + 1 by omega, tryP, hp]
  · cases h1
theorem TryAt.hit {h : Hk} {i : Nat} {s s' : Pt} {fz f k : Nat} {a1 a2 a3 : Int} (ht : TryAt h i s fz f s' a1 a2 a3 false) (hf : f ≤ fz) (hp : putP h f s = some k) : TryAt h i s fz (f + 1) (putAt h f s k) k (k - Pw.due h f s) f true := by
  rcases ht with ⟨_, rfl, rfl, rfl, rfl, e⟩ | ⟨h1, _⟩
  · refine .inr ⟨rfl, ?_⟩
    rw [e, show fz + 1 - f = (fz + 1 - (f + 1)) + 1 by omega, tryP, hp]
  · cases h1
theorem own_offA {w w' : World} {base e size n : Nat} {v : Value} {xs : List Value} (h : w.ownsRow base e size v n xs) (hb : ∀ g, v.ownBlock = some g → w'.heap[g]? = w.heap[g]?) : w'.ownsRow base e size v n xs := by
  refine ⟨h.1, ?_⟩
  rcases h.2 with h2 | ⟨g, cap, cur, hv, hg, hh, r⟩
  · exact .inl h2
  · exact .inr ⟨g, cap, cur, hv, hg, (hb g (by rw [hv]; rfl)).trans hh, r⟩
theorem own_offS {w w' : World} {base e size n pb : Nat} {v v0 : Value} {del off fin : Int} {xs : List Value} (h : w.ownsRow base e size v n xs) (he : e ≠ 9) (hp : PatAt w pb v0 del off fin) (hep : e ≠ 92) (ho : OffS w w' pb) : w'.ownsRow base e size v n xs := by
  refine ⟨h.1, ?_⟩
  rcases h.2 with h2 | ⟨g, cap, cur, hv, hg, hh, r⟩
  · exact .inl h2
  · exact .inr ⟨g, cap, cur, hv, hg, (ho g cur e (0, 0) (fun e1 => by subst e1; rw [show w.heap[g]? = _ from hp] at hh; injection hh with hh; injection hh with _ hh; exact hep hh.symm) hh he).trans hh, r⟩
/-- a place is told -/
theorem row_next {w wj w5 : World} {pb N k : Nat} {s' : Pt} {A' : Option Addr} {c' : Nat} {u : Value} {pl : List Pl} {b1 b2 b3 : Int} {d : Bool} {ob : Obj}
    (hpat : PatAt wj pb (.slice A' s'.lst.length c') s'.del s'.off s'.fin) (hown : wj.ownsRow w.heap.size 9 1 (.slice A' s'.lst.length c') s'.lst.length (s'.lst.map Value.string)) (hrow : wj.ownsRow w.heap.size 50 5 u k (plCells pl)) (hpl : PlAt wj (N + 1) (.int .i64 0) (.int .i64 b1) (.int .i64 b2) (.int .i64 b3) (.bool d))
    (hb : Below w.heap.size w wj) (hpbN : pb < N) (hNs : w.heap.size ≤ N) (hz : N + 2 ≤ wj.heap.size) (hg5 : ((wj.setCell ⟨N + 1, 0, none⟩ (.int .i64 (k : Int))).alloc ob).grownBy w5 u.ownBlock) :
    PatAt w5 pb (.slice A' s'.lst.length c') s'.del s'.off s'.fin ∧ w5.ownsRow w.heap.size 9 1 (.slice A' s'.lst.length c') s'.lst.length (s'.lst.map Value.string) ∧ Below w.heap.size w w5 := by
  have key : ∀ g, g ≠ N + 1 → g < wj.heap.size → u.ownBlock ≠ some g → w5.heap[g]? = wj.heap[g]? := fun g h1 h2 h3 => by
    have hz1 : (wj.setCell ⟨N + 1, 0, none⟩ (.int .i64 (k : Int))).heap.size = wj.heap.size := by simp [World.setCell]
    have e1 := hg5.block g (by simp [hz1]; omega) (fun e => h3 e.symm)
    rw [e1, heap_alloc_old _ _ (by rw [hz1]; exact h2)]
    exact heap_setCell_other _ _ _ _ h1
  refine ⟨(key pb (by omega) hpat.lt (own_type' hrow hpat (by decide))).trans hpat, own_off hown fun g hg => key g (fun e => own_type' hown hpl (by decide) (by rw [hg, e])) (own_lt hown g hg) (fun e => ?_), ?_⟩
  · obtain ⟨_, h0 | ⟨g', c1, cur, hv, _, hh, _⟩⟩ := hown
    · rw [h0.1] at hg; cases hg
    · rw [hv] at hg
      injection hg with hg
      subst hg
      exact own_type' hrow hh (by decide) e
  · exact ((hb.setCell (p := ⟨N + 1, 0, none⟩) (by show w.heap.size ≤ N + 1; omega) _).alloc (by have := hb.size; simp [World.setCell]; omega) _).grown hg5 (by have := hb.size; simp [World.setCell]; omega) (fun g hg => own_ge hrow g hg)
set_option maxHeartbeats 4000000 in
set_option maxRecDepth 100000 in
theorem Patch_good (va v : Value) (al : List ByteArray) (hs : List Hk) (fz : Nat) (w : World) (ha : Strs w va al) (h : Hunks w v hs) (he1 : listErr al = 0) (he2 : hunkErr none false hs = 0) (hfz : fz ≤ 10) :
    Calls Try.prog 12 #[va, v, .int .i64 (fz : Int)] w fun e w' => ((∃ v1 v2, e = .returned (.tuple #[v1, v2, .int .i64 0]) ∧ Strs w' v1 (patchP fz hs 0 ⟨al, 0, 0, 0⟩).1.lst ∧ Rd w' 5 v2 hs.length (plCells (patchP fz hs 0 ⟨al, 0, 0, 0⟩).2) ∧ (patchP fz hs 0 ⟨al, 0, 0, 0⟩).1.lst.length ≤ 1000) ∨
      e = .returned (.tuple #[.slice none 0 0, .slice none 0 0, .int .i64 2]) ∧ 1000 < (patchP fz hs 0 ⟨al, 0, 0, 0⟩).1.lst.length) ∧ Below w.heap.size w w' := by
  obtain ⟨R, hR⟩ : ∃ R, patchP fz hs 0 ⟨al, 0, 0, 0⟩ = R := ⟨_, rfl⟩
  rw [hR]
  have HA := hide ha
  have HH := hide h
  obtain ⟨⟨_, A, ca, rfl, _⟩, hsz⟩ := ha
  have hal := listErr_len he1
  obtain ⟨hlen, hok⟩ := hunks_ok he2
  have bb := (Below.refl w.heap.size w).alloc (Nat.le_refl _) (.cells #[.slice A al.length ca] 22)
  have HL := hide ((lists_1 al).trans he1)
  have HE2 := hide he2
  obtain ⟨vs, hvs, ⟨_, B, cb, rfl, hcb, hmb, hxb⟩, hik, hel⟩ := h
  unfold maxLen at hmb
  have HVS := hide hvs
  have HXB := hide hxb
  have HE := hide hel
  have HIK := hide hik
  have HOK : Hid (∀ h ∈ hs, HkOk h) := hide (fun g hg => by
    obtain ⟨i, hi, rfl⟩ := List.getElem_of_mem hg
    obtain ⟨q1, q2, q3, q4⟩ := hok _ (List.getElem_mem hi)
    have := (hel i hs[i] (vs[i]'(by omega)).1 (vs[i]'(by omega)).2 (List.getElem?_eq_getElem hi) (List.getElem?_eq_getElem (by omega))).2.2
    exact ⟨q1, q2, q3, q4, this⟩)
  have HR0 := hide hR
  have HSZ := hide hsz
  clear he1 he2 hvs hxb hel hik hok hR hsz
  obtain ⟨ip, hip, hpz, hps, hpb⟩ := info_parts info_placeF
  have hf0 : (0 : Int) ≤ (fz : Int) := by omega
  have hf1 : (fz : Int) ≤ 10 := by omega
  go_enter Try.func12, Try.ntmps12
  go_wp2_with fail
  refine (listed_any _ [al] _ (strsL_1 w _ al _ HA.out)).mono ?_
  rintro e w1 ⟨rfl, rfl⟩
  rw [HL.out]
  go_wp2_with fail
  refine (turnable_any _ hs false _ (HH.out.below bb)).mono ?_
  rintro e w2 ⟨rfl, hb2⟩
  rw [HE2.out]
  have hbw2 := bb.trans (hb2.mono (by simp))
  go_wp2_with fail
  refine (withinD_any _ _ _ _).mono ?_
  rintro e w3 ⟨rfl, rfl⟩
  rw [show decide ((0 : Int) ≤ (fz : Int) ∧ (fz : Int) ≤ 10) = true by simp; omega]
  go_wp2_with fail
  refine (cloneO_any _ al w2 (HA.out.below hbw2) (by omega)).mono ?_
  rintro e w3 ⟨vc, rfl, hoc, hb3⟩
  obtain ⟨Ac, cc, rfl⟩ := own_shape hoc
  have hbw3 : Below w.heap.size w w3 := hbw2.trans (hb3.mono hbw2.size)
  go_wp2_with fail
  obtain ⟨pb, hpb⟩ : ∃ pb, w3.heap.size = pb := ⟨_, rfl⟩
  obtain ⟨w4, hw4⟩ : ∃ w4, w4 = w3.alloc (.cells #[.slice Ac al.length cc, .int .i64 0, .int .i64 0, .int .i64 0] 92) := ⟨_, rfl⟩
  have hpat4 : PatAt w4 pb (.slice Ac al.length cc) 0 0 ((0 : Nat) : Int) := by rw [hw4, ← hpb]; exact heap_alloc_new _ _
  have hown4 : w4.ownsRow w.heap.size 9 1 (.slice Ac al.length cc) al.length (al.map Value.string) := by rw [hw4]; exact own_mono (hoc.alloc _) hbw2.size
  have hb4 : Below w.heap.size w w4 := by rw [hw4]; exact hbw3.alloc hbw3.size _
  have hpbl : w.heap.size ≤ pb := by rw [← hpb]; exact hbw3.size
  rw [← hw4, hpb]
  clear hw4 hpb hoc hbw3 hb3 hbw2 hb2 bb
  go_loopw [12, 37] (fun pv i wr => ∃ (k : Nat) (s : Pt) (A' : Option Addr) (c' : Nat) (pl : List Pl), k ≤ hs.length ∧ i = .int .i64 (k : Int) ∧ pl.length = k ∧ Hid (PatAt wr pb (.slice A' s.lst.length c') s.del s.off s.fin) ∧ Hid (wr.ownsRow w.heap.size 9 1 (.slice A' s.lst.length c') s.lst.length (s.lst.map Value.string)) ∧
    Hid (wr.ownsRow w.heap.size 50 5 pv k (plCells pl)) ∧ Hid (PtOk s k) ∧ Hid (R = ((patchP fz (hs.drop k) k s).1, pl ++ (patchP fz (hs.drop k) k s).2)) ∧ Hid (Below w.heap.size w wr)) (fun _ i _ => hs.length - (intOf i).toNat)
  case atStart => exact ⟨0, ⟨al, 0, 0, 0⟩, Ac, cc, [], Nat.zero_le _, rfl, rfl, hpat4, hown4, World.ownsRow_nil _ _ _ _, PtOk.start hal HSZ.out, by show _ = _; rw [List.drop_zero, List.nil_append, HR0.out], hb4⟩
  case round =>
    obtain ⟨k, s, A', c', pl, hk, rfl, hpll, hpat, hown, hrow, hpok, hRk, hbw⟩ := hrel
    by_cases hlt : k < hs.length
    · obtain ⟨ba, oa, rfl, hba, hja⟩ := HXB.out (by omega)
      have kv : k < vs.length := by rw [HVS.out]; exact hlt
      have cs := hkCells_at hs vs k hs[k] vs[k] (List.getElem?_eq_getElem hlt) (List.getElem?_eq_getElem kv) HVS.out
      rw [Nat.mul_comm] at cs
      have a0 := (hbw.out.cell hba).trans (hja _ _ cs.1)
      have a1 := (hbw.out.cell hba).trans (hja _ _ cs.2.1)
      have a2 := (hbw.out.cell hba).trans (hja _ _ cs.2.2.1)
      have a3 := (hbw.out.cell hba).trans (hja _ _ cs.2.2.2)
      clear cs hja
      simp only [← Nat.add_assoc] at a0 a1 a2 a3
      have s1 := HE.out k hs[k] vs[k].1 vs[k].2 (List.getElem?_eq_getElem hlt) (List.getElem?_eq_getElem kv)
      have hokk := HOK.out _ (List.getElem_mem hlt)
      obtain ⟨A1, n1, c1, e1⟩ := strs_form s1.1
      obtain ⟨A2, n2, c2, e2⟩ := strs_form s1.2
      rw [e1] at a2
      rw [e2] at a3
      rw [e1, e2] at s1
      clear e1 e2 kv
      obtain ⟨t1, t2⟩ := s1
      obtain rfl := t1.len
      obtain rfl := t2.len
      obtain ⟨h, hh⟩ : ∃ h, hs[k] = h := ⟨_, rfl⟩
      have hRk' := hRk.out
      rw [List.drop_eq_getElem_cons hlt, hh, patchP] at hRk'
      rw [hh] at a0 a1 a2 a3 t1 t2 hokk
      have T1 := hide t1
      have T2 := hide t2
      have HT2 := hide (fun hn => t2.1.lt hn)
      have HRK := hide hRk'
      have HOKK := hide hokk
      clear hh t1 t2 hRk hRk' hokk
      have hk1 : k ≤ 1000 := by omega
      go_wp2_with fail
      obtain ⟨wi, hwi⟩ : ∃ wi, wi = (wr.alloc (.cells #[.int .i64 h.frm, .int .i64 h.to_, .slice A1 h.old.length c1, .slice A2 h.new.length c2] 43)).alloc (.cells #[.int .i64 0, .int .i64 0, .int .i64 0, .int .i64 0, .bool false] 50) := ⟨_, rfl⟩
      rw [← hwi]
      have hbi : Below wr.heap.size wr wi := by rw [hwi]; exact ((Below.refl _ _).alloc (Nat.le_refl _) _).alloc (by simp) _
      have hzi : wi.heap.size = wr.heap.size + 2 := by rw [hwi]; simp
      have hbxi : wi.heap[wr.heap.size]? = some (.cells #[.int .i64 h.frm, .int .i64 h.to_, .slice A1 h.old.length c1, .slice A2 h.new.length c2] 43 (0, 0)) := by rw [hwi]; exact (heap_alloc_old _ _ (by simp)).trans (heap_alloc_new _ _)
      have hpli : PlAt wi (wr.heap.size + 1) (.int .i64 0) (.int .i64 0) (.int .i64 0) (.int .i64 0) (.bool false) := by rw [hwi]; unfold PlAt; simpa using heap_alloc_new (wr.alloc (.cells #[.int .i64 h.frm, .int .i64 h.to_, .slice A1 h.old.length c1, .slice A2 h.new.length c2] 43)) (.cells #[.int .i64 0, .int .i64 0, .int .i64 0, .int .i64 0, .bool false] 50)
      have hpati := hide (hpat.out.below hbi)
      have howni := hide (own_below hown.out hbi)
      have hrowi := hide (own_below hrow.out hbi)
      have hbwi := hide (hbw.out.trans (hbi.mono hbw.out.size))
      have hrlt := hide (own_lt hrow.out)
      have hpblt := hide hpat.out.lt
      have hbsz := hbw.out.size
      obtain ⟨T, hT⟩ : ∃ T, tryP h k s 0 (fz + 1) = T := ⟨_, rfl⟩
      have hTi : Hid (TryAt h k s fz 0 s 0 0 0 false) := hide (.inl ⟨rfl, rfl, rfl, rfl, rfl, rfl⟩)
      have HTT := hide hT
      have hbxi' := hide hbxi
      have hpli' := hide hpli
      clear a0 a1 a2 a3 hwi hbi hT hpat hown hrow hbw hbxi hpli
      obtain ⟨N, hN⟩ : ∃ N, wr.heap.size = N := ⟨_, rfl⟩
      rw [hN] at hzi hbxi' hpli' hrlt hpblt hbsz
      rw [hN]
      clear hN wr
      go_loopw [16] (fun i wj => ∃ (f : Nat) (s' : Pt) (A' : Option Addr) (c' : Nat) (b1 b2 b3 : Int) (d : Bool), f ≤ fz + 1 ∧ i = .int .i64 (f : Int) ∧ Hid (PatAt wj pb (.slice A' s'.lst.length c') s'.del s'.off s'.fin) ∧ Hid (wj.ownsRow w.heap.size 9 1 (.slice A' s'.lst.length c') s'.lst.length (s'.lst.map Value.string)) ∧
        Hid (wj.ownsRow w.heap.size 50 5 u12 k (plCells pl)) ∧ Hid (wj.heap[N]? = some (.cells #[.int .i64 h.frm, .int .i64 h.to_, .slice A1 h.old.length c1, .slice A2 h.new.length c2] 43 (0, 0))) ∧ Hid (PlAt wj (N + 1) (.int .i64 0) (.int .i64 b1) (.int .i64 b2) (.int .i64 b3) (.bool d)) ∧
        Hid (TryAt h k s fz f s' b1 b2 b3 d) ∧ Hid (Below w.heap.size w wj) ∧ N + 2 ≤ wj.heap.size) (fun i _ => fz + 1 - (intOf i).toNat)
      case atStart => exact ⟨0, s, A', c', 0, 0, 0, false, by omega, rfl, hpati, howni, hrowi, hbxi', hpli', hTi, hbwi, by omega⟩
      case round =>
        obtain ⟨f, s', A', c', b1, b2, b3, d, hf, rfl, hpatj, hownj, hrowj, hbxj, hplj, hTj, hbwj, hzj⟩ := hrel
        by_cases hff : f ≤ fz
        · have hff1 : (f : Int) ≤ (fz : Int) := by omega
          cases d with
          | true =>
            have HXD : Hid (true = true ∨ fz < f) := hide (.inl rfl)
            obtain ⟨z0, z1, z2, z3, z4⟩ := hplj.out.cells
            have zf0 := hplj.out.frozen 0
            have hTd := hTj.out.done HXD.out
            rw [HTT.out] at hTd
            have HRK2 : Hid (R = ((patchP fz (hs.drop (k + 1)) (k + 1) s').1, (pl ++ [⟨k, b1, b2, b3, true⟩]) ++ (patchP fz (hs.drop (k + 1)) (k + 1) s').2)) := hide (by
              rw [HRK.out, HTT.out, hTd, List.append_assoc]; rfl)
            have HPOK2 : Hid (PtOk s' (k + 1)) := hide (by
              have := PtOk.try HOKK.out (i := k) hpok.out hk1 (fz + 1) 0
              rw [HTT.out, hTd] at this
              exact this)
            have hrowx : ∀ ob, ((wr.setCell ⟨N + 1, 0, none⟩ (.int .i64 (k : Int))).alloc ob).ownsRow w.heap.size 50 5 u12 k (plCells pl) := fun ob => (own_offA hrowj.out (w' := wr.setCell ⟨N + 1, 0, none⟩ (.int .i64 (k : Int))) (fun g hg => heap_setCell_other _ _ _ _ (by have := hrlt.out g hg; show g ≠ N + 1; omega))).alloc ob
            have HROWX := hide hrowx
            have HNX : Hid (∀ ob w5, ((wr.setCell ⟨N + 1, 0, none⟩ (.int .i64 (k : Int))).alloc ob).grownBy w5 u12.ownBlock → PatAt w5 pb (.slice A' s'.lst.length c') s'.del s'.off s'.fin ∧ w5.ownsRow w.heap.size 9 1 (.slice A' s'.lst.length c') s'.lst.length (s'.lst.map Value.string) ∧ Below w.heap.size w w5) := hide (fun ob w5 hg => row_next hpatj.out hownj.out hrowj.out hplj.out hbwj.out hpblt.out hbsz hzj hg)
            have hwz : w.heap.size ≤ wr.heap.size := hbwj.out.size
            clear hrowx hTd hTj hTi
            go_wp2_with (at_builtin; refine wpList_append_own_at _ rfl _ _ 34 rfl w.heap.size 50 ip _ 5 40 Try.underlying34 hip hpz hps hpb rfl (by decide) _ k (plCells pl) rfl (HROWX.out _) ⟨wr.heap.size, 0, none⟩ 1 1 [.int .i64 (k : Int), .int .i64 b1, .int .i64 b2, .int .i64 b3, .bool true] (by rfl) rfl (fun j u hu => by have := five_new' (wr.setCell ⟨N + 1, 0, none⟩ (.int .i64 (k : Int))) (.int .i64 (k : Int)) (.int .i64 b1) (.int .i64 b2) (.int .i64 b3) (.bool true) 50 j u hu; simpa [World.setCell] using this) (by simp [Value.oneCell']) (by unfold maxLen; omega) (by omega) (by simp [World.setCell]; omega) ?_; intro vv w5 hown5 hgrow5 hnil5 hat5; have HN5 := hide (HNX.out _ _ hgrow5); have HOWN5 := hide hown5; clear hown5 hgrow5 hnil5 hat5)
            go_roundw
            case rel => exact ⟨k + 1, s', A', c', pl ++ [⟨k, b1, b2, b3, true⟩], by omega, by go_num, by simp [hpll], HN5.out.1, HN5.out.2.1, by show World.ownsRow _ _ _ _ _ _ _; rw [plCells_snoc]; exact HOWN5.out, HPOK2, HRK2, HN5.out.2.2⟩
            case measure => simp [intOf]; omega
          | false =>
            obtain ⟨y0, y1, y2, y3⟩ : wr.cell? ⟨N, 0, none⟩ = some (.int .i64 h.frm) ∧ wr.cell? ⟨N, 1, none⟩ = some (.int .i64 h.to_) ∧ wr.cell? ⟨N, 2, none⟩ = some (.slice A1 h.old.length c1) ∧ wr.cell? ⟨N, 3, none⟩ = some (.slice A2 h.new.length c2) := by
              have hb := hbxj.out
              simp [World.cell?, hb]
            obtain rfl : s' = s := by
              rcases hTj.out with ⟨_, e, _⟩ | ⟨e, _⟩
              · exact e
              · cases e
            obtain ⟨g1, g2, g3, g4, g5, g6, g7⟩ := hpok.out
            obtain ⟨q1, q2, q3, q4, q5⟩ := HOKK.out
            have hput := put_any pb w.heap.size A' c' s' h A1 A2 c1 c2 f wr hpatj.out hpbl hownj.out (T1.out.below hbwj.out) (T2.out.below hbwj.out) (fun hn => HT2.out hn) g7 q1 q2 q3 q4 (by omega) (by omega) (by omega) (by omega) (by omega)
            have HPUT := hide hput
            clear hput g1 g2 g3 g4 g5 g6 g7 q1 q2 q3 q4 q5
            obtain ⟨z0, z1, z2, z3, z4⟩ := hplj.out.cells
            go_wp2_with fail
            refine HPUT.out.mono ?_
            intro e w6 hpo
            unfold putOk at hpo
            cases hpp : putP h f s' with
            | none =>
              rw [hpp] at hpo
              obtain ⟨rfl, hb6⟩ := hpo
              have hpl6 : PlAt w6 (N + 1) (.int .i64 0) (.int .i64 b1) (.int .i64 b2) (.int .i64 b3) (.bool false) := (hb6.block _ (by omega)).trans hplj.out
              have HP6 := hide (hpatj.out.below hb6)
              have HO6 := hide (own_below hownj.out hb6)
              have HR6 := hide (own_below hrowj.out hb6)
              have HX6 := hide ((hb6.block N (by omega)).trans hbxj.out)
              have HB6 := hide (hbwj.out.trans (hb6.mono hbwj.out.size))
              have HT6 := hide (hTj.out.miss hff hpp)
              have hz6 : N + 2 ≤ w6.heap.size := by have := hb6.size; omega
              obtain ⟨x0, x1, x2, x3, x4⟩ := PlAt.cells hpl6
              have xf0 := PlAt.frozen hpl6 0
              have xf1 := PlAt.frozen hpl6 1
              have xf2 := PlAt.frozen hpl6 2
              have xf3 := PlAt.frozen hpl6 3
              have xf4 := PlAt.frozen hpl6 4
              have HPL6 := hide hpl6
              clear z0 z1 z2 z3 z4 y0 y1 y2 y3 hpl6 hpatj hownj hrowj hbxj hplj hbwj hTj
              go_wp2_with fail
              go_roundw
              case rel => exact ⟨f + 1, s', A', c', 0, 0, 0, false, by omega, by go_num, hide ((heap_set5 _ (N + 1) pb _ _ _ _ _ (by have := hpblt.out; omega)).trans HP6.out),
                hide (own_off HO6.out fun g hg => heap_set5 _ (N + 1) g _ _ _ _ _ (fun e => own_type' HO6.out HPL6.out (by decide) (by rw [hg, e]))),
                hide (own_offA HR6.out fun g hg => heap_set5 _ (N + 1) g _ _ _ _ _ (by have := hrlt.out g hg; omega)),
                hide ((heap_set5 _ (N + 1) N _ _ _ _ _ (by omega)).trans HX6.out), hide (PlAt.set HPL6.out _ _ _ _ _), HT6, hide (PlAt.set_below HB6.out (by omega) _ _ _ _ _), by simp [World.setCell]; omega⟩
              case measure => simp [intOf]; omega
            | some kk =>
              rw [hpp] at hpo
              obtain ⟨A6, c6, rfl, hp6, ho6, hb6, hof6⟩ := hpo
              have hpl6 : PlAt w6 (N + 1) (.int .i64 0) (.int .i64 b1) (.int .i64 b2) (.int .i64 b3) (.bool false) := (hof6 _ _ _ _ (by have := hpblt.out; omega) hplj.out (by decide)).trans hplj.out
              have HP6 := hide hp6
              have HO6 := hide ho6
              have HR6 := hide (own_offS hrowj.out (by decide) hpatj.out (by decide) hof6)
              have HX6 := hide ((hof6 _ _ _ _ (by have := hpblt.out; omega) hbxj.out (by decide)).trans hbxj.out)
              have HB6 := hide (hbwj.out.trans hb6)
              have HT6 := hide (hTj.out.hit hff hpp)
              have hz6 : N + 2 ≤ w6.heap.size := by have := hb6.size; omega
              clear hp6 ho6 hof6
              obtain ⟨x0, x1, x2, x3, x4⟩ := PlAt.cells hpl6
              have xf0 := PlAt.frozen hpl6 0
              have xf1 := PlAt.frozen hpl6 1
              have xf2 := PlAt.frozen hpl6 2
              have xf3 := PlAt.frozen hpl6 3
              have xf4 := PlAt.frozen hpl6 4
              have HPL6 := hide hpl6
              clear z0 z1 z2 z3 z4 y0 y1 y2 y3 hpl6 hpatj hownj hrowj hbxj hplj hbwj hTj
              go_wp2_with fail
              go_roundw
              case rel => exact ⟨f + 1, putAt h f s' kk, A6, c6, (kk : Int), (kk : Int) - Pw.due h f s', (f : Int), true, by omega, by go_num, hide ((heap_set5 _ (N + 1) pb _ _ _ _ _ (by have := hpblt.out; omega)).trans HP6.out),
                hide (own_off HO6.out fun g hg => heap_set5 _ (N + 1) g _ _ _ _ _ (fun e => own_type' HO6.out HPL6.out (by decide) (by rw [hg, e]))),
                hide (own_offA HR6.out fun g hg => heap_set5 _ (N + 1) g _ _ _ _ _ (by have := hrlt.out g hg; omega)),
                hide ((heap_set5 _ (N + 1) N _ _ _ _ _ (by omega)).trans HX6.out), hide (PlAt.set HPL6.out _ _ _ _ _), HT6, hide (PlAt.set_below HB6.out (by omega) _ _ _ _ _), by simp [World.setCell]; omega⟩
              case measure => simp [intOf]; omega
        · have hff1 : ¬ ((f : Int) ≤ (fz : Int)) := by omega
          have hff2 : decide ((f : Int) ≤ (fz : Int)) = false := by simpa using hff1
          have HXD : Hid (d = true ∨ fz < f) := hide (.inr (by omega))
          obtain ⟨z0, z1, z2, z3, z4⟩ := hplj.out.cells
          have zf0 := hplj.out.frozen 0
          have hTd := hTj.out.done HXD.out
          rw [HTT.out] at hTd
          have HRK2 : Hid (R = ((patchP fz (hs.drop (k + 1)) (k + 1) s').1, (pl ++ [⟨k, b1, b2, b3, d⟩]) ++ (patchP fz (hs.drop (k + 1)) (k + 1) s').2)) := hide (by
            rw [HRK.out, HTT.out, hTd, List.append_assoc]; rfl)
          have HPOK2 : Hid (PtOk s' (k + 1)) := hide (by
            have := PtOk.try HOKK.out (i := k) hpok.out hk1 (fz + 1) 0
            rw [HTT.out, hTd] at this
            exact this)
          have hrowx : ∀ ob, ((wr.setCell ⟨N + 1, 0, none⟩ (.int .i64 (k : Int))).alloc ob).ownsRow w.heap.size 50 5 u12 k (plCells pl) := fun ob => (own_offA hrowj.out (w' := wr.setCell ⟨N + 1, 0, none⟩ (.int .i64 (k : Int))) (fun g hg => heap_setCell_other _ _ _ _ (by have := hrlt.out g hg; show g ≠ N + 1; omega))).alloc ob
          have HROWX := hide hrowx
          have HNX : Hid (∀ ob w5, ((wr.setCell ⟨N + 1, 0, none⟩ (.int .i64 (k : Int))).alloc ob).grownBy w5 u12.ownBlock → PatAt w5 pb (.slice A' s'.lst.length c') s'.del s'.off s'.fin ∧ w5.ownsRow w.heap.size 9 1 (.slice A' s'.lst.length c') s'.lst.length (s'.lst.map Value.string) ∧ Below w.heap.size w w5) := hide (fun ob w5 hg => row_next hpatj.out hownj.out hrowj.out hplj.out hbwj.out hpblt.out hbsz hzj hg)
          have hwz : w.heap.size ≤ wr.heap.size := hbwj.out.size
          clear hrowx hTd hTj hTi
          go_wp2_with (at_builtin; refine wpList_append_own_at _ rfl _ _ 34 rfl w.heap.size 50 ip _ 5 40 Try.underlying34 hip hpz hps hpb rfl (by decide) _ k (plCells pl) rfl (HROWX.out _) ⟨wr.heap.size, 0, none⟩ 1 1 [.int .i64 (k : Int), .int .i64 b1, .int .i64 b2, .int .i64 b3, .bool d] (by rfl) rfl (fun j u hu => by have := five_new' (wr.setCell ⟨N + 1, 0, none⟩ (.int .i64 (k : Int))) (.int .i64 (k : Int)) (.int .i64 b1) (.int .i64 b2) (.int .i64 b3) (.bool d) 50 j u hu; simpa [World.setCell] using this) (by simp [Value.oneCell']) (by unfold maxLen; omega) (by omega) (by simp [World.setCell]; omega) ?_; intro vv w5 hown5 hgrow5 hnil5 hat5; have HN5 := hide (HNX.out _ _ hgrow5); have HOWN5 := hide hown5; clear hown5 hgrow5 hnil5 hat5)
          go_roundw
          case rel => exact ⟨k + 1, s', A', c', pl ++ [⟨k, b1, b2, b3, d⟩], by omega, by go_num, by simp [hpll], HN5.out.1, HN5.out.2.1, by show World.ownsRow _ _ _ _ _ _ _; rw [plCells_snoc]; exact HOWN5.out, HPOK2, HRK2, HN5.out.2.2⟩
          case measure => simp [intOf]; omega
    · obtain rfl : k = hs.length := by omega
      have hRk' := hRk.out
      rw [List.drop_of_length_le (Nat.le_refl _), patchP, List.append_nil] at hRk'
      subst hRk'
      have q0 := hpat.out.c0
      obtain ⟨g1, g2, g3, g4, g5, g6, g7⟩ := hpok.out
      have HS := hide (own_strs hown.out g7)
      have HRW := hide (Rd.of_own hrow.out)
      clear g2 g3 g4 g5 g6 g7
      by_cases hbig : 1000 < s.lst.length
      · have hb1 : (1000 : Int) < (s.lst.length : Int) := by omega
        go_wp2_with fail
        go_ret3
        first | exact ⟨.inr ⟨rfl, hbig⟩, hbw.out⟩ | exact ⟨.inr rfl, hbw.out⟩ | exact ⟨rfl, hbw.out⟩
      · have hb1 : ¬ ((1000 : Int) < (s.lst.length : Int)) := by omega
        have hb2 : decide ((1000 : Int) < (s.lst.length : Int)) = false := by simpa using hb1
        go_wp2_with fail
        go_ret3
        first | exact ⟨.inl ⟨_, _, rfl, HS.out, HRW.out, by omega⟩, hbw.out⟩ | exact ⟨⟨_, _, rfl, HS.out, HRW.out, by omega⟩, hbw.out⟩ | exact ⟨⟨_, _, rfl, HS.out, HRW.out⟩, hbw.out⟩
/-- the error of Patch -/
def patchErr (al : List ByteArray) (hs : List Hk) (fz : Int) : Int := if listErr al ≠ 0 then listErr al else if hunkErr none false hs ≠ 0 then hunkErr none false hs else if 0 ≤ fz ∧ fz ≤ 10 then 0 else 3
set_option maxHeartbeats 2000000 in
theorem Patch_bad (va v : Value) (al : List ByteArray) (hs : List Hk) (fz : Int) (w : World) (ha : Strs w va al) (h : Hunks w v hs) (he : patchErr al hs fz ≠ 0) :
    Calls Try.prog 12 #[va, v, .int .i64 fz] w fun e w' => e = .returned (.tuple #[.slice none 0 0, .slice none 0 0, .int .i64 (patchErr al hs fz)]) ∧ Below w.heap.size w w' := by
  have HA := hide ha
  have HH := hide h
  obtain ⟨⟨_, A, ca, rfl, _⟩, _⟩ := ha
  obtain ⟨_, _, ⟨_, B, cb, rfl, _⟩, _⟩ := h
  have bb := (Below.refl w.heap.size w).alloc (Nat.le_refl _) (.cells #[.slice A al.length ca] 22)
  by_cases h1 : listErr al = 0
  · have HL := hide ((lists_1 al).trans h1)
    by_cases h2 : hunkErr none false hs = 0
    · have h3 : ¬ (0 ≤ fz ∧ fz ≤ 10) := fun h3 => he (by unfold patchErr; simp [h1, h2, h3])
      have HE : Hid (patchErr al hs fz = 3) := hide (by unfold patchErr; simp [h1, h2, h3])
      have HE2 := hide h2
      have HD : Hid (decide ((0 : Int) ≤ fz ∧ fz ≤ 10) = false) := hide (by simpa using h3)
      clear he h1 h2 h3
      go_enter Try.func12, Try.ntmps12
      go_wp2_with fail
      refine (listed_any _ [al] _ (strsL_1 w _ al _ HA.out)).mono ?_
      rintro e w1 ⟨rfl, rfl⟩
      rw [HL.out]
      go_wp2_with fail
      refine (turnable_any _ hs false _ (HH.out.below bb)).mono ?_
      rintro e w2 ⟨rfl, hb2⟩
      rw [HE2.out]
      go_wp2_with fail
      refine (withinD_any _ _ _ _).mono ?_
      rintro e w3 ⟨rfl, rfl⟩
      rw [HD.out]
      go_wp2_with fail
      go_ret3
      exact ⟨by rw [HE.out]; rfl, bb.trans (hb2.mono (by simp))⟩
    · have HE : Hid (patchErr al hs fz = hunkErr none false hs) := hide (by unfold patchErr; simp [h1, h2])
      obtain ⟨E, hE⟩ : ∃ E, hunkErr none false hs = E := ⟨_, rfl⟩
      rw [hE] at HE
      have hn : (E != 0) = true := by rw [← hE]; simpa using h2
      have HE2 := hide hE
      clear he h1 h2 hE
      go_enter Try.func12, Try.ntmps12
      go_wp2_with fail
      refine (listed_any _ [al] _ (strsL_1 w _ al _ HA.out)).mono ?_
      rintro e w1 ⟨rfl, rfl⟩
      rw [HL.out]
      go_wp2_with fail
      refine (turnable_any _ hs false _ (HH.out.below bb)).mono ?_
      rintro e w2 ⟨rfl, hb2⟩
      rw [HE2.out]
      go_wp2_with fail
      go_ret3
      exact ⟨by rw [HE.out]; rfl, bb.trans (hb2.mono (by simp))⟩
  · have HE : Hid (patchErr al hs fz = listErr al) := hide (by unfold patchErr; simp [h1])
    obtain ⟨E, hE⟩ : ∃ E, listErr al = E := ⟨_, rfl⟩
    rw [hE] at HE
    have hn : (E != 0) = true := by rw [← hE]; simpa using h1
    have HL := hide ((lists_1 al).trans hE)
    clear he h1 hE
    go_enter Try.func12, Try.ntmps12
    go_wp2_with fail
    refine (listed_any _ [al] _ (strsL_1 w _ al _ HA.out)).mono ?_
    rintro e w1 ⟨rfl, rfl⟩
    rw [HL.out]
    go_wp2_with fail
    go_ret3
    exact ⟨by rw [HE.out]; rfl, bb⟩
end Go.Proofs.Ytfjbdbdjhkmifaa
