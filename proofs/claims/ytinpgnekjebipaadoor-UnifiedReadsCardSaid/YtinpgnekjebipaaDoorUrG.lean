/- ParseUnified. -/
import Derived.Test.YtinpgnekjebipaaDoorUrT
import Derived.Test.YtinpgnekjebipaaDoorRefL
set_option linter.unusedSimpArgs false
set_option linter.unusedVariables false
namespace Go.Pw
/-- hunks, place, error of a text -/
def urRes (hd : ByteArray → Option Hd) (s : ByteArray) : List Hk × Nat × Int := if 65536 < s.size then ([], 0, 2) else urEnd (urRun hd (linesOf s) 0 .zero)
theorem urRun_ok (hd : ByteArray → Option Hd) (hh : ∀ s h, hd s = some h → HdOk h) : ∀ (l : List ByteArray) (i : Nat) (u v : Un), (∀ s ∈ l, s.size ≤ 900000) → i + l.length ≤ 800000 → UnOk u i → urRun hd l i u = .ok v → UnOk v (i + l.length)
  | [], i, u, v, _, _, hu, h => by
    unfold urRun at h
    split at h
    · cases h
    · injection h with h; subst h; exact hu
  | s :: l, i, u, v, hs, hi, hu, h => by
    simp only [List.length_cons] at hi ⊢
    have hs1 := hs s (by simp)
    have hs2 : ∀ t ∈ l, t.size ≤ 900000 := fun t ht => hs t (by simp [ht])
    unfold urRun at h
    split at h
    · split at h
      · cases h
      · rename_i u2 hst
        have := urRun_ok hd hh l (i + 1) _ v hs2 (by omega) ((hu.step (by omega) hs1 hst).rest) h
        rw [show i + (l.length + 1) = i + 1 + l.length by omega]
        exact this
    · split at h
      · cases h
      · rename_i g hg
        split at h
        · cases h
        · rename_i ho
          have := urRun_ok hd hh l (i + 1) _ v hs2 (by omega) (((hu.start (hh _ _ hg) ho).rest).mono (by omega)) h
          rw [show i + (l.length + 1) = i + 1 + l.length by omega]
          exact this
end Go.Pw
namespace Go.Proofs.YtinpgnekjebipaaDoor
open Go.RowKit Go.Pw
theorem hdS_ok (s : ByteArray) (h : Hd) (e : hdS s = some h) : HdOk h := ((hdR_iff _ _).1 e).ok
set_option maxHeartbeats 1000000 in
theorem dlines_any (s : ByteArray) (w : World) (hs : s.size ≤ 1000000) :
    Calls Tryd.prog 25 #[.string s] w fun e w' => ∃ v, e = .returned v ∧ LinesRes 9 w (linesOf s) v w' := by
  by_cases h0 : 0 < s.size
  · have hne : s.data.toList ≠ [] := fun e => by have := len_size s; rw [e, List.length_nil] at this; omega
    have he := isEmpty_of h0
    have HL : Hid (lnF [] s.data.toList = spl [] (Lib.trimSuffix s.data.toList [10])) := hide (lnF_cut hne)
    clear hne
    have ht : (Lib.trimSuffix s.data.toList [10]).length ≤ s.size := by
      unfold Lib.trimSuffix; rw [← len_size]; split
      · rw [List.length_take]; omega
      · exact Nat.le_refl _
    go_enter Tryd.func25, Tryd.ntmps25
    go_wp2_with fail
    refine (Tryd.strings_TrimSuffix s ⟨#[10]⟩ w (by omega)).mono ?_
    rintro e w' ⟨rfl, rfl⟩
    obtain ⟨t, hT⟩ : ∃ t : ByteArray, (⟨(Lib.trimSuffix s.data.toList (⟨#[10]⟩ : ByteArray).data.toList).toArray⟩ : ByteArray) = t := ⟨_, rfl⟩
    rw [hT]
    have htl : t.data.toList = Lib.trimSuffix s.data.toList [10] := by rw [← hT]
    have hts : t.size ≤ 1000000 := by rw [← len_size, htl]; omega
    rw [← htl] at HL
    clear hT htl ht
    go_wp2_with fail
    refine (split_any t _ hts).mono ?_
    rintro e w'' ⟨rfl, rfl⟩
    obtain ⟨n, hn⟩ : ∃ n, (spl [] t.data.toList).length = n := ⟨_, rfl⟩
    have hn0 : 0 < n := by rw [← hn, spl_len]; omega
    have e1 : linesOf s = (spl [] t.data.toList).map mkB := by unfold linesOf; rw [HL.out]
    have e2 : (linesOf s).length = n := by rw [e1, List.length_map, hn]
    rw [← e1, hn]
    have HE := hide e2
    clear hn e1 e2 HL
    go_wp2_with fail
    go_ret
    exact ⟨_, rfl, .inr ⟨by rw [HE.out]; exact hn0, by rw [HE.out]; rfl, rfl⟩⟩
  · obtain rfl := empty_of (s := s) (by omega)
    go_enter Tryd.func25, Tryd.ntmps25
    go_wp2_with fail
    go_ret
    exact ⟨_, rfl, .inl ⟨rfl, rfl, rfl⟩⟩
set_option maxHeartbeats 1000000 in
theorem large_U (h : Hk) (o n : Value) (w : World) (ho : Strs w o h.old) (hn : Strs w n h.new) :
    Calls Tryd.prog 29 #[.agg #[.int .i64 h.frm, .int .i64 h.to_, o, n]] w fun e w' => e = .returned (.bool (hkBig h)) ∧ Below w.heap.size w w' := by
  obtain ⟨⟨_, A, ca, rfl, _⟩, _⟩ := ho
  obtain ⟨⟨_, B, cb, rfl, _⟩, _⟩ := hn
  obtain ⟨f, t, old, new⟩ := h
  simp only
  obtain ⟨a, ha⟩ : ∃ a, old.length = a := ⟨_, rfl⟩
  obtain ⟨b, hb⟩ : ∃ b, new.length = b := ⟨_, rfl⟩
  have HB : Hid (hkBig ⟨f, t, old, new⟩ = (decide (1000 < a) || decide (1000 < b))) := hide (by unfold hkBig; rw [ha, hb])
  rw [ha, hb]
  clear ha hb
  by_cases h1 : 1000 < a
  · have h1' : (1000 : Int) < (a : Int) := by omega
    have H1 := hide h1
    clear h1
    go_enter Tryd.func29, Tryd.ntmps29
    go_wp2_with fail
    go_ret
    exact ⟨ret_bool (by rw [HB.out]; simp [H1.out]), (Below.refl _ _).alloc (Nat.le_refl _) _⟩
  · have h1' : ¬ (1000 : Int) < (a : Int) := by omega
    have H1 := hide h1
    clear h1
    go_enter Tryd.func29, Tryd.ntmps29
    go_wp2_with fail
    go_ret
    refine ⟨ret_bool ?_, (Below.refl _ _).alloc (Nat.le_refl _) _⟩
    rw [HB.out]
    have := H1.out
    have e : ((1000 : Int) < (b : Int)) ↔ 1000 < b := by omega
    simp only [e]
    simp; omega
set_option maxHeartbeats 2000000 in
set_option maxRecDepth 100000 in
theorem indexLargeU (v : Value) (hs : List Hk) (w : World) (h : Hunks w v hs) (hn : hs.length ≤ 1000000) :
    Calls Tryd.prog 50 #[v, .func (.func 29) #[] #[]] w fun e w' => (∃ n : Int, e = .returned (.int .i64 n) ∧ (hs.any hkBig = decide (0 ≤ n))) ∧ Below w.heap.size w w' := by
  obtain ⟨vs, hvs, ⟨_, A, ca, rfl, hca, hma, hxa⟩, hok, hel⟩ := h
  unfold maxLen at hma
  have HVS := hide hvs
  have HX := hide hxa
  have HE := hide hel
  clear hvs hxa hel hok
  go_enter Tryd.func50, Tryd.ntmps50
  go_wp2_with fail
  go_loopw [8] (fun i wr => ∃ k : Nat, k ≤ hs.length ∧ i = .int .i64 (k : Int) ∧ Hid ((hs.take k).any hkBig = false) ∧ Below w.heap.size w wr) (fun i _ => hs.length - (intOf i).toNat)
  case atStart => exact ⟨0, by omega, rfl, hide rfl, Below.refl _ _⟩
  case round =>
    obtain ⟨k, hk, rfl, HK, hb⟩ := hrel
    by_cases hlt : k < hs.length
    · obtain ⟨ba, oa, rfl, hba, hja⟩ := HX.out (by omega)
      have kv : k < vs.length := by rw [HVS.out]; exact hlt
      have cs := hkCells_at hs vs k hs[k] vs[k] (List.getElem?_eq_getElem hlt) (List.getElem?_eq_getElem kv) HVS.out
      rw [Nat.mul_comm] at cs
      have a0 := (hb.cell hba).trans (hja _ _ cs.1)
      have a1 := (hb.cell hba).trans (hja _ _ cs.2.1)
      have a2 := (hb.cell hba).trans (hja _ _ cs.2.2.1)
      have a3 := (hb.cell hba).trans (hja _ _ cs.2.2.2)
      clear cs hja
      simp only [← Nat.add_assoc] at a0 a1 a2 a3
      obtain ⟨t1, t2⟩ := HE.out k hs[k] vs[k].1 vs[k].2 (List.getElem?_eq_getElem hlt) (List.getElem?_eq_getElem kv)
      have HT : Hid ((hs.take (k + 1)).any hkBig = hkBig hs[k]) := hide (by rw [List.take_succ_eq_append_getElem hlt, List.any_append, HK.out]; simp)
      have HA : Hid (hkBig hs[k] = true → hs.any hkBig = true) := hide (fun e => List.any_eq_true.2 ⟨_, List.getElem_mem hlt, e⟩)
      obtain ⟨x, hxx⟩ : ∃ x, hs[k] = x := ⟨_, rfl⟩
      obtain ⟨y1, hy1⟩ : ∃ y, vs[k].1 = y := ⟨_, rfl⟩
      obtain ⟨y2, hy2⟩ : ∃ y, vs[k].2 = y := ⟨_, rfl⟩
      rw [hxx] at a0 a1 HT HA t1 t2
      rw [hy1] at a2 t1
      rw [hy2] at a3 t2
      have T1 := hide (t1.below hb)
      have T2 := hide (t2.below hb)
      clear hxx hy1 hy2 t1 t2 kv
      go_wp2_with fail
      refine (large_U x y1 y2 _ T1.out T2.out).mono ?_
      rintro e w2 ⟨rfl, hb2⟩
      have HB3 := hide (hb.trans (hb2.mono hb.size))
      clear hb2 a0 a1 a2 a3
      cases hbig : hkBig x
      · rw [hbig] at HT
        go_wp2_with fail
        go_roundw
        case rel => exact ⟨k + 1, by omega, by go_num, HT, HB3.out⟩
        case measure => simp [intOf]; omega
      · have HQ := hide (HA.out hbig)
        clear hbig HA
        go_wp2_with fail
        go_ret
        exact ⟨⟨_, rfl, by rw [HQ.out]; simp⟩, HB3.out⟩
    · obtain rfl : k = hs.length := by omega
      rw [List.take_length] at HK
      go_wp2_with fail
      go_ret
      exact ⟨⟨_, rfl, by rw [HK.out]; rfl⟩, hb⟩
theorem containsLargeU (v : Value) (hs : List Hk) (w : World) (h : Hunks w v hs) (hn : hs.length ≤ 1000000) :
    Calls Tryd.prog 30 #[v, .func (.func 29) #[] #[]] w fun e w' => e = .returned (.bool (hs.any hkBig)) ∧ Below w.heap.size w w' := by
  have HI := hide (indexLargeU v hs w h hn)
  clear h
  go_enter Tryd.func30, Tryd.ntmps30
  go_wp2_with fail
  refine HI.out.mono ?_
  rintro e w1 ⟨⟨n, rfl, hn⟩, hb⟩
  have HN := hide hn
  clear hn
  go_wp2_with fail
  go_ret
  exact ⟨by rw [HN.out]; rfl, hb⟩
end Go.Proofs.YtinpgnekjebipaaDoor
