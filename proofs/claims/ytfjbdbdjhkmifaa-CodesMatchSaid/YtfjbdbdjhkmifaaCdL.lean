/- The closure least in delta.lengths: the least tree is taken out. -/
import Derived.Test.YtfjbdbdjhkmifaaCdD
import Derived.Laws.ResultCell
import Derived.Laws.Rows
import Derived.BigQuiet
set_option linter.unusedVariables false
set_option linter.unusedSimpArgs false
namespace Go.Pw
/-- the cells of trees, their symbols' slices given -/
def trCells : List Tr → List Value → List Value
  | t :: ts, u :: us => .int .i64 (t.w : Int) :: .int .i64 (t.l : Int) :: u :: trCells ts us
  | _, _ => []
theorem trCells_len : ∀ (ts : List Tr) (us : List Value), us.length = ts.length → (trCells ts us).length = ts.length * 3
  | [], [], _ => rfl
  | t :: ts, u :: us, e => by simp at e; simp [trCells, trCells_len ts us e]; omega
  | [], u :: us, e => by simp at e
  | t :: ts, [], e => by simp at e
theorem trCells_append : ∀ (ts : List Tr) (us : List Value) (ts2 : List Tr) (us2 : List Value), us.length = ts.length → trCells (ts ++ ts2) (us ++ us2) = trCells ts us ++ trCells ts2 us2
  | [], [], _, _, _ => rfl
  | t :: ts, u :: us, ts2, us2, e => by simp at e; simp [trCells, trCells_append ts us ts2 us2 e]
  | [], u :: us, _, _, e => by simp at e
  | t :: ts, [], _, _, e => by simp at e
theorem trCells_at : ∀ (ts : List Tr) (us : List Value) (i : Nat) (t : Tr) (u : Value), ts[i]? = some t → us[i]? = some u → us.length = ts.length →
    (trCells ts us)[i * 3]? = some (.int .i64 (t.w : Int)) ∧ (trCells ts us)[i * 3 + 1]? = some (.int .i64 (t.l : Int)) ∧ (trCells ts us)[i * 3 + 2]? = some u
  | t :: ts, u :: us, 0, _, _, e1, e2, _ => by simp at e1 e2; subst e1 e2; simp [trCells]
  | t :: ts, u :: us, i + 1, t', u', e1, e2, e => by
    have := trCells_at ts us i t' u' (by simpa using e1) (by simpa using e2) (by simpa using e)
    rw [show (i + 1) * 3 = i * 3 + 1 + 1 + 1 by omega]
    simpa [trCells] using this
  | [], _, _, _, _, e1, _, _ => by simp at e1
  | t :: ts, [], _, _, _, _, e2, _ => by simp at e2
theorem trCells_one : ∀ (ts : List Tr) (us : List Value), (∀ u ∈ us, u.oneCell' = true) → ∀ x ∈ trCells ts us, x.oneCell' = true
  | [], _, _, x, hx => by simp [trCells] at hx
  | _ :: _, [], _, x, hx => by simp [trCells] at hx
  | t :: ts, u :: us, h, x, hx => by
    simp only [trCells, List.mem_cons] at hx
    rcases hx with rfl | rfl | rfl | hx
    · rfl
    · rfl
    · exact h _ List.mem_cons_self
    · exact trCells_one ts us (fun v hv => h v (List.mem_cons_of_mem _ hv)) x hx
theorem trCells_cut (ts : List Tr) (us : List Value) (k : Nat) (hk : k < ts.length) (hus : us.length = ts.length) : (trCells ts us).take (k * 3) ++ (trCells ts us).drop ((k + 1) * 3) = trCells (ts.take k ++ ts.drop (k + 1)) (us.take k ++ us.drop (k + 1)) := by
  have l1 : (us.take k).length = (ts.take k).length := by simp [hus]
  have l2 : (us.take (k + 1)).length = (ts.take (k + 1)).length := by simp [hus]
  have e1 : trCells ts us = trCells (ts.take k) (us.take k) ++ trCells (ts.drop k) (us.drop k) := by rw [← trCells_append _ _ _ _ l1, List.take_append_drop, List.take_append_drop]
  have e2 : trCells ts us = trCells (ts.take (k + 1)) (us.take (k + 1)) ++ trCells (ts.drop (k + 1)) (us.drop (k + 1)) := by rw [← trCells_append _ _ _ _ l2, List.take_append_drop, List.take_append_drop]
  have n1 : (trCells (ts.take k) (us.take k)).length = k * 3 := by rw [trCells_len _ _ l1, List.length_take]; congr 1; omega
  have n2 : (trCells (ts.take (k + 1)) (us.take (k + 1))).length = (k + 1) * 3 := by rw [trCells_len _ _ l2, List.length_take]; congr 1; omega
  rw [trCells_append _ _ _ _ l1]
  congr 1
  · rw [e1, List.take_append_of_le_length (by omega), List.take_of_length_le (by omega)]
  · rw [e2, List.drop_append_of_le_length (by omega), List.drop_of_length_le (by omega), List.nil_append]
theorem least_of {p q : List Tr} {a : Tr} (h : Apart (p ++ a :: q)) (hn : ∀ b ∈ p ++ q, ¬ ltT b a) : Least a (p ++ q) := by
  intro b hb
  refine ltT_total (fun e => ?_) (hn b hb)
  have hp : (p ++ a :: q).Perm (a :: (p ++ q)) := List.perm_middle
  have h2 := h.perm hp
  unfold Apart at h2
  simp only [List.map_cons, List.nodup_cons] at h2
  exact h2.1 (by rw [e]; exact List.mem_map_of_mem hb)
end Go.Pw
namespace Go.Proofs.Ytfjbdbdjhkmifaa
open Go.RowKit Go.Pw
/-- ints in a row of the call's own -/
def SyOwn (w : World) (base : Nat) (u : Value) (l : List Nat) : Prop := w.ownsRow base 3 1 u l.length (l.map fun s : Nat => Value.int .i64 (s : Int))
/-- trees in a row of the call's own -/
def TrAt (w : World) (T base : Nat) (v : Value) (ts : List Tr) : Prop :=
  ∃ us : List Value, us.length = ts.length ∧ w.ownsRow base T 3 v ts.length (trCells ts us) ∧ ∀ (i : Nat) (u : Value) (t : Tr), us[i]? = some u → ts[i]? = some t → SyOwn w base u t.sy
theorem sy_one {w : World} {base : Nat} {u : Value} {l : List Nat} (h : SyOwn w base u l) : u.oneCell' = true := by
  obtain ⟨A, c, rfl⟩ := own_formI h
  rfl
theorem own_offG {w w' : World} {base e size n : Nat} {v : Value} {xs : List Value} (h : w.ownsRow base e size v n xs) (hb : ∀ g, v.ownBlock = some g → w'.heap[g]? = w.heap[g]?) : w'.ownsRow base e size v n xs := by
  refine ⟨h.1, ?_⟩
  rcases h.2 with h2 | ⟨g, cap, cur, hv, hg, hh, r⟩
  · exact .inl h2
  · exact .inr ⟨g, cap, cur, hv, hg, (hb g (by rw [hv]; rfl)).trans hh, r⟩
theorem own_typeG {w : World} {base e size n : Nat} {v : Value} {xs : List Value} (h : w.ownsRow base e size v n xs) {k : Nat} {cs : Array Value} {t : TypeId} {z : Nat × Nat} (hk : w.heap[k]? = some (.cells cs t z)) (ht : t ≠ e) : v.ownBlock ≠ some k := by
  intro he
  rcases h.2 with ⟨rfl, _⟩ | ⟨g, cap, cur, rfl, _, hh, _⟩
  · simp [Value.ownBlock] at he
  · simp [Value.ownBlock] at he
    subst he
    rw [hh] at hk
    injection hk with hk
    injection hk with _ hk
    exact ht hk.symm
/-- the type of an own row's block -/
theorem own_cellsG {w : World} {base e size n : Nat} {v : Value} {xs : List Value} (h : w.ownsRow base e size v n xs) {g : Nat} (hg : v.ownBlock = some g) : ∃ cur, w.heap[g]? = some (.cells cur e (0, 0)) := by
  rcases h.2 with ⟨rfl, _⟩ | ⟨g', cap, cur, rfl, _, hh, _⟩
  · simp [Value.ownBlock] at hg
  · simp [Value.ownBlock] at hg
    subst hg
    exact ⟨cur, hh⟩
/-- blocks of other types than trees are as they were, but one -/
def OffTr (w w' : World) (B : Nat) : Prop := ∀ (k : Nat) (cs : Array Value) (t : TypeId) (z : Nat × Nat), k ≠ B → w.heap[k]? = some (.cells cs t z) → t ≠ 135 → w'.heap[k]? = w.heap[k]?
theorem OffTr.trans {w w1 w2 : World} {M : Nat} (h1 : OffTr w w1 M) (h2 : OffTr w1 w2 M) : OffTr w w2 M := fun k cs t z hk hh ht => (h2 k cs t z hk ((h1 k cs t z hk hh ht).trans hh) ht).trans (h1 k cs t z hk hh ht)
theorem SyOwn.off {w w' : World} {base B : Nat} {u : Value} {l : List Nat} (h : SyOwn w base u l) (ho : OffTr w w' B) (hB : u.ownBlock ≠ some B) : SyOwn w' base u l := own_offG h fun g hg => by
  obtain ⟨cur, hc⟩ := own_cellsG h hg
  exact ho g cur _ _ (fun e => hB (by rw [hg, e])) hc (by decide)
theorem results_cellT {fn : Func} {p : Tmp} {ty : TypeId} (h : fn.results = #[.cell p ty]) (tmps : Array Value) (P : Program) (w : World) :
    (results fn tmps).run P w = ((asAddr (tmps.getD p undef)).run P w).andThen fun a w₁ => (loadVar ty a).run P w₁ := by
  simp only [results, h]
  simp [Sem.run_bind, Result.andThen]
def TreeCell (w : World) (b : Nat) (a0 a1 a2 : Value) : Prop := w.heap[b]? = some (.cells #[a0, a1, a2] 135 (0, 0))
theorem results_tree {fn : Func} {p : Tmp} (h : fn.results = #[.cell p 135]) (tmps : Array Value) (w : World) (g : Nat) (a0 a1 a2 : Value)
    (hp : tmps.getD p undef = .pointer (some ⟨g, 0, none⟩)) (hg : TreeCell w g a0 a1 a2) : (results fn tmps).run Try.prog w = .ok (.agg #[a0, a1, a2]) w := by
  rw [results_cellT h, hp]
  have info : (Try.prog.info? 135).map (·.size) = some 3 := by kernel_rfl
  simp [asAddr, run_loadVar_row w g 135 135 #[a0, a1, a2] (0, 0) _ hg Try.underlying135 rfl info, Result.andThen]
theorem TreeCell.set {w : World} {b : Nat} {a0 a1 a2 : Value} (h : TreeCell w b a0 a1 a2) (b0 b1 b2 : Value) : TreeCell (((w.setCell ⟨b, 0, none⟩ b0).setCell ⟨b, 1, none⟩ b1).setCell ⟨b, 2, none⟩ b2) b b0 b1 b2 := by
  unfold TreeCell at h ⊢
  simp [World.setCell, Array.getElem?_modify, h]
theorem TreeCell.cells {w : World} {b : Nat} {a0 a1 a2 : Value} (h : TreeCell w b a0 a1 a2) : (w.cell? ⟨b, 0, none⟩ = some a0 ∧ w.cell? ⟨b, 1, none⟩ = some a1 ∧ w.cell? ⟨b, 2, none⟩ = some a2) ∧ ∀ j, w.frozen? ⟨b, j, none⟩ = false := by
  unfold TreeCell at h
  simp [World.cell?, World.frozen?, h]
theorem own_cellsAt {w : World} {base e size n cap g : Nat} {xs : List Value} (h : w.ownsRow base e size (.slice (some ⟨g, 0, none⟩) n cap) n xs) : ∀ j u, xs[j]? = some u → w.cell? ⟨g, j, none⟩ = some u := by
  obtain ⟨F, _, hFt, _, _, hf⟩ := own_fullG h
  intro j u hu
  refine (own_thereG hf).1 j u ?_
  rw [← hFt, List.getElem?_take] at hu
  split at hu
  · exact hu
  · cases hu
/-- the box of the trees -/
def BoxAt (w : World) (b : Nat) (v : Value) : Prop := w.heap[b]? = some (.cells #[v] 133 (0, 0))
theorem BoxAt.cell {w : World} {b : Nat} {v : Value} (h : BoxAt w b v) : w.cell? ⟨b, 0, none⟩ = some v ∧ w.frozen? ⟨b, 0, none⟩ = false := by
  unfold BoxAt at h
  simp [World.cell?, World.frozen?, h]
theorem BoxAt.lt {w : World} {b : Nat} {v : Value} (h : BoxAt w b v) : b < w.heap.size := (Array.getElem?_eq_some_iff.1 h).1
set_option maxHeartbeats 4000000 in
set_option maxRecDepth 100000 in
theorem least_any (TB base : Nat) (tv : Value) (ts : List Tr) (w : World) (hbox : BoxAt w TB tv) (hTB : base ≤ TB) (hrow : TrAt w 135 base tv ts) (hne : 0 < ts.length) (hap : Apart ts) (hlen : ts.length ≤ 300) (hbw : base ≤ w.heap.size) :
    Calls Try.prog 79 #[.pointer (some ⟨TB, 0, none⟩)] w fun e w' => ∃ p a q u tv', ts = p ++ a :: q ∧ Least a (p ++ q) ∧ e = .returned (.agg #[.int .i64 (a.w : Int), .int .i64 (a.l : Int), u]) ∧ SyOwn w' base u a.sy ∧ BoxAt w' TB tv' ∧ TrAt w' 135 base tv' (p ++ q) ∧ Below base w w' ∧ OffTr w w' TB ∧ ∀ k, k < w.heap.size → k ≠ TB → tv.ownBlock ≠ some k → w'.heap[k]? = w.heap[k]? := by
  obtain ⟨us, hus, hown, hsy⟩ := hrow
  obtain ⟨g, cap, rfl, hg, hgz, hnc, hcm⟩ := own_slice hown hne
  unfold maxLen at hcm
  have hcells := own_cellsAt hown
  have HCT : Hid (∀ i (hi : i < ts.length), ∃ u, us[i]? = some u ∧ ∀ (w' : World), Below w.heap.size w w' → w'.cell? ⟨g, i * 3, none⟩ = some (.int .i64 ((ts[i].w : Nat) : Int)) ∧ w'.cell? ⟨g, i * 3 + 1, none⟩ = some (.int .i64 ((ts[i].l : Nat) : Int)) ∧ w'.cell? ⟨g, i * 3 + 2, none⟩ = some u) := hide (fun i hi => by
    obtain ⟨u, hu⟩ : ∃ u, us[i]? = some u := ⟨us[i]'(by omega), List.getElem?_eq_getElem (by omega)⟩
    obtain ⟨c0, c1, c2⟩ := trCells_at ts us i ts[i] u (List.getElem?_eq_getElem hi) hu hus
    exact ⟨u, hu, fun w' hb => ⟨(hb.cell (p := ⟨g, _, none⟩) hgz).trans (hcells _ _ c0), (hb.cell (p := ⟨g, _, none⟩) hgz).trans (hcells _ _ c1), (hb.cell (p := ⟨g, _, none⟩) hgz).trans (hcells _ _ c2)⟩⟩)
  have HBX : Hid (∀ (w' : World), Below w.heap.size w w' → w'.cell? ⟨TB, 0, none⟩ = some (.slice (some ⟨g, 0, none⟩) ts.length cap)) := hide (fun w' hb => (hb.cell (p := ⟨TB, 0, none⟩) hbox.lt).trans hbox.cell.1)
  have hb0 : Below w.heap.size w (w.alloc (.cells #[.int .i64 0, .int .i64 0, .slice none 0 0] 135)) := (Below.refl _ _).alloc (Nat.le_refl _) _
  have x0 := HBX.out _ hb0
  have HOWN := hide hown
  have HSY := hide hsy
  have HUS := hide hus
  have HBOX := hide hbox
  clear hcells hown hsy hbox hus
  go_enter Try.func79, Try.ntmps79
  go_wp2_with fail
  go_loopw [2, 8] (fun kv iv wr => ∃ i k : Nat, i ≤ ts.length ∧ k < ts.length ∧ kv = .int .i64 (k : Int) ∧ iv = .int .i64 (i : Int) ∧ Hid (∀ (j : Nat) (tj tk : Tr), j < i → ts[j]? = some tj → ts[k]? = some tk → j ≠ k → ¬ ltT tj tk) ∧ Hid (Below w.heap.size w wr) ∧ Hid (TreeCell wr w.heap.size (.int .i64 0) (.int .i64 0) (.slice none 0 0))) (fun _ iv _ => ts.length - (intOf iv).toNat)
  case atStart => exact ⟨0, 0, Nat.zero_le _, hne, rfl, rfl, fun j _ _ h => by omega, hb0, heap_alloc_new _ _⟩
  case round =>
    obtain ⟨i, k, hi, hk, rfl, rfl, hmin, hbw, hres⟩ := hrel
    clear x0
    by_cases hlt : i < ts.length
    · obtain ⟨ui, hui, hci⟩ := HCT.out i hlt
      obtain ⟨a0, a1, a2⟩ := hci _ hbw.out
      obtain ⟨ti, hti⟩ : ∃ t, ts[i] = t := ⟨_, rfl⟩
      obtain ⟨tk, htk⟩ : ∃ t, ts[k] = t := ⟨_, rfl⟩
      rw [hti] at a0 a1
      obtain ⟨UA, uc, rfl⟩ := own_formI (HSY.out i ui ti hui (by rw [← hti]; exact List.getElem?_eq_getElem hlt))
      have HTI := hide (show ts[i]? = some ti by rw [← hti]; exact List.getElem?_eq_getElem hlt)
      have HTK := hide (show ts[k]? = some tk by rw [← htk]; exact List.getElem?_eq_getElem hk)
      have hb1 := hide (hbw.out.trans (((Below.refl wr.heap.size wr).alloc (Nat.le_refl _) (.cells #[.int .i64 (ti.w : Int), .int .i64 (ti.l : Int), .slice UA ti.sy.length uc] 135)).mono hbw.out.size))
      obtain ⟨uk, huk, hck⟩ := HCT.out k hk
      obtain ⟨d0, d1, d2⟩ := hck _ hb1.out
      have dx := HBX.out _ hb1.out
      rw [htk] at d0 d1
      clear hti htk hui hci huk hck
      go_wp2_with fail
      have e0 : (wr.alloc (.cells #[.int .i64 (ti.w : Int), .int .i64 (ti.l : Int), .slice UA ti.sy.length uc] 135)).cell? ⟨wr.heap.size, 0, none⟩ = some (.int .i64 (ti.w : Int)) := by rw [World.cell?_alloc_new]; rfl
      have e1 : (wr.alloc (.cells #[.int .i64 (ti.w : Int), .int .i64 (ti.l : Int), .slice UA ti.sy.length uc] 135)).cell? ⟨wr.heap.size, 1, none⟩ = some (.int .i64 (ti.l : Int)) := by rw [World.cell?_alloc_new]; rfl
      have hres1 : Hid (TreeCell (wr.alloc (.cells #[.int .i64 (ti.w : Int), .int .i64 (ti.l : Int), .slice UA ti.sy.length uc] 135)) w.heap.size (.int .i64 0) (.int .i64 0) (.slice none 0 0)) := hide ((heap_alloc_old _ _ (Array.getElem?_eq_some_iff.1 hres.out).1).trans hres.out)
      obtain ⟨w5, hw5⟩ : ∃ w5, w5 = wr.alloc (.cells #[.int .i64 (ti.w : Int), .int .i64 (ti.l : Int), .slice UA ti.sy.length uc] 135) := ⟨_, rfl⟩
      rw [← hw5] at e0 e1 hb1 hres1 d0 d1 d2 dx ⊢
      clear hw5 a0 a1 a2 hbw hres
      by_cases hl : ltT ti tk
      · have HM : Hid (∀ (j : Nat) (tj t : Tr), j < i + 1 → ts[j]? = some tj → ts[i]? = some t → j ≠ i → ¬ ltT tj t) := hide (fun j tj t hj h1 h2 hne => by
          obtain rfl := Option.some.inj (h2.symm.trans HTI.out)
          by_cases hjk : j = k
          · subst hjk
            obtain rfl := Option.some.inj (h1.symm.trans HTK.out)
            exact fun h => ltT_asymm h hl
          · exact fun h => hmin.out j tj tk (by omega) h1 HTK.out hjk (ltT_trans h hl))
        unfold ltT at hl
        by_cases hw : (ti.w : Int) < (tk.w : Int)
        · have hw' : decide ((ti.w : Int) < (tk.w : Int)) = true := by simpa using hw
          clear hl hmin
          go_quiet (fail)
          go_wp2_with fail
          go_roundw
          case rel => exact ⟨i + 1, i, by omega, by omega, rfl, by go_num, HM, hide (below_drewN hb1.out _), hres1⟩
          case measure => simp [intOf]; omega
        · have hw' : decide ((ti.w : Int) < (tk.w : Int)) = false := by simpa using hw
          have hq : ((ti.w : Int) == (tk.w : Int)) = true := by simp; omega
          have hq2 : (ti.w : Int) = (tk.w : Int) := by omega
          have hr : (ti.l : Int) < (tk.l : Int) := by omega
          have hr' : decide ((ti.l : Int) < (tk.l : Int)) = true := by simpa using hr
          clear hl hmin hq2
          go_quiet (fail)
          go_wp2_with fail
          go_roundw
          case rel => exact ⟨i + 1, i, by omega, by omega, rfl, by go_num, HM, hide (below_drewN hb1.out _), hres1⟩
          case measure => simp [intOf]; omega
      · have HM : Hid (∀ (j : Nat) (tj t : Tr), j < i + 1 → ts[j]? = some tj → ts[k]? = some t → j ≠ k → ¬ ltT tj t) := hide (fun j tj t hj h1 h2 hne => by
          obtain rfl := Option.some.inj (h2.symm.trans HTK.out)
          by_cases hji : j = i
          · subst hji
            obtain rfl := Option.some.inj (h1.symm.trans HTI.out)
            exact hl
          · exact hmin.out j tj t (by omega) h1 HTK.out hne)
        unfold ltT at hl
        have hw : ¬ ((ti.w : Int) < (tk.w : Int)) := by omega
        have hw' : decide ((ti.w : Int) < (tk.w : Int)) = false := by simpa using hw
        by_cases hq : ti.w = tk.w
        · have hq' : ((ti.w : Int) == (tk.w : Int)) = true := by simp; omega
          have hr : ¬ ((ti.l : Int) < (tk.l : Int)) := by omega
          have hr' : decide ((ti.l : Int) < (tk.l : Int)) = false := by simpa using hr
          clear hl hmin hq
          go_quiet (fail)
          go_wp2_with fail
          go_roundw
          case rel => exact ⟨i + 1, k, by omega, by omega, rfl, by go_num, HM, hide (below_drewN hb1.out _), hres1⟩
          case measure => simp [intOf]; omega
        · have hq' : ((ti.w : Int) == (tk.w : Int)) = false := by simp; omega
          clear hl hmin hq
          go_quiet (fail)
          go_wp2_with fail
          go_roundw
          case rel => exact ⟨i + 1, k, by omega, by omega, rfl, by go_num, HM, hide (below_drewN hb1.out _), hres1⟩
          case measure => simp [intOf]; omega
    · obtain rfl : i = ts.length := by omega
      obtain ⟨uk, huk, hck⟩ := HCT.out k hk
      obtain ⟨d0, d1, d2⟩ := hck _ hbw.out
      have dx := HBX.out _ hbw.out
      obtain ⟨tk, htk⟩ : ∃ t, ts[k] = t := ⟨_, rfl⟩
      rw [htk] at d0 d1
      have HTK := hide (show ts[k]? = some tk by rw [← htk]; exact List.getElem?_eq_getElem hk)
      have HUK := hide huk
      have hsk := HSY.out k uk tk huk HTK.out
      have HSK := hide hsk
      obtain ⟨UA, uc, rfl⟩ := own_formI hsk
      clear htk huk hck hsk
      have hbs := hbw.out.size
      have hb1 := hbw.out.trans (((Below.refl wr.heap.size wr).alloc (Nat.le_refl _) (.cells #[.int .i64 (tk.w : Int), .int .i64 (tk.l : Int), .slice UA tk.sy.length uc] 135)).mono hbs)
      have dy := HBX.out _ hb1
      have hres1 : Hid (TreeCell (wr.alloc (.cells #[.int .i64 (tk.w : Int), .int .i64 (tk.l : Int), .slice UA tk.sy.length uc] 135)) w.heap.size (.int .i64 0) (.int .i64 0) (.slice none 0 0)) := hide ((heap_alloc_old _ _ (Array.getElem?_eq_some_iff.1 hres.out).1).trans hres.out)
      have hnew1 : Hid (TreeCell (wr.alloc (.cells #[.int .i64 (tk.w : Int), .int .i64 (tk.l : Int), .slice UA tk.sy.length uc] 135)) wr.heap.size (.int .i64 (tk.w : Int)) (.int .i64 (tk.l : Int)) (.slice UA tk.sy.length uc)) := hide (heap_alloc_new _ _)
      have hownA := own_below HOWN.out hb1
      have hdel := delete_any _ ts.length k (trCells ts us) base _ hownA hk (by omega) (trCells_one ts us (fun u hu => by
        obtain ⟨i, hi, rfl⟩ := List.getElem_of_mem hu
        exact sy_one (HSY.out i _ _ (List.getElem?_eq_getElem hi) (List.getElem?_eq_getElem (by rw [← HUS.out]; exact hi)))))
      have HDEL := hide hdel
      have HB1 := hide hb1
      have HOA := hide hownA
      have hw1 : IntKind.i64.wrap ((k : Int) + 1) = (k : Int) + 1 := by rw [IntKind.wrap_i64]; omega
      have hlts := HBOX.out.lt
      have hRlt : w.heap.size < wr.heap.size := (Array.getElem?_eq_some_iff.1 hres.out).1
      clear hdel hb1 hownA hres
      go_wp2_with fail
      refine HDEL.out.mono ?_
      rintro e w7 ⟨g7, c7, ev, rfl, ho7, hg7⟩
      injection ev with ev1 _ ev3
      injection ev1 with ev1
      injection ev1 with ev1
      subst ev1 ev3
      have hbx7 : BoxAt w7 TB (.slice (some ⟨g, 0, none⟩) ts.length cap) := (hg7.block TB (by have := HB1.out.size; omega) (own_typeG HOA.out ((HB1.out.block TB hlts).trans HBOX.out) (by decide)).symm).trans ((HB1.out.block TB hlts).trans HBOX.out)
      have hne1 : g ≠ w.heap.size := by omega
      have hne2 : g ≠ wr.heap.size := by omega
      have hrs7 : TreeCell w7 w.heap.size (.int .i64 0) (.int .i64 0) (.slice none 0 0) := (hg7.block _ (by simp; omega) (by simp [Value.ownBlock]; omega)).trans hres1.out
      have hnw7 : TreeCell w7 wr.heap.size (.int .i64 (tk.w : Int)) (.int .i64 (tk.l : Int)) (.slice UA tk.sy.length uc) := (hg7.block _ (by simp) (by simp [Value.ownBlock]; omega)).trans hnew1.out
      obtain ⟨bx0, bx1⟩ := hbx7.cell
      obtain ⟨⟨r0, r1, r2⟩, rf⟩ := hrs7.cells
      obtain ⟨⟨n0, n1, n2⟩, _⟩ := hnw7.cells
      have rf0 := rf 0
      have rf1 := rf 1
      have rf2 := rf 2
      have hd1 : ¬ (TB = wr.heap.size) := by omega
      have hd2 : ¬ (TB = w.heap.size) := by omega
      have hd3 : ¬ (w.heap.size = TB) := by omega
      have hd4 : ¬ (wr.heap.size = TB) := by omega
      have hd5 : ¬ (w.heap.size = wr.heap.size) := by omega
      have HO7 := hide ho7
      have HG7 := hide hg7
      have HBX7 := hide hbx7
      have HRS7 := hide hrs7
      clear ho7 hg7 hbx7 hrs7 hnw7 rf
      go_wp2_with fail
      refine bodyPost_ret (results_tree rfl _ _ w.heap.size _ _ _ rfl (TreeCell.set ((heap_setCell_other _ _ _ _ (by show w.heap.size ≠ TB; omega)).trans HRS7.out) _ _ _)) rfl ?_
      have hkp : ∀ i, i ≠ TB → i ≠ w.heap.size → ((((w7.setCell ⟨TB, 0, none⟩ (.slice (some ⟨g, 0, none⟩) (ts.length - 1) cap)).setCell ⟨w.heap.size, 0, none⟩ (.int .i64 (tk.w : Int))).setCell ⟨w.heap.size, 1, none⟩ (.int .i64 (tk.l : Int))).setCell ⟨w.heap.size, 2, none⟩ (.slice UA tk.sy.length uc)).heap[i]? = w7.heap[i]? := fun i h1 h2 => by
        rw [heap_setCell_other _ _ _ _ h2, heap_setCell_other _ _ _ _ h2, heap_setCell_other _ _ _ _ h2, heap_setCell_other _ _ _ _ h1]
      have hkt : ((((w7.setCell ⟨TB, 0, none⟩ (.slice (some ⟨g, 0, none⟩) (ts.length - 1) cap)).setCell ⟨w.heap.size, 0, none⟩ (.int .i64 (tk.w : Int))).setCell ⟨w.heap.size, 1, none⟩ (.int .i64 (tk.l : Int))).setCell ⟨w.heap.size, 2, none⟩ (.slice UA tk.sy.length uc)).heap[TB]? = some (.cells #[.slice (some ⟨g, 0, none⟩) (ts.length - 1) cap] 133 (0, 0)) := by
        have hb := HBX7.out
        unfold BoxAt at hb
        rw [heap_setCell_other _ _ _ _ hd2, heap_setCell_other _ _ _ _ hd2, heap_setCell_other _ _ _ _ hd2]
        simp [World.setCell, Array.getElem?_modify, hb]
      have hbel : Below base w ((((w7.setCell ⟨TB, 0, none⟩ (.slice (some ⟨g, 0, none⟩) (ts.length - 1) cap)).setCell ⟨w.heap.size, 0, none⟩ (.int .i64 (tk.w : Int))).setCell ⟨w.heap.size, 1, none⟩ (.int .i64 (tk.l : Int))).setCell ⟨w.heap.size, 2, none⟩ (.slice UA tk.sy.length uc)) := by
        have b7 : Below base w w7 := (HB1.out.mono ‹base ≤ w.heap.size›).grown HG7.out (by have := HB1.out.size; omega) (fun x hx => by simp [Value.ownBlock] at hx; omega)
        exact (((b7.setCell (p := ⟨TB, 0, none⟩) hTB _).setCell (p := ⟨w.heap.size, 0, none⟩) ‹base ≤ w.heap.size› _).setCell (p := ⟨w.heap.size, 1, none⟩) ‹base ≤ w.heap.size› _).setCell (p := ⟨w.heap.size, 2, none⟩) ‹base ≤ w.heap.size› _
      obtain ⟨W8, hW8⟩ : ∃ W8, W8 = (((w7.setCell ⟨TB, 0, none⟩ (.slice (some ⟨g, 0, none⟩) (ts.length - 1) cap)).setCell ⟨w.heap.size, 0, none⟩ (.int .i64 (tk.w : Int))).setCell ⟨w.heap.size, 1, none⟩ (.int .i64 (tk.l : Int))).setCell ⟨w.heap.size, 2, none⟩ (.slice UA tk.sy.length uc) := ⟨_, rfl⟩
      rw [← hW8] at hkp hkt hbel ⊢
      have hoff : OffTr w W8 TB := fun i cs t z hi hh ht => by
        have hlt := (Array.getElem?_eq_some_iff.1 hh).1
        have h6 := HB1.out.block i hlt
        exact (hkp i hi (by omega)).trans ((HG7.out.block i (by have := HB1.out.size; omega) (own_typeG HOA.out (h6.trans hh) ht).symm).trans h6)
      have hsyo : ∀ (i : Nat) (u : Value) (t : Tr), us[i]? = some u → ts[i]? = some t → SyOwn W8 base u t.sy := fun i u t h1 h2 => (HSY.out i u t h1 h2).off hoff (own_typeG (HSY.out i u t h1 h2) HBOX.out (by decide))
      have hkl : k < ts.length := hk
      have hts : ts = ts.take k ++ tk :: ts.drop (k + 1) := by
        have h1 := HTK.out
        rw [List.getElem?_eq_getElem hkl] at h1
        have h2 := Option.some.inj h1
        rw [← h2, ← List.drop_eq_getElem_cons hkl, List.take_append_drop]
      refine ⟨ts.take k, tk, ts.drop (k + 1), .slice UA tk.sy.length uc, .slice (some ⟨g, 0, none⟩) (ts.length - 1) cap, hts, ?_, rfl, hsyo k _ _ HUK.out HTK.out, hkt, ?_, hbel, hoff, fun i hlt hi hne => (hkp i hi (by omega)).trans ((HG7.out.block i (by have := HB1.out.size; omega) (fun e => hne e.symm)).trans (HB1.out.block i hlt))⟩
      · refine least_of (by rw [← hts]; exact hap) (fun b hb => ?_)
        rcases List.mem_append.1 hb with hb | hb
        · obtain ⟨j, hj, rfl⟩ := List.getElem_of_mem hb
          rw [List.length_take] at hj
          exact hmin.out j _ tk (by omega) (by rw [List.getElem_take]; exact List.getElem?_eq_getElem _) HTK.out (by omega)
        · obtain ⟨j, hj, rfl⟩ := List.getElem_of_mem hb
          rw [List.length_drop] at hj
          exact hmin.out (k + 1 + j) _ tk (by omega) (by rw [List.getElem_drop]; exact List.getElem?_eq_getElem _) HTK.out (by omega)
      · have hle : (ts.take k ++ ts.drop (k + 1)).length = ts.length - 1 := by simp; omega
        refine ⟨us.take k ++ us.drop (k + 1), by simp [HUS.out], ?_, fun i u t h1 h2 => ?_⟩
        · rw [hle, ← trCells_cut ts us k hkl HUS.out]
          exact own_offG HO7.out fun x hx => hkp x (fun e => own_typeG HO7.out HBX7.out (by decide) (by rw [hx, e])) (fun e => by simp [Value.ownBlock] at hx; omega)
        · have hl1 : (us.take k).length = (ts.take k).length := by simp [HUS.out]
          by_cases hi : i < (ts.take k).length
          · rw [List.getElem?_append_left (by omega)] at h1
            rw [List.getElem?_append_left hi] at h2
            rw [List.getElem?_take] at h1 h2
            split at h1
            · rename_i hik
              rw [if_pos hik] at h2
              exact hsyo i u t h1 h2
            · cases h1
          · rw [List.getElem?_append_right (by omega), List.getElem?_drop, hl1] at h1
            rw [List.getElem?_append_right (by omega), List.getElem?_drop] at h2
            exact hsyo _ u t h1 h2
end Go.Proofs.Ytfjbdbdjhkmifaa
