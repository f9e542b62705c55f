/- text.Uniq and the reference's Grouped. -/
import Derived.Test.YtbelbgfigmbobaaGreatDoorUniqW
import Derived.Test.YtbelbgfigmbobaaGreatDoorValid
import Derived.Test.YtbelbgfigmbobaaGreatDoorApp1
import Derived.Test.YtbelbgfigmbobaaGreatDoorItoa
set_option linter.unusedVariables false
set_option linter.unusedSimpArgs false
namespace Go.Pw
open Go.RowKit
def inU (x : Int) : Bool := decide (0 ≤ x) && decide (x ≤ 4096)
def uqOk (o : Uq) : Bool := (inU o.fields && inU o.skip) && inU o.bytes
def uqErr (o : Uq) (s : ByteArray) : Int := firstNZ [if uqOk o then 0 else 3, if bigB s then 2 else 0]
theorem uqOk_good {o : Uq} (h : uqOk o = true) : o.good := by
  unfold uqOk inU at h
  simp at h
  unfold Uq.good
  omega
theorem three_cells (w : World) (a b c : Int) (t : TypeId) (k : Nat) (hk : k < 3) : (w.alloc (.cells #[.int .i64 a, .int .i64 b, .int .i64 c] t)).cell? ⟨w.heap.size, k, none⟩ = some (.int .i64 ([a, b, c].getD k 0)) := by
  rw [World.cell?_alloc_new]
  match k, hk with
  | 0, _ => rfl
  | 1, _ => rfl
  | 2, _ => rfl
end Go.Pw
namespace Go.Proofs.YtbelbgfigmbobaaGreatDoor
open Go.RowKit Go.Pw
set_option maxHeartbeats 2000000 in
set_option maxRecDepth 100000 in
theorem uniq_bad (o : Uq) (s : ByteArray) (n : Int) (w : World) (hs : s.size ≤ maxLen) (hn : n ≠ 0) (he : uqErr o s = n) :
    Calls Tryz.prog 8 #[uqV o, .string s] w fun e w' => e = .returned (.tuple #[.string ⟨#[]⟩, .int .i64 n]) ∧ Below w.heap.size w w' := by
  have hbn := (Below.refl w.heap.size w).alloc (Nat.le_refl _) (.cells #[.int .i64 o.fields, .int .i64 o.skip, .int .i64 o.bytes, .bool o.fold, .bool o.count, .bool o.rep, .bool o.alone] 23)
  have hnn : UqIn (w.alloc (.cells #[.int .i64 o.fields, .int .i64 o.skip, .int .i64 o.bytes, .bool o.fold, .bool o.count, .bool o.rep, .bool o.alone] 23)) w.heap.size 23 o := heap_alloc_new _ _
  obtain ⟨W1, hW1⟩ : ∃ W1, w.alloc (.cells #[.int .i64 o.fields, .int .i64 o.skip, .int .i64 o.bytes, .bool o.fold, .bool o.count, .bool o.rep, .bool o.alone] 23) = W1 := ⟨_, rfl⟩
  rw [hW1] at hbn hnn
  have HB := hide hbn
  have HN := hide hnn
  have HC3 := hide (fun k hk => three_cells W1 o.fields o.skip o.bytes 3 k hk)
  have HB2 := hide (hbn.alloc hbn.size (.cells #[.int .i64 o.fields, .int .i64 o.skip, .int .i64 o.bytes] 3))
  obtain ⟨W2, hW2⟩ : ∃ W2, W1.alloc (.cells #[.int .i64 o.fields, .int .i64 o.skip, .int .i64 o.bytes] 3) = W2 := ⟨_, rfl⟩
  have hz1 : W1.heap.size = w.heap.size + 1 := by rw [← hW1]; simp
  simp only [hW2, hz1] at HC3 HB2
  have HS := hide (fun W => sized_any _ [s] _ (strs_one W s 9 hs))
  have HE := hide he
  have HNN := hide hn
  have HU : Hid (uqOk o = true ↔ ∀ k, k < 3 → inU ([o.fields, o.skip, o.bytes].getD k 0) = true) := hide ⟨fun h k hk => by
    unfold uqOk at h
    simp only [Bool.and_eq_true] at h
    match k, hk with
    | 0, _ => exact h.1.1
    | 1, _ => exact h.1.2
    | 2, _ => exact h.2, fun h => by
    unfold uqOk
    rw [show inU o.fields = true from h 0 (by omega), show inU o.skip = true from h 1 (by omega), show inU o.bytes = true from h 2 (by omega)]; rfl⟩
  have HW1 := hide hW1
  have HW2 := hide hW2
  obtain ⟨d0, d1, d2, d3, d4, d5, d6⟩ := HN.out.cells
  unfold uqV
  clear hbn hnn hn he hW1 hW2 hz1
  go_enter Tryz.func8, Tryz.ntmps8
  go_wp2_with fail
  rw [HW1.out, HW2.out]
  go_loop [22] (fun i => ∃ k : Nat, k ≤ 3 ∧ i = .int .i64 (k : Int) ∧ Hid (∀ j, j < k → inU ([o.fields, o.skip, o.bytes].getD j 0) = true)) (fun i => 3 - (intOf i).toNat)
  case atStart => exact ⟨0, by omega, rfl, hide (fun j hj => absurd hj (by omega))⟩
  case round =>
    obtain ⟨k, hk, rfl, HK⟩ := hrel
    by_cases hlt : k < 3
    · have hc := HC3.out k hlt
      have HNX : Hid (inU ([o.fields, o.skip, o.bytes].getD k 0) = true → ∀ j, j < k + 1 → inU ([o.fields, o.skip, o.bytes].getD j 0) = true) := hide (fun h j hj => by
        rcases Nat.lt_or_ge j k with h' | h'
        · exact HK.out j h'
        · obtain rfl : j = k := by omega
          exact h)
      have HBD : Hid (inU ([o.fields, o.skip, o.bytes].getD k 0) = false → n = 3) := hide (fun h => by
        have h1 : uqOk o = false := by
          rw [Bool.eq_false_iff]
          intro h'
          have := HU.out.1 h' k hlt
          rw [h] at this; cases this
        have := HE.out
        unfold uqErr at this
        rw [h1] at this
        simpa [firstNZ] using this.symm)
      obtain ⟨x, hx⟩ : ∃ x, [o.fields, o.skip, o.bytes].getD k 0 = x := ⟨_, rfl⟩
      rw [hx] at hc HNX HBD
      have hd : (k : Int) < 3 := by omega
      clear hx
      go_wp2_with fail
      refine (within_any x 0 4096 _).mono ?_
      rintro e w' ⟨rfl, rfl⟩
      cases h : (decide (0 ≤ x) && decide (x ≤ 4096))
      · have h3 := HBD.out h
        subst h3
        go_wp2_with fail
        go_ret2
        exact ⟨rfl, HB2.out⟩
      · have HX := hide (HNX.out h)
        clear h
        go_wp2_with fail
        go_round
        case rel => exact ⟨k + 1, by omega, by go_num, HX⟩
        case measure => simp [intOf]; omega
    · obtain rfl : k = 3 := by omega
      have h1 : uqOk o = true := HU.out.2 HK.out
      have HE2 : Hid ((if bigB s then 2 else 0 : Int) = n) := hide (by
        have := HE.out
        unfold uqErr at this
        rw [h1] at this
        rw [← this]
        cases bigB s <;> rfl)
      have hd : ¬ (((3 : Nat) : Int) < 3) := by omega
      have e1 : ([s].any bigB) = bigB s := by simp
      simp only [e1] at HS
      cases h2 : bigB s
      · rw [h2] at HE2
        exact absurd HE2.out.symm HNN.out
      · rw [h2] at HE2
        have h3 : (2 : Int) = n := HE2.out
        subst h3
        simp only [h2] at HS
        clear h1 e1 h2
        go_wp2_with fail
        refine (HS.out _).mono ?_
        rintro e w3 ⟨rfl, hb3⟩
        have HB3 := hide ((HB2.out.alloc HB2.out.size (.cells #[.string s] 9)).trans (hb3.mono (by have := HB2.out.size; simp; omega)))
        clear hb3
        go_wp2_with fail
        go_ret2
        exact ⟨rfl, HB3.out⟩
/- the good case -/
theorem bigB_prt {s : ByteArray} (h : bigB s = false) : s.size ≤ 65536 ∧ (linesOf s).length ≤ 4096 ∧ ∀ x ∈ linesOf s, x.size ≤ 65536 := by
  have h1 := (linesOf_bound s).2
  unfold bigB at h
  simp at h
  exact ⟨by omega, by omega, fun x hx => by have := h1 x hx; omega⟩
structure UEnv (T : TypeId) (bu : Nat) (o : Uq) (b3 p1 p2 : Nat) (x y : ByteArray) (w0 W : World) : Prop where
  un : UqIn W bu T o
  cx : W.cell? ⟨b3, p1, none⟩ = some (.string x)
  cy : W.cell? ⟨b3, p2, none⟩ = some (.string y)
  lb : b3 < W.heap.size
  bel : Below w0.heap.size w0 W
theorem UEnv.next {T : TypeId} {bu b3 p1 p2 M : Nat} {o : Uq} {x y : ByteArray} {w0 W V w' : World} (h : UEnv T bu o b3 p1 p2 x y w0 W) (hb : Below M V w') (e1 : V.heap = W.heap) (e2 : V.os = W.os) (e3 : V.tape = W.tape) (e4 : V.output = W.output) (hM : W.heap.size ≤ M) : UEnv T bu o b3 p1 p2 x y w0 w' :=
  ⟨(hb.block bu (Nat.lt_of_lt_of_le h.un.lt hM)).trans (by rw [e1]; exact h.un), cell_next h.cx hb e1 (Nat.lt_of_lt_of_le h.lb hM), cell_next h.cy hb e1 (Nat.lt_of_lt_of_le h.lb hM), Nat.lt_of_lt_of_le h.lb (by rw [← e1]; exact hb.size), below_next h.bel hb e1 e2 e3 e4 (Nat.le_trans h.bel.size hM)⟩
/-- where the loop over the groups stands -/
def UqAt (T tS : TypeId) (o : Uq) (L : List ByteArray) (w w3 : World) (v i : Value) (wr : World) : Prop :=
  ∃ (k : Nat) (D : List ByteArray), k ≤ L.length ∧ i = .int .i64 (k : Int) ∧ Hid (D ++ grpU o L k = grpU o L 0) ∧ Hid (OwnS tS wr w3.heap.size v D) ∧ Hid (Below w3.heap.size w3 wr) ∧ Hid (Below w.heap.size w wr) ∧ Hid (UqIn wr w.heap.size T o)
set_option maxHeartbeats 16000000 in
set_option maxRecDepth 100000 in
theorem uniq_good (o : Uq) (s : ByteArray) (w : World) (hok : uqOk o = true) (hb : bigB s = false) (hT : PowTab w) :
    Calls Tryz.prog 8 #[uqV o, .string s] w fun e w' => e = .returned (.tuple #[.string (mkB (resL (grpU o (linesOf s) 0))), .int .i64 0]) ∧ Below w.heap.size w w' := by
  have hbn := (Below.refl w.heap.size w).alloc (Nat.le_refl _) (.cells #[.int .i64 o.fields, .int .i64 o.skip, .int .i64 o.bytes, .bool o.fold, .bool o.count, .bool o.rep, .bool o.alone] 23)
  have hnn : UqIn (w.alloc (.cells #[.int .i64 o.fields, .int .i64 o.skip, .int .i64 o.bytes, .bool o.fold, .bool o.count, .bool o.rep, .bool o.alone] 23)) w.heap.size 23 o := heap_alloc_new _ _
  obtain ⟨W1, hW1⟩ : ∃ W1, w.alloc (.cells #[.int .i64 o.fields, .int .i64 o.skip, .int .i64 o.bytes, .bool o.fold, .bool o.count, .bool o.rep, .bool o.alone] 23) = W1 := ⟨_, rfl⟩
  rw [hW1] at hbn hnn
  have HC3 := hide (fun k hk => three_cells W1 o.fields o.skip o.bytes 3 k hk)
  have hb2 := (Below.refl W1.heap.size W1).alloc (Nat.le_refl _) (.cells #[.int .i64 o.fields, .int .i64 o.skip, .int .i64 o.bytes] 3)
  obtain ⟨W2, hW2⟩ : ∃ W2, W1.alloc (.cells #[.int .i64 o.fields, .int .i64 o.skip, .int .i64 o.bytes] 3) = W2 := ⟨_, rfl⟩
  have hz1 : W1.heap.size = w.heap.size + 1 := by rw [← hW1]; simp
  rw [hW2] at hb2
  have HB2 := hide (hbn.trans (hb2.mono hbn.size))
  have HN2 := hide (hnn.below hb2 hnn.lt)
  simp only [hW2, hz1] at HC3
  obtain ⟨hsz, hln, hls⟩ := bigB_prt hb
  have HS := hide (fun W => sized_any _ [s] _ (strs_one W s 9 (by unfold maxLen; omega)))
  have e0 : ([s].any bigB) = false := by simp [hb]
  rw [e0] at HS
  have HLI := hide (fun W => lines_any s W (by omega))
  have ho := uqOk_good hok
  have HAL := hide (fun (z : ByteArray) W (hz : z.size ≤ 65536) => alike_any o z W ho hz)
  have HIT := hide (fun (n : Int) W (hb : Below w.heap.size w W) h0 h1 => itoa_any n W h0 h1 (hT.below hb))
  have HU : Hid (∀ k, k < 3 → (decide (0 ≤ [o.fields, o.skip, o.bytes].getD k 0) && decide ([o.fields, o.skip, o.bytes].getD k 0 ≤ 4096)) = true) := hide (fun k hk => by
    unfold uqOk at hok
    simp only [Bool.and_eq_true] at hok
    match k, hk with
    | 0, _ => exact hok.1.1
    | 1, _ => exact hok.1.2
    | 2, _ => exact hok.2)
  have hgb := grpU_bound o (linesOf s) 65536 (by omega) hls (linesOf s).length 0 (by omega)
  have HLS := hide hls
  obtain ⟨L, hL⟩ : ∃ L, linesOf s = L := ⟨_, rfl⟩
  rw [hL] at HLI HLS hln hgb
  rw [hL]
  have HGB := hide hgb
  have HRL : Hid ((resL (grpU o L 0)).length ≤ 1000000000) := hide (by
    have h1 := hgb.2.2
    have h2 : (L.length - 0) * (65536 + 23) ≤ 4096 * (65536 + 23) := Nat.mul_le_mul (by omega) (Nat.le_refl _)
    omega)
  have HLN := hide hln
  have HUL : Hid (w.heap.size < W1.heap.size) := hide hnn.lt
  have HW1 := hide hW1
  have HW2 := hide hW2
  have HZ1 := hide hz1
  obtain ⟨d0, d1, d2, d3, d4, d5, d6⟩ := hnn.cells
  unfold uqV at HAL ⊢
  clear hbn hnn hb2 hW1 hW2 hz1 hL hgb hls hb hsz e0 hok ho
  go_enter Tryz.func8, Tryz.ntmps8
  go_wp2_with fail
  rw [HW1.out, HW2.out]
  go_loop [22] (fun i => ∃ k : Nat, k ≤ 3 ∧ i = .int .i64 (k : Int)) (fun i => 3 - (intOf i).toNat)
  case atStart => exact ⟨0, by omega, rfl⟩
  case round =>
    obtain ⟨k, hk, rfl⟩ := hrel
    by_cases hlt : k < 3
    · have hc := HC3.out k hlt
      have HX := hide (HU.out k hlt)
      obtain ⟨x, hx⟩ : ∃ x, [o.fields, o.skip, o.bytes].getD k 0 = x := ⟨_, rfl⟩
      rw [hx] at hc HX
      have hd : (k : Int) < 3 := by omega
      clear hx
      go_wp2_with fail
      refine (within_any x 0 4096 _).mono ?_
      rintro e w' ⟨rfl, rfl⟩
      rw [HX.out]
      go_wp2_with fail
      go_round
      case rel => exact ⟨k + 1, by omega, by go_num⟩
      case measure => simp [intOf]; omega
    · obtain rfl : k = 3 := by omega
      have hd : ¬ (((3 : Nat) : Int) < 3) := by omega
      clear d0 d1 d2 d3 d4 d5 d6
      go_wp2_with fail
      refine (HS.out _).mono ?_
      rintro e w2 ⟨rfl, hb3⟩
      have hb3' := ((Below.refl W2.heap.size W2).alloc (Nat.le_refl _) (.cells #[.string s] 9)).trans (hb3.mono (by simp))
      have HB3 := hide (HB2.out.trans (hb3'.mono HB2.out.size))
      have HN3 := hide (HN2.out.below hb3' HN2.out.lt)
      clear hb3 hb3'
      go_wp2_with fail
      refine (HLI.out _).mono ?_
      rintro e w3 ⟨v, rfl, hr⟩
      have hb4 := linesRes_below hr
      have HB4 := hide (HB3.out.trans (hb4.mono HB3.out.size))
      have HN4 := hide (HN3.out.below hb4 HN3.out.lt)
      have HV := hide (linesRes_strs hr (fun x hx => by have := HLS.out x hx; unfold maxLen; omega) (by unfold maxLen; omega))
      clear hr hb4
      obtain ⟨⟨_, LA, lc, rfl, hcap, hmax, hx⟩, _⟩ := HV.out
      have HX := hide hx
      have HCz0 : Hid (w.heap.size ≤ w3.heap.size) := hide HB4.out.size
      have HUL : Hid (w.heap.size < w3.heap.size) := hide HN4.out.lt
      clear hx HV
      unfold maxLen at hmax
      go_wp2_with fail
      go_loopw [10, 11] (fun v i wr => UqAt 23 9 o L w w3 v i wr) (fun _ i _ => L.length - (intOf i).toNat)
      case atStart => exact ⟨0, [], by omega, rfl, hide rfl, World.ownsRow_nil _ _ _ _, Below.refl _ _, HB4, HN4⟩
      case round =>
        clear hd
        obtain ⟨k, D, hk, rfl, HGD, HO, HB, HC, HN⟩ := hrel
        obtain ⟨OA, oc, rfl⟩ := own_slice HO.out
        have HDL : Hid (D.length ≤ 1000000000) := hide (by
          have h1 := congrArg List.length HGD.out
          rw [List.length_append] at h1
          have h2 := HGB.out.1
          have h3 := HLN.out
          omega)
        by_cases hlt : k < L.length
        · have hd : (k : Int) < (L.length : Int) := by omega
          obtain ⟨b3, o3, rfl, hb3, hj3⟩ := HX.out (by omega)
          have HCL : Hid (∀ (i : Nat) (W : World), i < L.length → Below w3.heap.size w3 W → W.cell? ⟨b3, o3 + i, none⟩ = some (.string (L.getD i ⟨#[]⟩))) := hide (fun i W hi hW => (hW.cell (p := ⟨b3, o3 + i, none⟩) hb3).trans (hj3 i _ (by simp [hi, List.getD])))
          have HLB : Hid (b3 < w3.heap.size) := hide hb3
          have HLG : Hid (∀ i, (L.getD i ⟨#[]⟩).size ≤ 65536) := hide (fun i => by
            rw [List.getD_eq_getElem?_getD]
            cases h : L[i]? with
            | none => show (⟨#[]⟩ : ByteArray).size ≤ _; decide
            | some x => exact HLS.out x (List.mem_of_getElem? h))
          have HNX0 : Hid (∀ m, runL o L k = m → grpU o L k = pieceU o (L.getD k ⟨#[]⟩) m ++ grpU o L (k + m)) := hide (fun m hm => by rw [grpU_next hlt, hm]; simp [List.getD, hlt])
          have HRU : Hid (∀ m, 1 ≤ m → k + m ≤ L.length → (∀ j, 1 ≤ j → j < m → alk o (L.getD (k + j) ⟨#[]⟩) = alk o (L.getD k ⟨#[]⟩)) → (k + m < L.length → ¬ alk o (L.getD (k + m) ⟨#[]⟩) = alk o (L.getD k ⟨#[]⟩)) → runL o L k = m) := hide (fun m g1 g2 g3 g4 => runL_eq hlt (by omega) g1 g3 g4)
          have HAY := hide (fun W => HAL.out (L.getD k ⟨#[]⟩) W (HLG.out k))
          have hys := HLG.out k
          obtain ⟨y, hy⟩ : ∃ y, L.getD k ⟨#[]⟩ = y := ⟨_, rfl⟩
          have HCY : Hid (∀ (W : World), Below w3.heap.size w3 W → W.cell? ⟨b3, o3 + k, none⟩ = some (.string y)) := hide (fun W hW => by rw [HCL.out k W hlt hW, hy])
          simp only [hy] at HNX0 HRU HAY
          rw [hy] at hys
          obtain ⟨Y, hY⟩ : ∃ Y, alk o y = Y := ⟨_, rfl⟩
          simp only [hY] at HRU HAY
          clear hj3 hb3 hy hY
          go_wp2_with fail
          go_loopw [12] (fun nv wq => ∃ m : Nat, 1 ≤ m ∧ k + m ≤ L.length ∧ nv = .int .i64 (m : Int) ∧ Hid (∀ j, 1 ≤ j → j < m → alk o (L.getD (k + j) ⟨#[]⟩) = Y) ∧ Hid (OwnS 9 wq w3.heap.size (.slice OA D.length oc) D) ∧ Hid (Below w3.heap.size w3 wq) ∧ Hid (Below w.heap.size w wq) ∧ Hid (UqIn wq w.heap.size 23 o)) (fun nv _ => L.length - (intOf nv).toNat)
          case atStart => exact ⟨1, by omega, by omega, rfl, hide (fun j h1 h2 => absurd h1 (by omega)), HO, HB, HC, HN⟩
          case round =>
            obtain ⟨m, hm1, hmk, rfl, HEQ, HOz, HBz, HCz, HNz⟩ := hrel
            have hzz := HBz.out.size
            have cyz := HCY.out _ HBz.out
            by_cases hlt2 : k + m < L.length
            · have hd2 : (k : Int) + (m : Int) < (L.length : Int) := by omega
              have cxz := HCL.out (k + m) _ hlt2 HBz.out
              have HAX := hide (fun W => HAL.out (L.getD (k + m) ⟨#[]⟩) W (HLG.out (k + m)))
              have HRN : Hid (¬ alk o (L.getD (k + m) ⟨#[]⟩) = Y → runL o L k = m) := hide (fun h => HRU.out m hm1 hmk HEQ.out (fun _ => h))
              have HEN : Hid (alk o (L.getD (k + m) ⟨#[]⟩) = Y → ∀ j, 1 ≤ j → j < m + 1 → alk o (L.getD (k + j) ⟨#[]⟩) = Y) := hide (fun h j h1 h2 => by
                rcases Nat.lt_or_ge j m with h' | h'
                · exact HEQ.out j h1 h'
                · obtain rfl : j = m := by omega
                  exact h)
              obtain ⟨x, hx⟩ : ∃ x, L.getD (k + m) ⟨#[]⟩ = x := ⟨_, rfl⟩
              simp only [hx] at HAX HRN HEN
              rw [hx] at cxz
              obtain ⟨X, hX⟩ : ∃ X, alk o x = X := ⟨_, rfl⟩
              simp only [hX] at HAX HRN HEN
              clear hx hX
              rename World => wq
              have EN : Hid (UEnv 23 w.heap.size o b3 (o3 + (k + m)) (o3 + k) x y wq wq) := hide ⟨HNz.out, cxz, cyz, Nat.lt_of_lt_of_le HLB.out hzz, Below.refl _ _⟩
              obtain ⟨d0, d1, d2, d3, d4, d5, d6⟩ := HNz.out.cells
              have hw1 : IntKind.i64.wrap ((k : Int) + (m : Int)) = (k : Int) + (m : Int) := IntWalk.i64_in _ (by omega)
              have hw2 : ((k : Int) + (m : Int)).toNat = k + m := by omega
              have hw3 : (0 : Int) ≤ (k : Int) + (m : Int) := by omega
              go_wp2_with fail
              go_region_held3 (fun w' => w'.cell? ⟨w.heap.size, 0, none⟩ = some (.int .i64 o.fields) ∧ w'.cell? ⟨w.heap.size, 1, none⟩ = some (.int .i64 o.skip) ∧ w'.cell? ⟨w.heap.size, 2, none⟩ = some (.int .i64 o.bytes) ∧ w'.cell? ⟨w.heap.size, 3, none⟩ = some (.bool o.fold) ∧ w'.cell? ⟨w.heap.size, 4, none⟩ = some (.bool o.count) ∧ w'.cell? ⟨w.heap.size, 5, none⟩ = some (.bool o.rep) ∧ w'.cell? ⟨w.heap.size, 6, none⟩ = some (.bool o.alone) ∧ w'.cell? ⟨b3, o3 + (k + m), none⟩ = some (.string x) ∧ w'.cell? ⟨b3, o3 + k, none⟩ = some (.string y)) (go_keep)
                (first
                  | (go_at_call 41; (with_reducible refine (HAX.out _).mono ?_); rintro e w5 ⟨rfl, hbl⟩; have EN := hide (UEnv.next EN.out hbl rfl rfl rfl rfl (Nat.le_refl _)); clear hbl; obtain ⟨q0, q1, q2, q3, q4, q5, q6⟩ := EN.out.un.cells; have q7 := EN.out.cx; have q8 := EN.out.cy)
                  | (go_at_call 41; (with_reducible refine (HAY.out _).mono ?_); rintro e w5 ⟨rfl, hbl⟩; have EN := hide (UEnv.next EN.out hbl rfl rfl rfl rfl (Nat.le_refl _)); clear hbl; obtain ⟨q0, q1, q2, q3, q4, q5, q6⟩ := EN.out.un.cells; have q7 := EN.out.cx; have q8 := EN.out.cy))
              have ENZ := EN
              have HO5 : Hid (OwnS 9 w5 w3.heap.size (.slice OA D.length oc) D) := hide (own_below HOz.out ENZ.out.bel)
              have HB5 := hide (HBz.out.trans (ENZ.out.bel.mono HBz.out.size))
              have HC5 := hide (HCz.out.trans (ENZ.out.bel.mono HCz.out.size))
              have HN5 := hide ENZ.out.un
              clear HOz HBz HCz HNz cyz cxz hzz EN q0 q1 q2 q3 q4 q5 q6 q7 q8 d0 d1 d2 d3 d4 d5 d6 hw1 hw2 hw3
              have hzz := HB5.out.size
              have cyz := ENZ.out.cy
              rename Hid (OwnS 9 w5 w3.heap.size (.slice OA D.length oc) D) => HOz
              rename Hid (Below w3.heap.size w3 w5) => HBz
              rename Hid (Below w.heap.size w w5) => HCz
              rename Hid (UqIn w5 w.heap.size 23 o) => HNz
              clear ENZ HAX
              rename (World.cell? w5 _ = _ ∧ _) => hheld
              clear hheld
              cases heq : (X.toList == Y.toList)
              · have hru := HRN.out (bytes_ne heq)
                have HNX := hide (HNX0.out m hru)
                clear hru
                obtain ⟨d0, d1, d2, d3, d4, d5, d6⟩ := HNz.out.cells
                have HPC : Hid (pieceU o y m = if (!(o.rep && m == 1)) && !(o.alone && decide (1 < m)) then [if o.count then ((⟨(Lib.itoa (m : Int)).toArray⟩ : ByteArray) ++ (⟨#[32]⟩ : ByteArray)) ++ y else y] else []) := hide rfl
                have hmm : (m : Int) ≤ 4096 := by omega
                have hkm : (k : Int) + (m : Int) ≤ 4096 := by omega
                have HKM : Hid (k + m ≤ L.length) := hide (by omega)
                rcases Bool.eq_false_or_eq_true o.count with hco | hco
                · rw [hco] at d4
                  have HIM := hide (HIT.out (m : Int) _ HCz.out (by omega) (by omega))
                  have hil := Lib.itoa_length_le (m : Int) (by omega) (by omega)
                  obtain ⟨q, hq⟩ : ∃ q, (⟨(Lib.itoa (m : Int)).toArray⟩ : ByteArray) = q := ⟨_, rfl⟩
                  have hqs : q.size ≤ 21 := by rw [← hq]; simpa [ByteArray.size] using hil
                  have HZ : Hid ((if o.count then ((⟨(Lib.itoa (m : Int)).toArray⟩ : ByteArray) ++ (⟨#[32]⟩ : ByteArray)) ++ y else y) = (q ++ (⟨#[32]⟩ : ByteArray)) ++ y) := hide (by rw [hco, hq]; rfl)
                  rw [hco] at HPC
                  rw [hco] at HZ
                  rw [hq] at HIM
                  clear hil hq hco
                  go_wp2_with fail
                  refine HIM.out.mono ?_
                  rintro e wi ⟨rfl, hbi⟩
                  have HBz := hide (HBz.out.trans (hbi.mono HBz.out.size))
                  have HCz := hide (HCz.out.trans (hbi.mono HCz.out.size))
                  have HCz0 : Hid (w.heap.size ≤ w3.heap.size) := HCz0
                  have HNz := hide (HNz.out.below hbi HNz.out.lt)
                  have HOz := hide (own_below HOz.out hbi : OwnS 9 wi w3.heap.size (.slice OA D.length oc) D)
                  have hzz := HBz.out.size
                  clear hbi d0 d1 d2 d3 d4 d5 d6 HIM
                  obtain ⟨d0, d1, d2, d3, d4, d5, d6⟩ := HNz.out.cells
                  rcases Bool.eq_false_or_eq_true o.rep with hre | hre
                  · rw [hre] at d5
                    by_cases hm1 : m = 1
                    · subst hm1
                      have HP2 : Hid (pieceU o y 1 = []) := hide (by rw [HPC.out, hre]; rfl)
                      clear HPC hre
                      go_wp2_with fail
                      go_roundw
                      case rel => first | exact ⟨k + 1, D, HKM.out, by go_num, hide (by rw [← HGD.out, HNX.out, HP2.out]; simp), HOz, HBz, HCz, HNz⟩ | ((repeat apply Exists.intro); exact ⟨⟨k + 1, D, HKM.out, by go_num, hide (by rw [← HGD.out, HNX.out, HP2.out]; simp), HOz, HBz, HCz, HNz⟩, rfl⟩)
                      case measure => simp [intOf]; omega
                    · have hm2 : ((m : Int) == 1) = false := by simp; omega
                      have hm3 : (1 : Int) < (m : Int) := by omega
                      rcases Bool.eq_false_or_eq_true o.alone with hao | hao
                      · rw [hao] at d6
                        have HP2 : Hid (pieceU o y m = []) := hide (by rw [HPC.out, hre, hao, show decide (1 < m) = true by simp; omega]; rw [Bool.and_comm]; rfl)
                        clear HPC hre hao
                        go_wp2_with fail
                        go_roundw
                        case rel => first | exact ⟨k + m, D, HKM.out, by go_num, hide (by rw [← HGD.out, HNX.out, HP2.out]; simp), HOz, HBz, HCz, HNz⟩ | ((repeat apply Exists.intro); exact ⟨⟨k + m, D, HKM.out, by go_num, hide (by rw [← HGD.out, HNX.out, HP2.out]; simp), HOz, HBz, HCz, HNz⟩, rfl⟩)
                        case measure => simp [intOf]; omega
                      · rw [hao] at d6
                        have HP2 : Hid (pieceU o y m = [(q ++ (⟨#[32]⟩ : ByteArray)) ++ y]) := hide (by rw [HPC.out, hre, hao, HZ.out, show (m == 1) = false by simpa using hm1]; rfl)
                        clear HPC hre hao
                        go_wp2_with (at_builtin; refine wpList_app_one rfl _ _ rfl w3.heap.size _ _ rfl HOz.out rfl HDL.out hzz ?_)
                        intro A2 c2 w6 ho6 hb6
                        have HO6 := hide ho6
                        have HB6 := hide (HBz.out.trans hb6)
                        have HC6 := hide (HCz.out.trans (hb6.mono HCz0.out))
                        have HN6 := hide (HNz.out.below hb6 HUL.out)
                        clear ho6 hb6
                        go_wp2_with fail
                        go_roundw
                        case rel => first | exact ⟨k + m, D ++ [(q ++ (⟨#[32]⟩ : ByteArray)) ++ y], HKM.out, by go_num, hide (by rw [← HGD.out, HNX.out, HP2.out]; simp), HO6, HB6, HC6, HN6⟩ | ((repeat apply Exists.intro); exact ⟨⟨k + m, D ++ [(q ++ (⟨#[32]⟩ : ByteArray)) ++ y], HKM.out, by go_num, hide (by rw [← HGD.out, HNX.out, HP2.out]; simp), HO6, HB6, HC6, HN6⟩, rfl⟩)
                        case measure => simp [intOf]; omega
                  · rw [hre] at d5
                    rcases Bool.eq_false_or_eq_true o.alone with hao | hao
                    · rw [hao] at d6
                      by_cases hm1 : m = 1
                      · subst hm1
                        have HP2 : Hid (pieceU o y 1 = [(q ++ (⟨#[32]⟩ : ByteArray)) ++ y]) := hide (by rw [HPC.out, hre, hao, HZ.out]; rfl)
                        clear HPC hre hao
                        go_wp2_with (at_builtin; refine wpList_app_one rfl _ _ rfl w3.heap.size _ _ rfl HOz.out rfl HDL.out hzz ?_)
                        intro A2 c2 w6 ho6 hb6
                        have HO6 := hide ho6
                        have HB6 := hide (HBz.out.trans hb6)
                        have HC6 := hide (HCz.out.trans (hb6.mono HCz0.out))
                        have HN6 := hide (HNz.out.below hb6 HUL.out)
                        clear ho6 hb6
                        go_wp2_with fail
                        go_roundw
                        case rel => first | exact ⟨k + 1, D ++ [(q ++ (⟨#[32]⟩ : ByteArray)) ++ y], HKM.out, by go_num, hide (by rw [← HGD.out, HNX.out, HP2.out]; simp), HO6, HB6, HC6, HN6⟩ | ((repeat apply Exists.intro); exact ⟨⟨k + 1, D ++ [(q ++ (⟨#[32]⟩ : ByteArray)) ++ y], HKM.out, by go_num, hide (by rw [← HGD.out, HNX.out, HP2.out]; simp), HO6, HB6, HC6, HN6⟩, rfl⟩)
                        case measure => simp [intOf]; omega
                      · have hm2 : ((m : Int) == 1) = false := by simp; omega
                        have hm3 : (1 : Int) < (m : Int) := by omega
                        have HP2 : Hid (pieceU o y m = []) := hide (by rw [HPC.out, hre, hao, show decide (1 < m) = true by simp; omega]; rfl)
                        clear HPC hre hao
                        go_wp2_with fail
                        go_roundw
                        case rel => first | exact ⟨k + m, D, HKM.out, by go_num, hide (by rw [← HGD.out, HNX.out, HP2.out]; simp), HOz, HBz, HCz, HNz⟩ | ((repeat apply Exists.intro); exact ⟨⟨k + m, D, HKM.out, by go_num, hide (by rw [← HGD.out, HNX.out, HP2.out]; simp), HOz, HBz, HCz, HNz⟩, rfl⟩)
                        case measure => simp [intOf]; omega
                    · rw [hao] at d6
                      have HP2 : Hid (pieceU o y m = [(q ++ (⟨#[32]⟩ : ByteArray)) ++ y]) := hide (by rw [HPC.out, hre, hao, HZ.out]; rfl)
                      clear HPC hre hao
                      go_wp2_with (at_builtin; refine wpList_app_one rfl _ _ rfl w3.heap.size _ _ rfl HOz.out rfl HDL.out hzz ?_)
                      intro A2 c2 w6 ho6 hb6
                      have HO6 := hide ho6
                      have HB6 := hide (HBz.out.trans hb6)
                      have HC6 := hide (HCz.out.trans (hb6.mono HCz0.out))
                      have HN6 := hide (HNz.out.below hb6 HUL.out)
                      clear ho6 hb6
                      go_wp2_with fail
                      go_roundw
                      case rel => first | exact ⟨k + m, D ++ [(q ++ (⟨#[32]⟩ : ByteArray)) ++ y], HKM.out, by go_num, hide (by rw [← HGD.out, HNX.out, HP2.out]; simp), HO6, HB6, HC6, HN6⟩ | ((repeat apply Exists.intro); exact ⟨⟨k + m, D ++ [(q ++ (⟨#[32]⟩ : ByteArray)) ++ y], HKM.out, by go_num, hide (by rw [← HGD.out, HNX.out, HP2.out]; simp), HO6, HB6, HC6, HN6⟩, rfl⟩)
                      case measure => simp [intOf]; omega
                · rw [hco] at d4
                  obtain ⟨z, hz⟩ : ∃ z, y = z := ⟨_, rfl⟩
                  have HZ : Hid ((if o.count then ((⟨(Lib.itoa (m : Int)).toArray⟩ : ByteArray) ++ (⟨#[32]⟩ : ByteArray)) ++ y else y) = z) := hide (by rw [hco]; exact hz)
                  rw [hco] at HPC
                  rw [hco] at HZ
                  rw [hz] at cyz
                  clear hz hco
                  rcases Bool.eq_false_or_eq_true o.rep with hre | hre
                  · rw [hre] at d5
                    by_cases hm1 : m = 1
                    · subst hm1
                      have HP2 : Hid (pieceU o y 1 = []) := hide (by rw [HPC.out, hre]; rfl)
                      clear HPC hre
                      go_wp2_with fail
                      go_roundw
                      case rel => first | exact ⟨k + 1, D, HKM.out, by go_num, hide (by rw [← HGD.out, HNX.out, HP2.out]; simp), HOz, HBz, HCz, HNz⟩ | ((repeat apply Exists.intro); exact ⟨⟨k + 1, D, HKM.out, by go_num, hide (by rw [← HGD.out, HNX.out, HP2.out]; simp), HOz, HBz, HCz, HNz⟩, rfl⟩)
                      case measure => simp [intOf]; omega
                    · have hm2 : ((m : Int) == 1) = false := by simp; omega
                      have hm3 : (1 : Int) < (m : Int) := by omega
                      rcases Bool.eq_false_or_eq_true o.alone with hao | hao
                      · rw [hao] at d6
                        have HP2 : Hid (pieceU o y m = []) := hide (by rw [HPC.out, hre, hao, show decide (1 < m) = true by simp; omega]; rw [Bool.and_comm]; rfl)
                        clear HPC hre hao
                        go_wp2_with fail
                        go_roundw
                        case rel => first | exact ⟨k + m, D, HKM.out, by go_num, hide (by rw [← HGD.out, HNX.out, HP2.out]; simp), HOz, HBz, HCz, HNz⟩ | ((repeat apply Exists.intro); exact ⟨⟨k + m, D, HKM.out, by go_num, hide (by rw [← HGD.out, HNX.out, HP2.out]; simp), HOz, HBz, HCz, HNz⟩, rfl⟩)
                        case measure => simp [intOf]; omega
                      · rw [hao] at d6
                        have HP2 : Hid (pieceU o y m = [z]) := hide (by rw [HPC.out, hre, hao, HZ.out, show (m == 1) = false by simpa using hm1]; rfl)
                        clear HPC hre hao
                        go_wp2_with (at_builtin; refine wpList_app_one rfl _ _ rfl w3.heap.size _ _ rfl HOz.out rfl HDL.out hzz ?_)
                        intro A2 c2 w6 ho6 hb6
                        have HO6 := hide ho6
                        have HB6 := hide (HBz.out.trans hb6)
                        have HC6 := hide (HCz.out.trans (hb6.mono HCz0.out))
                        have HN6 := hide (HNz.out.below hb6 HUL.out)
                        clear ho6 hb6
                        go_wp2_with fail
                        go_roundw
                        case rel => first | exact ⟨k + m, D ++ [z], HKM.out, by go_num, hide (by rw [← HGD.out, HNX.out, HP2.out]; simp), HO6, HB6, HC6, HN6⟩ | ((repeat apply Exists.intro); exact ⟨⟨k + m, D ++ [z], HKM.out, by go_num, hide (by rw [← HGD.out, HNX.out, HP2.out]; simp), HO6, HB6, HC6, HN6⟩, rfl⟩)
                        case measure => simp [intOf]; omega
                  · rw [hre] at d5
                    rcases Bool.eq_false_or_eq_true o.alone with hao | hao
                    · rw [hao] at d6
                      by_cases hm1 : m = 1
                      · subst hm1
                        have HP2 : Hid (pieceU o y 1 = [z]) := hide (by rw [HPC.out, hre, hao, HZ.out]; rfl)
                        clear HPC hre hao
                        go_wp2_with (at_builtin; refine wpList_app_one rfl _ _ rfl w3.heap.size _ _ rfl HOz.out rfl HDL.out hzz ?_)
                        intro A2 c2 w6 ho6 hb6
                        have HO6 := hide ho6
                        have HB6 := hide (HBz.out.trans hb6)
                        have HC6 := hide (HCz.out.trans (hb6.mono HCz0.out))
                        have HN6 := hide (HNz.out.below hb6 HUL.out)
                        clear ho6 hb6
                        go_wp2_with fail
                        go_roundw
                        case rel => first | exact ⟨k + 1, D ++ [z], HKM.out, by go_num, hide (by rw [← HGD.out, HNX.out, HP2.out]; simp), HO6, HB6, HC6, HN6⟩ | ((repeat apply Exists.intro); exact ⟨⟨k + 1, D ++ [z], HKM.out, by go_num, hide (by rw [← HGD.out, HNX.out, HP2.out]; simp), HO6, HB6, HC6, HN6⟩, rfl⟩)
                        case measure => simp [intOf]; omega
                      · have hm2 : ((m : Int) == 1) = false := by simp; omega
                        have hm3 : (1 : Int) < (m : Int) := by omega
                        have HP2 : Hid (pieceU o y m = []) := hide (by rw [HPC.out, hre, hao, show decide (1 < m) = true by simp; omega]; rfl)
                        clear HPC hre hao
                        go_wp2_with fail
                        go_roundw
                        case rel => first | exact ⟨k + m, D, HKM.out, by go_num, hide (by rw [← HGD.out, HNX.out, HP2.out]; simp), HOz, HBz, HCz, HNz⟩ | ((repeat apply Exists.intro); exact ⟨⟨k + m, D, HKM.out, by go_num, hide (by rw [← HGD.out, HNX.out, HP2.out]; simp), HOz, HBz, HCz, HNz⟩, rfl⟩)
                        case measure => simp [intOf]; omega
                    · rw [hao] at d6
                      have HP2 : Hid (pieceU o y m = [z]) := hide (by rw [HPC.out, hre, hao, HZ.out]; rfl)
                      clear HPC hre hao
                      go_wp2_with (at_builtin; refine wpList_app_one rfl _ _ rfl w3.heap.size _ _ rfl HOz.out rfl HDL.out hzz ?_)
                      intro A2 c2 w6 ho6 hb6
                      have HO6 := hide ho6
                      have HB6 := hide (HBz.out.trans hb6)
                      have HC6 := hide (HCz.out.trans (hb6.mono HCz0.out))
                      have HN6 := hide (HNz.out.below hb6 HUL.out)
                      clear ho6 hb6
                      go_wp2_with fail
                      go_roundw
                      case rel => first | exact ⟨k + m, D ++ [z], HKM.out, by go_num, hide (by rw [← HGD.out, HNX.out, HP2.out]; simp), HO6, HB6, HC6, HN6⟩ | ((repeat apply Exists.intro); exact ⟨⟨k + m, D ++ [z], HKM.out, by go_num, hide (by rw [← HGD.out, HNX.out, HP2.out]; simp), HO6, HB6, HC6, HN6⟩, rfl⟩)
                      case measure => simp [intOf]; omega
              · have HE2 := hide (HEN.out (bytes_eq heq))
                go_wp2_with fail
                go_roundw
                case rel => exact ⟨m + 1, by omega, by omega, by go_num, HE2, HOz, HBz, HCz, HNz⟩
                case measure => simp [intOf]; omega
            · have hd2 : ¬ ((k : Int) + (m : Int) < (L.length : Int)) := by omega
              have hru := HRU.out m hm1 hmk HEQ.out (fun h => absurd h (by omega))
              have HNX := hide (HNX0.out m hru)
              clear hru
              have hd3 : decide ((k : Int) + (m : Int) < (L.length : Int)) = false := by simpa using hd2
              have hw1 : IntKind.i64.wrap ((k : Int) + (m : Int)) = (k : Int) + (m : Int) := IntWalk.i64_in _ (by omega)
              rename World => wq
              go_wp2_with fail
              go_quiet (fail)
              have HO5 : Hid (OwnS 9 (wq.drewN nq) w3.heap.size (.slice OA D.length oc) D) := hide HOz.out
              have HB5 := hide (below_drewN HBz.out nq)
              have HC5 := hide (below_drewN HCz.out nq)
              have HN5 : Hid (UqIn (wq.drewN nq) w.heap.size 23 o) := hide HNz.out
              obtain ⟨w5, hw5⟩ : ∃ w5, wq.drewN nq = w5 := ⟨_, rfl⟩
              rw [hw5] at HO5 HB5 HC5 HN5 ⊢
              clear HOz HBz HCz HNz cyz hzz hw1 hd3 hw5
              have hzz := HB5.out.size
              have cyz := HCY.out _ HB5.out
              rename Hid (OwnS 9 w5 w3.heap.size (.slice OA D.length oc) D) => HOz
              rename Hid (Below w3.heap.size w3 w5) => HBz
              rename Hid (Below w.heap.size w w5) => HCz
              rename Hid (UqIn w5 w.heap.size 23 o) => HNz
              obtain ⟨d0, d1, d2, d3, d4, d5, d6⟩ := HNz.out.cells
              have HPC : Hid (pieceU o y m = if (!(o.rep && m == 1)) && !(o.alone && decide (1 < m)) then [if o.count then ((⟨(Lib.itoa (m : Int)).toArray⟩ : ByteArray) ++ (⟨#[32]⟩ : ByteArray)) ++ y else y] else []) := hide rfl
              have hmm : (m : Int) ≤ 4096 := by omega
              have hkm : (k : Int) + (m : Int) ≤ 4096 := by omega
              have HKM : Hid (k + m ≤ L.length) := hide (by omega)
              rcases Bool.eq_false_or_eq_true o.count with hco | hco
              · rw [hco] at d4
                have HIM := hide (HIT.out (m : Int) _ HCz.out (by omega) (by omega))
                have hil := Lib.itoa_length_le (m : Int) (by omega) (by omega)
                obtain ⟨q, hq⟩ : ∃ q, (⟨(Lib.itoa (m : Int)).toArray⟩ : ByteArray) = q := ⟨_, rfl⟩
                have hqs : q.size ≤ 21 := by rw [← hq]; simpa [ByteArray.size] using hil
                have HZ : Hid ((if o.count then ((⟨(Lib.itoa (m : Int)).toArray⟩ : ByteArray) ++ (⟨#[32]⟩ : ByteArray)) ++ y else y) = (q ++ (⟨#[32]⟩ : ByteArray)) ++ y) := hide (by rw [hco, hq]; rfl)
                rw [hco] at HPC
                rw [hco] at HZ
                rw [hq] at HIM
                clear hil hq hco
                go_wp2_with fail
                refine HIM.out.mono ?_
                rintro e wi ⟨rfl, hbi⟩
                have HBz := hide (HBz.out.trans (hbi.mono HBz.out.size))
                have HCz := hide (HCz.out.trans (hbi.mono HCz.out.size))
                have HCz0 : Hid (w.heap.size ≤ w3.heap.size) := HCz0
                have HNz := hide (HNz.out.below hbi HNz.out.lt)
                have HOz := hide (own_below HOz.out hbi : OwnS 9 wi w3.heap.size (.slice OA D.length oc) D)
                have hzz := HBz.out.size
                clear hbi d0 d1 d2 d3 d4 d5 d6 HIM
                obtain ⟨d0, d1, d2, d3, d4, d5, d6⟩ := HNz.out.cells
                rcases Bool.eq_false_or_eq_true o.rep with hre | hre
                · rw [hre] at d5
                  by_cases hm1 : m = 1
                  · subst hm1
                    have HP2 : Hid (pieceU o y 1 = []) := hide (by rw [HPC.out, hre]; rfl)
                    clear HPC hre
                    go_wp2_with fail
                    go_roundw
                    case rel => first | exact ⟨k + 1, D, HKM.out, by go_num, hide (by rw [← HGD.out, HNX.out, HP2.out]; simp), HOz, HBz, HCz, HNz⟩ | ((repeat apply Exists.intro); exact ⟨⟨k + 1, D, HKM.out, by go_num, hide (by rw [← HGD.out, HNX.out, HP2.out]; simp), HOz, HBz, HCz, HNz⟩, rfl⟩)
                    case measure => simp [intOf]; omega
                  · have hm2 : ((m : Int) == 1) = false := by simp; omega
                    have hm3 : (1 : Int) < (m : Int) := by omega
                    rcases Bool.eq_false_or_eq_true o.alone with hao | hao
                    · rw [hao] at d6
                      have HP2 : Hid (pieceU o y m = []) := hide (by rw [HPC.out, hre, hao, show decide (1 < m) = true by simp; omega]; rw [Bool.and_comm]; rfl)
                      clear HPC hre hao
                      go_wp2_with fail
                      go_roundw
                      case rel => first | exact ⟨k + m, D, HKM.out, by go_num, hide (by rw [← HGD.out, HNX.out, HP2.out]; simp), HOz, HBz, HCz, HNz⟩ | ((repeat apply Exists.intro); exact ⟨⟨k + m, D, HKM.out, by go_num, hide (by rw [← HGD.out, HNX.out, HP2.out]; simp), HOz, HBz, HCz, HNz⟩, rfl⟩)
                      case measure => simp [intOf]; omega
                    · rw [hao] at d6
                      have HP2 : Hid (pieceU o y m = [(q ++ (⟨#[32]⟩ : ByteArray)) ++ y]) := hide (by rw [HPC.out, hre, hao, HZ.out, show (m == 1) = false by simpa using hm1]; rfl)
                      clear HPC hre hao
                      go_wp2_with (at_builtin; refine wpList_app_one rfl _ _ rfl w3.heap.size _ _ rfl HOz.out rfl HDL.out hzz ?_)
                      intro A2 c2 w6 ho6 hb6
                      have HO6 := hide ho6
                      have HB6 := hide (HBz.out.trans hb6)
                      have HC6 := hide (HCz.out.trans (hb6.mono HCz0.out))
                      have HN6 := hide (HNz.out.below hb6 HUL.out)
                      clear ho6 hb6
                      go_wp2_with fail
                      go_roundw
                      case rel => first | exact ⟨k + m, D ++ [(q ++ (⟨#[32]⟩ : ByteArray)) ++ y], HKM.out, by go_num, hide (by rw [← HGD.out, HNX.out, HP2.out]; simp), HO6, HB6, HC6, HN6⟩ | ((repeat apply Exists.intro); exact ⟨⟨k + m, D ++ [(q ++ (⟨#[32]⟩ : ByteArray)) ++ y], HKM.out, by go_num, hide (by rw [← HGD.out, HNX.out, HP2.out]; simp), HO6, HB6, HC6, HN6⟩, rfl⟩)
                      case measure => simp [intOf]; omega
                · rw [hre] at d5
                  rcases Bool.eq_false_or_eq_true o.alone with hao | hao
                  · rw [hao] at d6
                    by_cases hm1 : m = 1
                    · subst hm1
                      have HP2 : Hid (pieceU o y 1 = [(q ++ (⟨#[32]⟩ : ByteArray)) ++ y]) := hide (by rw [HPC.out, hre, hao, HZ.out]; rfl)
                      clear HPC hre hao
                      go_wp2_with (at_builtin; refine wpList_app_one rfl _ _ rfl w3.heap.size _ _ rfl HOz.out rfl HDL.out hzz ?_)
                      intro A2 c2 w6 ho6 hb6
                      have HO6 := hide ho6
                      have HB6 := hide (HBz.out.trans hb6)
                      have HC6 := hide (HCz.out.trans (hb6.mono HCz0.out))
                      have HN6 := hide (HNz.out.below hb6 HUL.out)
                      clear ho6 hb6
                      go_wp2_with fail
                      go_roundw
                      case rel => first | exact ⟨k + 1, D ++ [(q ++ (⟨#[32]⟩ : ByteArray)) ++ y], HKM.out, by go_num, hide (by rw [← HGD.out, HNX.out, HP2.out]; simp), HO6, HB6, HC6, HN6⟩ | ((repeat apply Exists.intro); exact ⟨⟨k + 1, D ++ [(q ++ (⟨#[32]⟩ : ByteArray)) ++ y], HKM.out, by go_num, hide (by rw [← HGD.out, HNX.out, HP2.out]; simp), HO6, HB6, HC6, HN6⟩, rfl⟩)
                      case measure => simp [intOf]; omega
                    · have hm2 : ((m : Int) == 1) = false := by simp; omega
                      have hm3 : (1 : Int) < (m : Int) := by omega
                      have HP2 : Hid (pieceU o y m = []) := hide (by rw [HPC.out, hre, hao, show decide (1 < m) = true by simp; omega]; rfl)
                      clear HPC hre hao
                      go_wp2_with fail
                      go_roundw
                      case rel => first | exact ⟨k + m, D, HKM.out, by go_num, hide (by rw [← HGD.out, HNX.out, HP2.out]; simp), HOz, HBz, HCz, HNz⟩ | ((repeat apply Exists.intro); exact ⟨⟨k + m, D, HKM.out, by go_num, hide (by rw [← HGD.out, HNX.out, HP2.out]; simp), HOz, HBz, HCz, HNz⟩, rfl⟩)
                      case measure => simp [intOf]; omega
                  · rw [hao] at d6
                    have HP2 : Hid (pieceU o y m = [(q ++ (⟨#[32]⟩ : ByteArray)) ++ y]) := hide (by rw [HPC.out, hre, hao, HZ.out]; rfl)
                    clear HPC hre hao
                    go_wp2_with (at_builtin; refine wpList_app_one rfl _ _ rfl w3.heap.size _ _ rfl HOz.out rfl HDL.out hzz ?_)
                    intro A2 c2 w6 ho6 hb6
                    have HO6 := hide ho6
                    have HB6 := hide (HBz.out.trans hb6)
                    have HC6 := hide (HCz.out.trans (hb6.mono HCz0.out))
                    have HN6 := hide (HNz.out.below hb6 HUL.out)
                    clear ho6 hb6
                    go_wp2_with fail
                    go_roundw
                    case rel => first | exact ⟨k + m, D ++ [(q ++ (⟨#[32]⟩ : ByteArray)) ++ y], HKM.out, by go_num, hide (by rw [← HGD.out, HNX.out, HP2.out]; simp), HO6, HB6, HC6, HN6⟩ | ((repeat apply Exists.intro); exact ⟨⟨k + m, D ++ [(q ++ (⟨#[32]⟩ : ByteArray)) ++ y], HKM.out, by go_num, hide (by rw [← HGD.out, HNX.out, HP2.out]; simp), HO6, HB6, HC6, HN6⟩, rfl⟩)
                    case measure => simp [intOf]; omega
              · rw [hco] at d4
                obtain ⟨z, hz⟩ : ∃ z, y = z := ⟨_, rfl⟩
                have HZ : Hid ((if o.count then ((⟨(Lib.itoa (m : Int)).toArray⟩ : ByteArray) ++ (⟨#[32]⟩ : ByteArray)) ++ y else y) = z) := hide (by rw [hco]; exact hz)
                rw [hco] at HPC
                rw [hco] at HZ
                rw [hz] at cyz
                clear hz hco
                rcases Bool.eq_false_or_eq_true o.rep with hre | hre
                · rw [hre] at d5
                  by_cases hm1 : m = 1
                  · subst hm1
                    have HP2 : Hid (pieceU o y 1 = []) := hide (by rw [HPC.out, hre]; rfl)
                    clear HPC hre
                    go_wp2_with fail
                    go_roundw
                    case rel => first | exact ⟨k + 1, D, HKM.out, by go_num, hide (by rw [← HGD.out, HNX.out, HP2.out]; simp), HOz, HBz, HCz, HNz⟩ | ((repeat apply Exists.intro); exact ⟨⟨k + 1, D, HKM.out, by go_num, hide (by rw [← HGD.out, HNX.out, HP2.out]; simp), HOz, HBz, HCz, HNz⟩, rfl⟩)
                    case measure => simp [intOf]; omega
                  · have hm2 : ((m : Int) == 1) = false := by simp; omega
                    have hm3 : (1 : Int) < (m : Int) := by omega
                    rcases Bool.eq_false_or_eq_true o.alone with hao | hao
                    · rw [hao] at d6
                      have HP2 : Hid (pieceU o y m = []) := hide (by rw [HPC.out, hre, hao, show decide (1 < m) = true by simp; omega]; rw [Bool.and_comm]; rfl)
                      clear HPC hre hao
                      go_wp2_with fail
                      go_roundw
                      case rel => first | exact ⟨k + m, D, HKM.out, by go_num, hide (by rw [← HGD.out, HNX.out, HP2.out]; simp), HOz, HBz, HCz, HNz⟩ | ((repeat apply Exists.intro); exact ⟨⟨k + m, D, HKM.out, by go_num, hide (by rw [← HGD.out, HNX.out, HP2.out]; simp), HOz, HBz, HCz, HNz⟩, rfl⟩)
                      case measure => simp [intOf]; omega
                    · rw [hao] at d6
                      have HP2 : Hid (pieceU o y m = [z]) := hide (by rw [HPC.out, hre, hao, HZ.out, show (m == 1) = false by simpa using hm1]; rfl)
                      clear HPC hre hao
                      go_wp2_with (at_builtin; refine wpList_app_one rfl _ _ rfl w3.heap.size _ _ rfl HOz.out rfl HDL.out hzz ?_)
                      intro A2 c2 w6 ho6 hb6
                      have HO6 := hide ho6
                      have HB6 := hide (HBz.out.trans hb6)
                      have HC6 := hide (HCz.out.trans (hb6.mono HCz0.out))
                      have HN6 := hide (HNz.out.below hb6 HUL.out)
                      clear ho6 hb6
                      go_wp2_with fail
                      go_roundw
                      case rel => first | exact ⟨k + m, D ++ [z], HKM.out, by go_num, hide (by rw [← HGD.out, HNX.out, HP2.out]; simp), HO6, HB6, HC6, HN6⟩ | ((repeat apply Exists.intro); exact ⟨⟨k + m, D ++ [z], HKM.out, by go_num, hide (by rw [← HGD.out, HNX.out, HP2.out]; simp), HO6, HB6, HC6, HN6⟩, rfl⟩)
                      case measure => simp [intOf]; omega
                · rw [hre] at d5
                  rcases Bool.eq_false_or_eq_true o.alone with hao | hao
                  · rw [hao] at d6
                    by_cases hm1 : m = 1
                    · subst hm1
                      have HP2 : Hid (pieceU o y 1 = [z]) := hide (by rw [HPC.out, hre, hao, HZ.out]; rfl)
                      clear HPC hre hao
                      go_wp2_with (at_builtin; refine wpList_app_one rfl _ _ rfl w3.heap.size _ _ rfl HOz.out rfl HDL.out hzz ?_)
                      intro A2 c2 w6 ho6 hb6
                      have HO6 := hide ho6
                      have HB6 := hide (HBz.out.trans hb6)
                      have HC6 := hide (HCz.out.trans (hb6.mono HCz0.out))
                      have HN6 := hide (HNz.out.below hb6 HUL.out)
                      clear ho6 hb6
                      go_wp2_with fail
                      go_roundw
                      case rel => first | exact ⟨k + 1, D ++ [z], HKM.out, by go_num, hide (by rw [← HGD.out, HNX.out, HP2.out]; simp), HO6, HB6, HC6, HN6⟩ | ((repeat apply Exists.intro); exact ⟨⟨k + 1, D ++ [z], HKM.out, by go_num, hide (by rw [← HGD.out, HNX.out, HP2.out]; simp), HO6, HB6, HC6, HN6⟩, rfl⟩)
                      case measure => simp [intOf]; omega
                    · have hm2 : ((m : Int) == 1) = false := by simp; omega
                      have hm3 : (1 : Int) < (m : Int) := by omega
                      have HP2 : Hid (pieceU o y m = []) := hide (by rw [HPC.out, hre, hao, show decide (1 < m) = true by simp; omega]; rfl)
                      clear HPC hre hao
                      go_wp2_with fail
                      go_roundw
                      case rel => first | exact ⟨k + m, D, HKM.out, by go_num, hide (by rw [← HGD.out, HNX.out, HP2.out]; simp), HOz, HBz, HCz, HNz⟩ | ((repeat apply Exists.intro); exact ⟨⟨k + m, D, HKM.out, by go_num, hide (by rw [← HGD.out, HNX.out, HP2.out]; simp), HOz, HBz, HCz, HNz⟩, rfl⟩)
                      case measure => simp [intOf]; omega
                  · rw [hao] at d6
                    have HP2 : Hid (pieceU o y m = [z]) := hide (by rw [HPC.out, hre, hao, HZ.out]; rfl)
                    clear HPC hre hao
                    go_wp2_with (at_builtin; refine wpList_app_one rfl _ _ rfl w3.heap.size _ _ rfl HOz.out rfl HDL.out hzz ?_)
                    intro A2 c2 w6 ho6 hb6
                    have HO6 := hide ho6
                    have HB6 := hide (HBz.out.trans hb6)
                    have HC6 := hide (HCz.out.trans (hb6.mono HCz0.out))
                    have HN6 := hide (HNz.out.below hb6 HUL.out)
                    clear ho6 hb6
                    go_wp2_with fail
                    go_roundw
                    case rel => first | exact ⟨k + m, D ++ [z], HKM.out, by go_num, hide (by rw [← HGD.out, HNX.out, HP2.out]; simp), HO6, HB6, HC6, HN6⟩ | ((repeat apply Exists.intro); exact ⟨⟨k + m, D ++ [z], HKM.out, by go_num, hide (by rw [← HGD.out, HNX.out, HP2.out]; simp), HO6, HB6, HC6, HN6⟩, rfl⟩)
                    case measure => simp [intOf]; omega
        · have hkl : k = L.length := by omega
          have hd : ¬ ((k : Int) < (L.length : Int)) := by omega
          have HDD : Hid (D = grpU o L 0) := hide (by rw [← HGD.out, grpU_end (by omega)]; simp)
          have HST := hide (OwnS.strs HO.out (fun x hx => by
            rw [HDD.out] at hx
            have := HGB.out.2.1 x hx
            unfold maxLen; omega))
          rw [← HDD.out] at HRL
          have HRS := hide (fun W hW => result_any _ D W (HST.out.below hW) HRL.out)
          clear hkl
          go_wp2_with fail
          refine (HRS.out _ (Below.refl _ _)).mono ?_
          rintro e w6 ⟨rfl, hb6⟩
          have HC6 := hide (HC.out.trans (hb6.mono HC.out.size))
          clear hb6
          go_wp2_with fail
          go_ret2
          exact ⟨by rw [← HDD.out]; rfl, HC6.out⟩
end Go.Proofs.YtbelbgfigmbobaaGreatDoor
