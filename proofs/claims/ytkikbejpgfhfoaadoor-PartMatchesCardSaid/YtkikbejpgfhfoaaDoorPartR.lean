/- The reference's PartOf. -/
import Derived.Test.YtkikbejpgfhfoaaDoorPartW
import Derived.Test.YtkikbejpgfhfoaaDoorCountP
import Derived.Test.YtkikbejpgfhfoaaDoorTell
set_option linter.unusedVariables false
set_option linter.unusedSimpArgs false
namespace Go.Pw
open Go.RowKit
def intsV (l : List Nat) : List Value := l.map fun (x : Nat) => Value.int .i64 (x : Int)
/-- where the reference's PartOf stands: its boxes N, N + 1, N + 2 -/
structure PoAt (tP tS tV tI : TypeId) (w wr : World) (k : Int) (b : Bool) (n : Nat) (s : ByteArray) (v : Value) (D : List Nat) : Prop where
  po : wr.heap[w.heap.size]? = some (.cells #[.int .i64 k, .bool b, .int .i64 (n : Int)] tP (0, 0))
  pt : wr.heap[w.heap.size + 1]? = some (.cells #[.string s] tS (0, 0))
  pv : wr.heap[w.heap.size + 2]? = some (.cells #[v] tV (0, 0))
  own : wr.ownsRow (w.heap.size + 3) tI 1 v D.length (intsV D)
  bel : Below w.heap.size w wr
variable {tP tS tV tI : TypeId} {w wr w2 : World} {k : Int} {b : Bool} {n : Nat} {s : ByteArray} {v v' : Value} {D : List Nat}
theorem PoAt.lt (h : PoAt tP tS tV tI w wr k b n s v D) : w.heap.size + 2 < wr.heap.size := by
  rcases Nat.lt_or_ge (w.heap.size + 2) wr.heap.size with h' | h'
  · exact h'
  · have := h.pv
    simp [Array.getElem?_eq_none h'] at this
theorem PoAt.cells (h : PoAt tP tS tV tI w wr k b n s v D) : wr.cell? ⟨w.heap.size, 0, none⟩ = some (.int .i64 k) ∧ wr.cell? ⟨w.heap.size, 1, none⟩ = some (.bool b) ∧ wr.cell? ⟨w.heap.size, 2, none⟩ = some (.int .i64 (n : Int)) ∧ wr.cell? ⟨w.heap.size + 1, 0, none⟩ = some (.string s) ∧ wr.cell? ⟨w.heap.size + 2, 0, none⟩ = some v := by
  have h1 := h.po
  have h2 := h.pt
  have h3 := h.pv
  simp [World.cell?, h1, h2, h3]
theorem PoAt.frozen (h : PoAt tP tS tV tI w wr k b n s v D) : wr.frozen? ⟨w.heap.size + 2, 0, none⟩ = false := by
  have h3 := h.pv
  simp [World.frozen?, h3]
theorem PoAt.below (h : PoAt tP tS tV tI w wr k b n s v D) (hb : Below wr.heap.size wr w2) : PoAt tP tS tV tI w w2 k b n s v D := by
  have hl := h.lt
  exact ⟨(hb.block _ (by omega)).trans h.po, (hb.block _ (by omega)).trans h.pt, (hb.block _ (by omega)).trans h.pv, own_below h.own hb, h.bel.trans (hb.mono h.bel.size)⟩
theorem PoAt.start (tP tS tV tI : TypeId) (w : World) (k : Int) (b : Bool) (n : Nat) (s : ByteArray) : PoAt tP tS tV tI w (((w.alloc (.cells #[.int .i64 k, .bool b, .int .i64 (n : Int)] tP)).alloc (.cells #[.string s] tS)).alloc (.cells #[.slice none 0 0] tV)) k b n s (.slice none 0 0) [] := by
  have a1 : (w.alloc (.cells #[.int .i64 k, .bool b, .int .i64 (n : Int)] tP)).heap[w.heap.size]? = _ := heap_alloc_new _ _
  have a2 : ((w.alloc (.cells #[.int .i64 k, .bool b, .int .i64 (n : Int)] tP)).alloc (.cells #[.string s] tS)).heap[(w.alloc (.cells #[.int .i64 k, .bool b, .int .i64 (n : Int)] tP)).heap.size]? = _ := heap_alloc_new _ _
  have a3 : (((w.alloc (.cells #[.int .i64 k, .bool b, .int .i64 (n : Int)] tP)).alloc (.cells #[.string s] tS)).alloc (.cells #[.slice none 0 0] tV)).heap[((w.alloc (.cells #[.int .i64 k, .bool b, .int .i64 (n : Int)] tP)).alloc (.cells #[.string s] tS)).heap.size]? = _ := heap_alloc_new _ _
  simp only [World.size_alloc] at a2 a3
  refine ⟨?_, ?_, a3, World.ownsRow_nil _ _ _ _, (((Below.refl _ _).alloc (Nat.le_refl _) _).alloc (by simp) _).alloc (by simp; omega) _⟩
  · exact (heap_alloc_old _ _ (by simp; omega)).trans ((heap_alloc_old _ _ (by simp)).trans a1)
  · exact (heap_alloc_old _ _ (by simp)).trans a2
theorem PoAt.push {x : Nat} {o : Obj} (h : PoAt tP tS tV tI w wr k b n s v D) (hown' : w2.ownsRow (w.heap.size + 3) tI 1 v' (D.length + 1) (intsV D ++ [.int .i64 (x : Int)])) (hg : (wr.alloc o).grownBy w2 v.ownBlock) :
    w2.heap[w.heap.size + 2]? = some (.cells #[v] tV (0, 0)) ∧ PoAt tP tS tV tI w (w2.setCell ⟨w.heap.size + 2, 0, none⟩ v') k b n s v' (D ++ [x]) := by
  have hl := h.lt
  have h2 : Below (w.heap.size + 3) wr w2 := below_append h.own (by omega) hg
  have e1 : w2.heap[w.heap.size + 2]? = some (.cells #[v] tV (0, 0)) := (h2.block _ (by omega)).trans h.pv
  have e2 := (h2.block w.heap.size (by omega)).trans h.po
  have e3 := (h2.block (w.heap.size + 1) (by omega)).trans h.pt
  refine ⟨e1, (Below.heap_setCell _ _ _ _ (by simp)).trans e2, (Below.heap_setCell _ _ _ _ (by simp)).trans e3, one_setCell e1, ?_, (h.bel.trans (h2.mono (by omega))).setCell (by simp) _⟩
  refine ownsRow_setCell_below ?_ (by simp) _
  unfold intsV
  rw [List.map_append, List.length_append]
  exact hown'
theorem plc_mono (us : List (List UInt8)) {i j : Nat} (h : i ≤ j) : plc us i ≤ plc us j := by
  have := plc_le (us.take j) i
  unfold plc at this ⊢
  rw [List.take_take, Nat.min_eq_left h] at this
  exact this
theorem plc_min (us : List (List UInt8)) (n : Nat) : plc us (min n us.length) = plc us n := by
  by_cases h : n ≤ us.length
  · rw [Nat.min_eq_left h]
  · rw [Nat.min_eq_right (by omega), plc_over (Nat.le_refl _), plc_over (by omega)]
theorem partL_ends (k : Int) (n : Nat) {us : List (List UInt8)} : ((us.flatten.drop (plc us (fromP k n us.length))).take (plc us (toP k n us.length) - plc us (fromP k n us.length))) = ((us.drop (fromP k n us.length)).take (toP k n us.length - fromP k n us.length)).flatten := by
  obtain ⟨h1, h2⟩ := fromP_le k n us.length
  rw [plc_drop]
  have e : plc us (toP k n us.length) - plc us (fromP k n us.length) = plc (us.drop (fromP k n us.length)) (toP k n us.length - fromP k n us.length) := by
    have : us.take (toP k n us.length) = us.take (fromP k n us.length) ++ (us.drop (fromP k n us.length)).take (toP k n us.length - fromP k n us.length) := by
      conv => lhs; rw [show toP k n us.length = fromP k n us.length + (toP k n us.length - fromP k n us.length) by omega, List.take_add]
    unfold plc
    rw [this, List.flatten_append, List.length_append]; omega
  rw [e, plc_take]
theorem sts_plc {us : List (List UInt8)} {k : Nat} (h : k < us.length) : (sts 0 us)[k]? = some (plc us k) := by
  rw [sts_at _ _ _ h, Nat.zero_add]; rfl
end Go.Pw
namespace Go.Proofs.YtkikbejpgfhfoaaDoor
open Go.RowKit Go.Pw
theorem info_intP : (Tryd.prog.info? 3).map (fun i => (i.zero, i.size, i.bytes)) = some (some (.int .i64 0), 1, 8) := by kernel_rfl
set_option maxHeartbeats 1000000 in
set_option maxRecDepth 100000 in
theorem place_any (bn bt bb : Nat) (x : Int) (v : Value) (s : ByteArray) (us : List (List UInt8)) (w : World) (hx1 : -1000000 ≤ x) (hx2 : x ≤ 1000000) (hfl : us.flatten.length = s.size)
    (c1 : w.cell? ⟨bn, 0, none⟩ = some (.int .i64 (us.length : Int))) (c2 : w.cell? ⟨bt, 0, none⟩ = some (.string s)) (c3 : w.cell? ⟨bb, 0, none⟩ = some v) (hr : Rd w 1 v us.length (intsV (sts 0 us))) :
    Calls Tryd.prog 90 #[.int .i64 x, .pointer (some ⟨bn, 0, none⟩), .pointer (some ⟨bt, 0, none⟩), .pointer (some ⟨bb, 0, none⟩)] w fun e w' => e = .returned (.int .i64 (plc us x.toNat : Int)) ∧ w = w' := by
  obtain ⟨_, A, cap, rfl, hcap, hmax, hrx⟩ := hr
  unfold maxLen at hmax
  have HFL := hide hfl
  by_cases h0 : x < 0
  · have HX : Hid (x.toNat = 0) := hide (by omega)
    by_cases hu : us.length = 0
    · have HZ : Hid ((plc us 0 : Int) = (s.size : Int)) := hide (by rw [plc_over (by omega), hfl])
      obtain rfl : us = [] := List.eq_nil_of_length_eq_zero hu
      clear hrx hu
      go_enter Tryd.func90, Tryd.ntmps90
      go_wp2_with fail
      go_ret
      exact ⟨by rw [HX.out, HZ.out]; rfl, rfl⟩
    · obtain ⟨b, o, rfl, hb, hj⟩ := hrx (by omega)
      have c4 : w.cell? ⟨b, o, none⟩ = some (.int .i64 (plc us 0 : Int)) := hj 0 _ (by rw [intsV, List.getElem?_map, sts_plc (by omega)]; rfl)
      have hd : ¬ ((us.length : Int) ≤ 0) := by omega
      have hd2 : (0 : Int) < (us.length : Int) := by omega
      have hd3 : 0 < us.length := by omega
      obtain ⟨r, hr⟩ : ∃ r, plc us 0 = r := ⟨_, rfl⟩
      rw [hr] at c4
      have HR := hide hr
      clear hrx hj hr
      go_enter Tryd.func90, Tryd.ntmps90
      go_wp2_with fail
      go_ret
      exact ⟨by rw [HX.out, HR.out]; rfl, rfl⟩
  · obtain ⟨j, rfl⟩ : ∃ j : Nat, x = (j : Int) := ⟨x.toNat, by omega⟩
    have HX : Hid (((j : Int)).toNat = j) := hide (by omega)
    have h0' : ¬ ((j : Int) < 0) := h0
    by_cases hu : us.length ≤ j
    · have HZ : Hid ((plc us j : Int) = (s.size : Int)) := hide (by rw [plc_over hu, hfl])
      have hd : (us.length : Int) ≤ (j : Int) := by omega
      clear hrx
      go_enter Tryd.func90, Tryd.ntmps90
      go_wp2_with fail
      go_ret
      exact ⟨by rw [HZ.out]; rfl, rfl⟩
    · obtain ⟨b, o, rfl, hb, hj⟩ := hrx (by omega)
      have c4 : w.cell? ⟨b, o + j, none⟩ = some (.int .i64 (plc us j : Int)) := hj j _ (by rw [intsV, List.getElem?_map, sts_plc (by omega)]; rfl)
      have hd : ¬ ((us.length : Int) ≤ (j : Int)) := by omega
      have hd2 : (j : Int) < (us.length : Int) := by omega
      obtain ⟨r, hr⟩ : ∃ r, plc us j = r := ⟨_, rfl⟩
      rw [hr] at c4
      have HR := hide hr
      clear hrx hj hr hu
      go_enter Tryd.func90, Tryd.ntmps90
      go_wp2_with fail
      go_ret
      exact ⟨by rw [HR.out]; rfl, rfl⟩
theorem wpList_app_po {w wr : World} {ops : Array Oper} {rest : List Oper} {o : Oper} {a : Act} {Q : Exit → Act → World → Prop} {T : TypeId} {k : Int} {b : Bool} {n : Nat} {s : ByteArray} {v : Value} {D : List Nat} {x : Nat} {y : Int} (hgd : o.guard = none) (sx xx : Operand)
    (ho : o.op = .call { callee := .builtin .append, args := #[sx, xx], argTypes := #[119, 119] }) (hP : PoAt 71 9 119 3 w wr k b n s v D) (hs : a.eval sx = v)
    (hx : a.eval xx = .slice (some ⟨wr.heap.size, 0, none⟩) 1 1) (hy : y = (x : Int)) (hb : D.length ≤ 1000000000)
    (h : ∀ A c w2, w2.heap[w.heap.size + 2]? = some (.cells #[v] 119 (0, 0)) → PoAt 71 9 119 3 w (w2.setCell ⟨w.heap.size + 2, 0, none⟩ (.slice A (D.length + 1) c)) k b n s (.slice A (D.length + 1) c) (D ++ [x]) → wpList Tryd.prog ops Q rest (a.put o.dst (.slice A (D.length + 1) c)) w2) :
    wpList Tryd.prog ops Q (o :: rest) a (wr.alloc (.cells #[.int .i64 y] T)) := by
  subst hy
  obtain ⟨ip, hip, hpz, hps, hpb⟩ := info_parts info_intP
  have hl := hP.lt
  refine wpList_append_own _ hgd sx xx 119 ho (w.heap.size + 3) 3 ip _ 1 8 Tryd.underlying119 hip hpz hps hpb rfl (by decide) v _ _ hs (hP.own.alloc _) ⟨wr.heap.size, 0, none⟩ 1 1 [.int .i64 (x : Int)] hx rfl (one_new _ _ _) (by intro u hu; simp at hu; rcases hu with rfl; rfl) (by unfold maxLen; omega) (by omega) (by simp; omega) ?_
  intro v' w2 hown' hg _
  obtain ⟨h1, h2⟩ := hP.push hown' hg
  obtain ⟨A, c, rfl⟩ := own_slice hown'
  exact h A c w2 h1 h2
set_option maxHeartbeats 4000000 in
set_option maxRecDepth 100000 in
theorem partOf_any (k : Int) (b : Bool) (n : Nat) (s : ByteArray) (w : World) (hk1 : 1 ≤ k) (hk2 : k ≤ 4) (hn : n ≤ 65536) (hs : s.size ≤ 65536) :
    Calls Tryd.prog 46 #[.agg #[.int .i64 k, .bool b, .int .i64 (n : Int)], .string s] w fun e w' => e = .returned (.string (mkB (partL k b n s.data.toList))) ∧ Below w.heap.size w w' := by
  have HP0 := hide (PoAt.start 71 9 119 3 w k b n s)
  go_enter Tryd.func46, Tryd.ntmps46
  go_wp2_with fail
  go_loopw [11] (fun i wr => ∃ (j : Nat) (v : Value), j ≤ s.size ∧ i = .int .i64 (j : Int) ∧ Hid (PoAt 71 9 119 3 w wr k b n s v (bgN b s.data.toList j))) (fun i _ => s.size - (intOf i).toNat)
  case atStart => exact ⟨0, _, by omega, rfl, HP0⟩
  case round =>
    clear HP0
    obtain ⟨j, v, hj, rfl, HP⟩ := hrel
    obtain ⟨c0, c1, c2, c3, c4⟩ := HP.out.cells
    have hl := HP.out.lt
    by_cases hlt : j < s.size
    · have hd : (j : Int) < (s.size : Int) := by omega
      have hbl := (bgN_le b s.data.toList j).1
      have HNX : Hid (bgN b s.data.toList (j + 1) = bgN b s.data.toList j ++ (if b = true ∨ j = 0 ∨ s.data.toList[j - 1]? = some 10 then [j] else [])) := hide rfl
      have hown := HP.out.own
      obtain ⟨D, hD⟩ : ∃ D, bgN b s.data.toList j = D := ⟨_, rfl⟩
      rw [hD] at HP HNX hbl hown
      clear hD
      obtain ⟨VA, vc, rfl⟩ := own_slice hown
      have HAP : (b = true ∨ j = 0 ∨ s.data.toList[j - 1]? = some 10) → Hid (bgN b s.data.toList (j + 1) = D ++ [j]) := fun h => hide (by rw [HNX.out, if_pos h])
      by_cases hb : b = true
      · subst hb
        have HN := HAP (.inl rfl)
        clear HAP HNX hown
        go_wp2_with (at_builtin; refine wpList_app_po rfl _ _ rfl HP.out rfl rfl rfl (by omega) ?_)
        intro A2 c2' w2 e1 e2
        have HP2 := hide e2
        have d1 := cell_of_one e1
        have f1 := free_of_one e1
        rw [← HN.out] at HP2
        clear e1 e2
        go_wp2_with fail
        go_roundw
        case rel => exact ⟨j + 1, _, by omega, by go_num, HP2⟩
        case measure => simp [intOf]; omega
      · obtain rfl : b = false := by cases b; rfl; exact absurd rfl hb
        by_cases hj0 : j = 0
        · subst hj0
          have HN := HAP (.inr (.inl rfl))
          clear HAP HNX hown hb
          go_wp2_with (at_builtin; refine wpList_app_po rfl _ _ rfl HP.out rfl rfl rfl (by omega) ?_)
          intro A2 c2' w2 e1 e2
          have HP2 := hide e2
          have d1 := cell_of_one e1
          have f1 := free_of_one e1
          rw [← HN.out] at HP2
          clear e1 e2
          go_wp2_with fail
          go_roundw
          case rel => exact ⟨1, _, by omega, by go_num, HP2⟩
          case measure => simp [intOf]; omega
        · have hj1 : j - 1 < s.size := by omega
          have hg : s.data.toList[j - 1]? = some s[j - 1] := by rw [List.getElem?_eq_getElem (by rw [len_size]; exact hj1)]; rfl
          have g1 : ((j : Int) == 0) = false := by simp only [beq_eq_false_iff_ne, ne_eq]; omega
          have g2 : IntKind.i64.wrap ((j : Int) - 1) = (j : Int) - 1 := IntWalk.i64_in _ (by omega)
          have g3 : (0 : Int) ≤ (j : Int) - 1 := by omega
          have g4 : (j : Int) - 1 < (s.size : Int) := by omega
          have g5 : ((j : Int) - 1).toNat = j - 1 := by omega
          have g6 : (1 : Int) ≤ (j : Int) := by omega
          have g7 : 1 ≤ j := by omega
          by_cases h10 : s[j - 1] = 10
          · have HN := HAP (.inr (.inr (by rw [hg, h10])))
            have g8 : ((s[j - 1].toNat : Int) == 10) = true := by rw [h10]; rfl
            clear HAP HNX hown hb hg h10 hj0
            go_wp2_with (at_builtin; refine wpList_app_po rfl _ _ rfl HP.out rfl rfl rfl (by omega) ?_)
            intro A2 c2' w2 e1 e2
            have HP2 := hide e2
            have d1 := cell_of_one e1
            have f1 := free_of_one e1
            rw [← HN.out] at HP2
            clear e1 e2
            go_wp2_with fail
            go_roundw
            case rel => exact ⟨j + 1, _, by omega, by go_num, HP2⟩
            case measure => simp [intOf]; omega
          · have HN : Hid (bgN false s.data.toList (j + 1) = D) := hide (by rw [HNX.out, if_neg (fun h => by
                rcases h with h | h | h
                · cases h
                · exact hj0 h
                · rw [hg] at h; injection h with h; exact h10 h), List.append_nil])
            have g8 : ((s[j - 1].toNat : Int) == 10) = false := by
              simp only [beq_eq_false_iff_ne, ne_eq]
              intro e; apply h10; apply UInt8.toNat_inj.1; show _ = 10; omega
            clear HAP HNX hown hb hg h10 hj0
            go_wp2_with fail
            go_roundw
            case rel => exact ⟨j + 1, _, by omega, by go_num, by rw [HN.out]; exact HP⟩
            case measure => simp [intOf]; omega
    · obtain rfl : j = s.size := by omega
      have hd : ¬ ((s.size : Int) < (s.size : Int)) := by omega
      have hbg := bgN_pcs b s.data.toList
      rw [len_size] at hbg
      rw [hbg] at HP
      have hfl : (pcs b s.data.toList).flatten.length = s.size := by rw [pcs_flat, len_size]
      have hPL : Hid (partL k b n s.data.toList = (((pcs b s.data.toList).drop (fromP k n (pcs b s.data.toList).length)).take (toP k n (pcs b s.data.toList).length - fromP k n (pcs b s.data.toList).length)).flatten) := hide rfl
      have hx := partL_ends k n (us := pcs b s.data.toList)
      have hul : (pcs b s.data.toList).length ≤ s.size := by
        have := (bgN_le b s.data.toList s.size).1
        rw [hbg, sts_len] at this; exact this
      have HFIN : Hid (mkB (partL k b n s.data.toList) = s.extract (plc (pcs b s.data.toList) (fromP k n (pcs b s.data.toList).length)) (plc (pcs b s.data.toList) (toP k n (pcs b s.data.toList).length))) := hide (by
        rw [← mkB_list (s.extract _ _), Lib.extract_data]
        congr 1
        rw [hPL.out, ← hx, pcs_flat])
      obtain ⟨us, hus⟩ : ∃ us, pcs b s.data.toList = us := ⟨_, rfl⟩
      rw [hus] at HP hfl HFIN hul
      clear hus hPL hx hbg
      have hown := HP.out.own
      rw [sts_len] at hown
      obtain ⟨VA, vc, rfl⟩ := own_slice hown
      have hrd := Rd.of_own hown
      have HRD := hide hrd
      have hplt := fun j => plc_le us j
      rw [hfl] at hplt
      have HW := hide ((Below.refl wr.heap.size wr).alloc (Nat.le_refl _) (.cells #[.int .i64 (us.length : Int)] 3))
      have HP4 := hide (HP.out.below HW.out)
      have hz4 : (wr.alloc (.cells #[.int .i64 (us.length : Int)] 3)).cell? ⟨wr.heap.size, 0, none⟩ = some (.int .i64 (us.length : Int)) := by rw [World.cell?_alloc_new]; rfl
      have HPC : Hid (∀ (x : Int) (W : World), -1000000 ≤ x → x ≤ 1000000 → W.heap = (wr.alloc (.cells #[.int .i64 (us.length : Int)] 3)).heap →
          Calls Tryd.prog 90 #[.int .i64 x, .pointer (some ⟨wr.heap.size, 0, none⟩), .pointer (some ⟨w.heap.size + 1, 0, none⟩), .pointer (some ⟨w.heap.size + 2, 0, none⟩)] W fun e w' => e = .returned (.int .i64 (plc us x.toNat : Int)) ∧ W = w') := hide (fun x W h1 h2 hW => by
        have hc : ∀ p, W.cell? p = (wr.alloc (.cells #[.int .i64 (us.length : Int)] 3)).cell? p := fun p => by unfold World.cell?; rw [hW]
        obtain ⟨-, -, -, e3, e4⟩ := HP4.out.cells
        refine place_any wr.heap.size (w.heap.size + 1) (w.heap.size + 2) x _ s us W h1 h2 hfl ((hc _).trans hz4) ((hc _).trans e3) ((hc _).trans e4) ?_
        exact (HRD.out.below HW.out).keep (by rw [hW]; exact Nat.le_refl _) fun p _ => hc p)
      obtain ⟨d0, d1, d2, d3, d4⟩ := HP4.out.cells
      have HPT := hide hplt
      have HPM := hide (fun (i j : Nat) (h : i ≤ j) => plc_mono us h)
      have HBW : Hid (Below w.heap.size w (wr.alloc (.cells #[.int .i64 (us.length : Int)] 3))) := hide HP4.out.bel
      clear hown hrd hplt HRD
      rcases (by omega : k = 1 ∨ k = 2 ∨ k = 3 ∨ k = 4) with rfl | rfl | rfl | rfl
      · have HF : Hid (mkB (partL 1 b n s.data.toList) = s.extract 0 (plc us (n))) := hide (by
          rw [HFIN.out]
          have e1 : fromP 1 n us.length = 0 := by simp [fromP]
          have e2 : toP 1 n us.length = min n us.length := by simp [toP]
          rw [e1, e2, plc_min]
          rfl)
        have hp := HPT.out (n)
        have HPX : Hid (∀ (W : World), W.heap = (wr.alloc (.cells #[.int .i64 (us.length : Int)] 3)).heap → Calls Tryd.prog 90 #[.int .i64 ((n : Int)), .pointer (some ⟨wr.heap.size, 0, none⟩), .pointer (some ⟨w.heap.size + 1, 0, none⟩), .pointer (some ⟨w.heap.size + 2, 0, none⟩)] W fun e w' => e = .returned (.int .i64 (plc us (n) : Int)) ∧ W = w') := hide (fun W hW => (HPC.out ((n : Int)) W (by omega) (by omega) hW).mono fun e w' ⟨h1, h2⟩ => ⟨by rw [h1]; congr 4 <;> omega, h2⟩)
        obtain ⟨r, hr⟩ : ∃ r, plc us (n) = r := ⟨_, rfl⟩
        rw [hr] at hp HF
        simp only [hr] at HPX
        have hp2 : (r : Int) ≤ (s.size : Int) := by omega
        clear hr HPC HFIN
        go_wp2_with fail
        obtain ⟨W4, hW4⟩ : ∃ W4, wr.alloc (.cells #[.int .i64 (us.length : Int)] 3) = W4 := ⟨_, rfl⟩
        rw [hW4] at d0 d1 d2 d3 d4 hz4 HPX HBW ⊢
        clear hW4
        go_region_held3 (fun w' => w'.cell? ⟨w.heap.size + 1, 0, none⟩ = some (.string s) ∧ w'.cell? ⟨w.heap.size, 2, none⟩ = some (.int .i64 (n : Int)) ∧ w'.cell? ⟨wr.heap.size, 0, none⟩ = some (.int .i64 (us.length : Int))) (go_keep) ((go_at_call 90; (with_reducible refine (HPX.out W4.drew rfl).mono ?_); rintro e w1 ⟨rfl, rfl⟩; have q1 : W4.drew.cell? ⟨w.heap.size + 1, 0, none⟩ = some (.string s) := d3; have q2 : W4.drew.cell? ⟨w.heap.size, 2, none⟩ = some (.int .i64 (n : Int)) := d2; have q3 : W4.drew.cell? ⟨wr.heap.size, 0, none⟩ = some (.int .i64 (us.length : Int)) := hz4))
        go_wp2_with fail
        go_ret
        exact ⟨by rw [HF.out]; rfl, below_drewN HBW.out _⟩
      · have HF : Hid (mkB (partL 2 b n s.data.toList) = s.extract 0 (plc us (us.length - n))) := hide (by
          rw [HFIN.out]
          have e1 : fromP 2 n us.length = 0 := by simp [fromP]
          have e2 : toP 2 n us.length = us.length - n := by simp [toP]
          rw [e1, e2]
          rfl)
        have hp := HPT.out (us.length - n)
        have hw : IntKind.i64.wrap ((us.length : Int) - (n : Int)) = (us.length : Int) - (n : Int) := IntWalk.i64_in _ (by omega)
        have HPX : Hid (∀ (W : World), W.heap = (wr.alloc (.cells #[.int .i64 (us.length : Int)] 3)).heap → Calls Tryd.prog 90 #[.int .i64 ((us.length : Int) - (n : Int)), .pointer (some ⟨wr.heap.size, 0, none⟩), .pointer (some ⟨w.heap.size + 1, 0, none⟩), .pointer (some ⟨w.heap.size + 2, 0, none⟩)] W fun e w' => e = .returned (.int .i64 (plc us (us.length - n) : Int)) ∧ W = w') := hide (fun W hW => (HPC.out ((us.length : Int) - (n : Int)) W (by omega) (by omega) hW).mono fun e w' ⟨h1, h2⟩ => ⟨by rw [h1]; congr 4 <;> omega, h2⟩)
        obtain ⟨r, hr⟩ : ∃ r, plc us (us.length - n) = r := ⟨_, rfl⟩
        rw [hr] at hp HF
        simp only [hr] at HPX
        have hp2 : (r : Int) ≤ (s.size : Int) := by omega
        clear hr HPC HFIN
        go_wp2_with fail
        obtain ⟨W4, hW4⟩ : ∃ W4, wr.alloc (.cells #[.int .i64 (us.length : Int)] 3) = W4 := ⟨_, rfl⟩
        rw [hW4] at d0 d1 d2 d3 d4 hz4 HPX HBW ⊢
        clear hW4
        go_region_held3 (fun w' => w'.cell? ⟨w.heap.size + 1, 0, none⟩ = some (.string s) ∧ w'.cell? ⟨w.heap.size, 2, none⟩ = some (.int .i64 (n : Int)) ∧ w'.cell? ⟨wr.heap.size, 0, none⟩ = some (.int .i64 (us.length : Int))) (go_keep) ((go_at_call 90; (with_reducible refine (HPX.out W4.drew rfl).mono ?_); rintro e w1 ⟨rfl, rfl⟩; have q1 : W4.drew.cell? ⟨w.heap.size + 1, 0, none⟩ = some (.string s) := d3; have q2 : W4.drew.cell? ⟨w.heap.size, 2, none⟩ = some (.int .i64 (n : Int)) := d2; have q3 : W4.drew.cell? ⟨wr.heap.size, 0, none⟩ = some (.int .i64 (us.length : Int)) := hz4))
        go_wp2_with fail
        go_ret
        exact ⟨by rw [HF.out]; rfl, below_drewN HBW.out _⟩
      · have HF : Hid (mkB (partL 3 b n s.data.toList) = s.extract (plc us (us.length - n)) s.size) := hide (by
          rw [HFIN.out]
          have e1 : fromP 3 n us.length = us.length - n := by simp [fromP]
          have e2 : toP 3 n us.length = us.length := by simp [toP]
          rw [e1, e2, plc_over (Nat.le_refl us.length), hfl])
        have hp := HPT.out (us.length - n)
        have hw : IntKind.i64.wrap ((us.length : Int) - (n : Int)) = (us.length : Int) - (n : Int) := IntWalk.i64_in _ (by omega)
        have HPX : Hid (∀ (W : World), W.heap = (wr.alloc (.cells #[.int .i64 (us.length : Int)] 3)).heap → Calls Tryd.prog 90 #[.int .i64 ((us.length : Int) - (n : Int)), .pointer (some ⟨wr.heap.size, 0, none⟩), .pointer (some ⟨w.heap.size + 1, 0, none⟩), .pointer (some ⟨w.heap.size + 2, 0, none⟩)] W fun e w' => e = .returned (.int .i64 (plc us (us.length - n) : Int)) ∧ W = w') := hide (fun W hW => (HPC.out ((us.length : Int) - (n : Int)) W (by omega) (by omega) hW).mono fun e w' ⟨h1, h2⟩ => ⟨by rw [h1]; congr 4 <;> omega, h2⟩)
        obtain ⟨r, hr⟩ : ∃ r, plc us (us.length - n) = r := ⟨_, rfl⟩
        rw [hr] at hp HF
        simp only [hr] at HPX
        have hp2 : (r : Int) ≤ (s.size : Int) := by omega
        clear hr HPC HFIN
        go_wp2_with fail
        obtain ⟨W4, hW4⟩ : ∃ W4, wr.alloc (.cells #[.int .i64 (us.length : Int)] 3) = W4 := ⟨_, rfl⟩
        rw [hW4] at d0 d1 d2 d3 d4 hz4 HPX HBW ⊢
        clear hW4
        go_region_held3 (fun w' => w'.cell? ⟨w.heap.size + 1, 0, none⟩ = some (.string s) ∧ w'.cell? ⟨w.heap.size, 2, none⟩ = some (.int .i64 (n : Int)) ∧ w'.cell? ⟨wr.heap.size, 0, none⟩ = some (.int .i64 (us.length : Int))) (go_keep) ((go_at_call 90; (with_reducible refine (HPX.out W4.drew rfl).mono ?_); rintro e w1 ⟨rfl, rfl⟩; have q1 : W4.drew.cell? ⟨w.heap.size + 1, 0, none⟩ = some (.string s) := d3; have q2 : W4.drew.cell? ⟨w.heap.size, 2, none⟩ = some (.int .i64 (n : Int)) := d2; have q3 : W4.drew.cell? ⟨wr.heap.size, 0, none⟩ = some (.int .i64 (us.length : Int)) := hz4))
        go_wp2_with fail
        go_ret
        exact ⟨by rw [HF.out]; rfl, below_drewN HBW.out _⟩
      · have HF : Hid (mkB (partL 4 b n s.data.toList) = s.extract (plc us (n - 1)) s.size) := hide (by
          rw [HFIN.out]
          have e1 : fromP 4 n us.length = min (n - 1) us.length := by simp [fromP]
          have e2 : toP 4 n us.length = us.length := by simp [toP]
          rw [e1, e2, plc_min, plc_over (Nat.le_refl us.length), hfl])
        have hp := HPT.out (n - 1)
        have hw : IntKind.i64.wrap ((n : Int) - 1) = (n : Int) - 1 := IntWalk.i64_in _ (by omega)
        have HPX : Hid (∀ (W : World), W.heap = (wr.alloc (.cells #[.int .i64 (us.length : Int)] 3)).heap → Calls Tryd.prog 90 #[.int .i64 ((n : Int) - 1), .pointer (some ⟨wr.heap.size, 0, none⟩), .pointer (some ⟨w.heap.size + 1, 0, none⟩), .pointer (some ⟨w.heap.size + 2, 0, none⟩)] W fun e w' => e = .returned (.int .i64 (plc us (n - 1) : Int)) ∧ W = w') := hide (fun W hW => (HPC.out ((n : Int) - 1) W (by omega) (by omega) hW).mono fun e w' ⟨h1, h2⟩ => ⟨by rw [h1]; congr 4 <;> omega, h2⟩)
        obtain ⟨r, hr⟩ : ∃ r, plc us (n - 1) = r := ⟨_, rfl⟩
        rw [hr] at hp HF
        simp only [hr] at HPX
        have hp2 : (r : Int) ≤ (s.size : Int) := by omega
        clear hr HPC HFIN
        go_wp2_with fail
        obtain ⟨W4, hW4⟩ : ∃ W4, wr.alloc (.cells #[.int .i64 (us.length : Int)] 3) = W4 := ⟨_, rfl⟩
        rw [hW4] at d0 d1 d2 d3 d4 hz4 HPX HBW ⊢
        clear hW4
        go_region_held3 (fun w' => w'.cell? ⟨w.heap.size + 1, 0, none⟩ = some (.string s) ∧ w'.cell? ⟨w.heap.size, 2, none⟩ = some (.int .i64 (n : Int)) ∧ w'.cell? ⟨wr.heap.size, 0, none⟩ = some (.int .i64 (us.length : Int))) (go_keep) ((go_at_call 90; (with_reducible refine (HPX.out W4.drew rfl).mono ?_); rintro e w1 ⟨rfl, rfl⟩; have q1 : W4.drew.cell? ⟨w.heap.size + 1, 0, none⟩ = some (.string s) := d3; have q2 : W4.drew.cell? ⟨w.heap.size, 2, none⟩ = some (.int .i64 (n : Int)) := d2; have q3 : W4.drew.cell? ⟨wr.heap.size, 0, none⟩ = some (.int .i64 (us.length : Int)) := hz4))
        go_wp2_with fail
        go_ret
        exact ⟨by rw [HF.out]; rfl, below_drewN HBW.out _⟩
end Go.Proofs.YtkikbejpgfhfoaaDoor
