/- The reference's Grouped. -/
import Derived.Test.YtbelbgfigmbobaaGreatDoorUniqT
set_option linter.unusedVariables false
set_option linter.unusedSimpArgs false
namespace Go.Proofs.YtbelbgfigmbobaaGreatDoor
open Go.RowKit Go.Pw
set_option maxHeartbeats 16000000 in
set_option maxRecDepth 100000 in
theorem grouped_any (o : Uq) (lv : Value) (L : List ByteArray) (w : World) (ho : o.good) (h : Strs w lv L) (hln : L.length ≤ 4096) (hls : ∀ x ∈ L, x.size ≤ 65536) (hT : PowTab w) :
    Calls Tryz.prog 17 #[uqV o, lv] w fun e w' => ∃ v, e = .returned v ∧ OwnS 9 w' (w.heap.size + 1) v (grpU o L 0) ∧ Below w.heap.size w w' := by
  have hbn := (Below.refl w.heap.size w).alloc (Nat.le_refl _) (.cells #[.int .i64 o.fields, .int .i64 o.skip, .int .i64 o.bytes, .bool o.fold, .bool o.count, .bool o.rep, .bool o.alone] 23)
  have hnn : UqIn (w.alloc (.cells #[.int .i64 o.fields, .int .i64 o.skip, .int .i64 o.bytes, .bool o.fold, .bool o.count, .bool o.rep, .bool o.alone] 23)) w.heap.size 23 o := heap_alloc_new _ _
  obtain ⟨W1, hW1⟩ : ∃ W1, w.alloc (.cells #[.int .i64 o.fields, .int .i64 o.skip, .int .i64 o.bytes, .bool o.fold, .bool o.count, .bool o.rep, .bool o.alone] 23) = W1 := ⟨_, rfl⟩
  rw [hW1] at hbn hnn
  have hz1 : W1.heap.size = w.heap.size + 1 := by rw [← hW1]; simp
  have hst := h.below hbn
  obtain ⟨⟨_, LA, lc, rfl, hcap, hmax, hx⟩, _⟩ := hst
  have HX := hide hx
  unfold maxLen at hmax
  have HAL := hide (fun (z : ByteArray) W (hz : z.size ≤ 65536) => alikePart_any o z W ho hz)
  have HIT := hide (fun (n : Int) W (hb : Below w.heap.size w W) h0 h1 => itoa_any n W h0 h1 (hT.below hb))
  have hgb := grpU_bound o L 65536 (by omega) hls L.length 0 (by omega)
  have HGB := hide hgb
  have HLS := hide hls
  have HLN := hide hln
  have HB4 := hide hbn
  have HN4 := hide hnn
  have HCz0 : Hid (w.heap.size ≤ W1.heap.size) := hide hbn.size
  have HUL : Hid (w.heap.size < W1.heap.size) := hide hnn.lt
  have HW1 := hide hW1
  have HZ1 := hide hz1
  unfold uqV at HAL ⊢
  clear hbn hnn hW1 hz1 hgb hls ho hx h
  go_enter Tryz.func17, Tryz.ntmps17
  go_wp2_with fail
  (try rw [HW1.out])
  go_loopw [5, 6] (fun v i wr => UqAt 23 9 o L w W1 v i wr) (fun _ i _ => L.length - (intOf i).toNat)
  case atStart => exact ⟨0, [], by omega, rfl, hide rfl, World.ownsRow_nil _ _ _ _, Below.refl _ _, HB4, HN4⟩
  case round =>
    obtain ⟨k, D, hk, rfl, HGD, HO, HB, HC, HN⟩ := hrel
    obtain ⟨OA, oc, rfl⟩ := own_slice HO.out
    have HDL : Hid (D.length ≤ 1000000000) := hide (by
      have h1 := congrArg List.length HGD.out
      rw [List.length_append] at h1
      have h2 := HGB.out.1
      have h3 := HLN.out
      omega)
    by_cases hlt : k < L.length
    · have hd : (k : Int) < (L.length : Int) := by omega
      obtain ⟨b3, o3, rfl, hb3, hj3⟩ := HX.out (by omega)
      have HCL : Hid (∀ (i : Nat) (W : World), i < L.length → Below W1.heap.size W1 W → W.cell? ⟨b3, o3 + i, none⟩ = some (.string (L.getD i ⟨#[]⟩))) := hide (fun i W hi hW => (hW.cell (p := ⟨b3, o3 + i, none⟩) hb3).trans (hj3 i _ (by simp [hi, List.getD])))
      have HLB : Hid (b3 < W1.heap.size) := hide hb3
      have HLG : Hid (∀ i, (L.getD i ⟨#[]⟩).size ≤ 65536) := hide (fun i => by
        rw [List.getD_eq_getElem?_getD]
        cases h : L[i]? with
        | none => show (⟨#[]⟩ : ByteArray).size ≤ _; decide
        | some x => exact HLS.out x (List.mem_of_getElem? h))
      have HNX0 : Hid (∀ m, runL o L k = m → grpU o L k = pieceU o (L.getD k ⟨#[]⟩) m ++ grpU o L (k + m)) := hide (fun m hm => by rw [grpU_next hlt, hm]; simp [List.getD, hlt])
      have HRU : Hid (∀ m, 1 ≤ m → k + m ≤ L.length → (∀ j, 1 ≤ j → j < m → alk o (L.getD (k + j) ⟨#[]⟩) = alk o (L.getD k ⟨#[]⟩)) → (k + m < L.length → ¬ alk o (L.getD (k + m) ⟨#[]⟩) = alk o (L.getD k ⟨#[]⟩)) → runL o L k = m) := hide (fun m g1 g2 g3 g4 => runL_eq hlt (by omega) g1 g3 g4)
      have HAY := hide (fun W => HAL.out (L.getD k ⟨#[]⟩) W (HLG.out k))
      have hys := HLG.out k
      obtain ⟨y, hy⟩ : ∃ y, L.getD k ⟨#[]⟩ = y := ⟨_, rfl⟩
      have HCY : Hid (∀ (W : World), Below W1.heap.size W1 W → W.cell? ⟨b3, o3 + k, none⟩ = some (.string y)) := hide (fun W hW => by rw [HCL.out k W hlt hW, hy])
      simp only [hy] at HNX0 HRU HAY
      rw [hy] at hys
      obtain ⟨Y, hY⟩ : ∃ Y, alk o y = Y := ⟨_, rfl⟩
      simp only [hY] at HRU HAY
      clear hj3 hb3 hy hY
      have hk1 : (k : Int) + 1 ≤ 4096 := by omega
      go_wp2_with fail
      go_loopw [7] (fun nv wq => ∃ m : Nat, 1 ≤ m ∧ k + m ≤ L.length ∧ nv = .int .i64 ((k : Int) + (m : Int)) ∧ Hid (∀ j, 1 ≤ j → j < m → alk o (L.getD (k + j) ⟨#[]⟩) = Y) ∧ Hid (OwnS 9 wq W1.heap.size (.slice OA D.length oc) D) ∧ Hid (Below W1.heap.size W1 wq) ∧ Hid (Below w.heap.size w wq) ∧ Hid (UqIn wq w.heap.size 23 o)) (fun nv _ => L.length - (intOf nv).toNat)
      case atStart => exact ⟨1, by omega, by omega, by go_num, hide (fun j h1 h2 => absurd h1 (by omega)), HO, HB, HC, HN⟩
      case round =>
        obtain ⟨m, hm1, hmk, rfl, HEQ, HOz, HBz, HCz, HNz⟩ := hrel
        have hzz := HBz.out.size
        have cyz := HCY.out _ HBz.out
        by_cases hlt2 : k + m < L.length
        · have hd2 : (k : Int) + (m : Int) < (L.length : Int) := by omega
          have cxz := HCL.out (k + m) _ hlt2 HBz.out
          have HAX := hide (fun W => HAL.out (L.getD (k + m) ⟨#[]⟩) W (HLG.out (k + m)))
          have HRN : Hid (¬ alk o (L.getD (k + m) ⟨#[]⟩) = Y → runL o L k = m) := hide (fun h => HRU.out m hm1 hmk HEQ.out (fun _ => h))
          have HEN : Hid (alk o (L.getD (k + m) ⟨#[]⟩) = Y → ∀ j, 1 ≤ j → j < m + 1 → alk o (L.getD (k + j) ⟨#[]⟩) = Y) := hide (fun h j h1 h2 => by
            rcases Nat.lt_or_ge j m with h' | h'
            · exact HEQ.out j h1 h'
            · obtain rfl : j = m := by omega
              exact h)
          obtain ⟨x, hx⟩ : ∃ x, L.getD (k + m) ⟨#[]⟩ = x := ⟨_, rfl⟩
          simp only [hx] at HAX HRN HEN
          rw [hx] at cxz
          obtain ⟨X, hX⟩ : ∃ X, alk o x = X := ⟨_, rfl⟩
          simp only [hX] at HAX HRN HEN
          clear hx hX
          rename World => wq
          have EN : Hid (UEnv 23 w.heap.size o b3 (o3 + (k + m)) (o3 + k) x y wq wq) := hide ⟨HNz.out, cxz, cyz, Nat.lt_of_lt_of_le HLB.out hzz, Below.refl _ _⟩
          obtain ⟨d0, d1, d2, d3, d4, d5, d6⟩ := HNz.out.cells
          have hw2 : ((k : Int) + (m : Int)).toNat = k + m := by omega
          have hw3 : (0 : Int) ≤ (k : Int) + (m : Int) := by omega
          go_wp2_with fail
          go_region_held3 (fun w' => w'.cell? ⟨w.heap.size, 0, none⟩ = some (.int .i64 o.fields) ∧ w'.cell? ⟨w.heap.size, 1, none⟩ = some (.int .i64 o.skip) ∧ w'.cell? ⟨w.heap.size, 2, none⟩ = some (.int .i64 o.bytes) ∧ w'.cell? ⟨w.heap.size, 3, none⟩ = some (.bool o.fold) ∧ w'.cell? ⟨w.heap.size, 4, none⟩ = some (.bool o.count) ∧ w'.cell? ⟨w.heap.size, 5, none⟩ = some (.bool o.rep) ∧ w'.cell? ⟨w.heap.size, 6, none⟩ = some (.bool o.alone) ∧ w'.cell? ⟨b3, o3 + (k + m), none⟩ = some (.string x) ∧ w'.cell? ⟨b3, o3 + k, none⟩ = some (.string y)) (go_keep)
            (first
              | (go_at_call 47; (with_reducible refine (HAX.out _).mono ?_); rintro e w5 ⟨rfl, hbl⟩; have EN := hide (UEnv.next EN.out hbl rfl rfl rfl rfl (Nat.le_refl _)); clear hbl; obtain ⟨q0, q1, q2, q3, q4, q5, q6⟩ := EN.out.un.cells; have q7 := EN.out.cx; have q8 := EN.out.cy)
              | (go_at_call 47; (with_reducible refine (HAY.out _).mono ?_); rintro e w5 ⟨rfl, hbl⟩; have EN := hide (UEnv.next EN.out hbl rfl rfl rfl rfl (Nat.le_refl _)); clear hbl; obtain ⟨q0, q1, q2, q3, q4, q5, q6⟩ := EN.out.un.cells; have q7 := EN.out.cx; have q8 := EN.out.cy))
          have ENZ := EN
          have HO5 : Hid (OwnS 9 w5 W1.heap.size (.slice OA D.length oc) D) := hide (own_below HOz.out ENZ.out.bel)
          have HB5 := hide (HBz.out.trans (ENZ.out.bel.mono HBz.out.size))
          have HC5 := hide (HCz.out.trans (ENZ.out.bel.mono HCz.out.size))
          have HN5 := hide ENZ.out.un
          clear HOz HBz HCz HNz cyz cxz hzz EN q0 q1 q2 q3 q4 q5 q6 q7 q8 d0 d1 d2 d3 d4 d5 d6 hw2 hw3
          have hzz := HB5.out.size
          have cyz := ENZ.out.cy
          rename Hid (OwnS 9 w5 W1.heap.size (.slice OA D.length oc) D) => HOz
          rename Hid (Below W1.heap.size W1 w5) => HBz
          rename Hid (Below w.heap.size w w5) => HCz
          rename Hid (UqIn w5 w.heap.size 23 o) => HNz
          clear ENZ HAX
          rename (World.cell? w5 _ = _ ∧ _) => hheld
          clear hheld
          cases heq : (X.toList == Y.toList)
          · have hru := HRN.out (bytes_ne heq)
            have HNX := hide (HNX0.out m hru)
            clear hru
            obtain ⟨d0, d1, d2, d3, d4, d5, d6⟩ := HNz.out.cells
            have HPC : Hid (pieceU o y m = if (!(o.rep && m == 1)) && !(o.alone && decide (1 < m)) then [if o.count then ((⟨(Lib.itoa (m : Int)).toArray⟩ : ByteArray) ++ (⟨#[32]⟩ : ByteArray)) ++ y else y] else []) := hide rfl
            have hmm : (m : Int) ≤ 4096 := by omega
            have hkm : (k : Int) + (m : Int) ≤ 4096 := by omega
            have HKM : Hid (k + m ≤ L.length) := hide (by omega)
            have hsub : (k : Int) + (m : Int) - (k : Int) = (m : Int) := by omega
            rcases Bool.eq_false_or_eq_true o.rep with hre | hre
            · rw [hre] at d5
              rcases Bool.eq_false_or_eq_true o.alone with hao | hao
              · rw [hao] at d6
                by_cases hm1 : m = 1
                · subst hm1
                  have HP2 : Hid (pieceU o y 1 = []) := hide (by rw [HPC.out, hre, hao, show (1 == 1) = true by rfl, show decide (1 < 1) = false by rfl]; rfl)
                  clear HPC hre hao
                  go_wp2_with fail
                  go_roundw
                  case rel => first | exact ⟨k + 1, D, HKM.out, by go_num, hide (by rw [← HGD.out, HNX.out, HP2.out]; simp), HOz, HBz, HCz, HNz⟩ | ((repeat apply Exists.intro); exact ⟨⟨k + 1, D, HKM.out, by go_num, hide (by rw [← HGD.out, HNX.out, HP2.out]; simp), HOz, HBz, HCz, HNz⟩, rfl⟩)
                  case measure => simp [intOf]; omega
                · have hm2 : ((m : Int) == 1) = false := by simp; omega
                  have hm3 : (1 : Int) < (m : Int) := by omega
                  have HP2 : Hid (pieceU o y m = []) := hide (by rw [HPC.out, hre, hao, show (m == 1) = false by simpa using hm1, show decide (1 < m) = true by (simp; omega)]; rfl)
                  clear HPC hre hao
                  go_wp2_with fail
                  go_roundw
                  case rel => first | exact ⟨k + m, D, HKM.out, by go_num, hide (by rw [← HGD.out, HNX.out, HP2.out]; simp), HOz, HBz, HCz, HNz⟩ | ((repeat apply Exists.intro); exact ⟨⟨k + m, D, HKM.out, by go_num, hide (by rw [← HGD.out, HNX.out, HP2.out]; simp), HOz, HBz, HCz, HNz⟩, rfl⟩)
                  case measure => simp [intOf]; omega
              · rw [hao] at d6
                by_cases hm1 : m = 1
                · subst hm1
                  have HP2 : Hid (pieceU o y 1 = []) := hide (by rw [HPC.out, hre, hao, show (1 == 1) = true by rfl, show decide (1 < 1) = false by rfl]; rfl)
                  clear HPC hre hao
                  go_wp2_with fail
                  go_roundw
                  case rel => first | exact ⟨k + 1, D, HKM.out, by go_num, hide (by rw [← HGD.out, HNX.out, HP2.out]; simp), HOz, HBz, HCz, HNz⟩ | ((repeat apply Exists.intro); exact ⟨⟨k + 1, D, HKM.out, by go_num, hide (by rw [← HGD.out, HNX.out, HP2.out]; simp), HOz, HBz, HCz, HNz⟩, rfl⟩)
                  case measure => simp [intOf]; omega
                · have hm2 : ((m : Int) == 1) = false := by simp; omega
                  have hm3 : (1 : Int) < (m : Int) := by omega
                  have HP1 : Hid (pieceU o y m = [if o.count then ((⟨(Lib.itoa (m : Int)).toArray⟩ : ByteArray) ++ (⟨#[32]⟩ : ByteArray)) ++ y else y]) := hide (by rw [HPC.out, hre, hao, show (m == 1) = false by simpa using hm1, show decide (1 < m) = true by (simp; omega)]; rfl)
                  clear HPC hre hao
                  rcases Bool.eq_false_or_eq_true o.count with hco | hco
                  · rw [hco] at d4
                    have HP2 : Hid (pieceU o y m = [((⟨(Lib.itoa (m : Int)).toArray⟩ : ByteArray) ++ (⟨#[32]⟩ : ByteArray)) ++ y]) := hide (by rw [HP1.out, hco]; rfl)
                    have HIM := hide (HIT.out (m : Int) _ HCz.out (by omega) (by omega))
                    have hil := Lib.itoa_length_le (m : Int) (by omega) (by omega)
                    obtain ⟨q, hq⟩ : ∃ q, (⟨(Lib.itoa (m : Int)).toArray⟩ : ByteArray) = q := ⟨_, rfl⟩
                    have hqs : q.size ≤ 21 := by rw [← hq]; simpa [ByteArray.size] using hil
                    rw [hq] at HIM HP2
                    clear hil hq hco
                    go_wp2_with fail
                    refine HIM.out.mono ?_
                    rintro e wi ⟨rfl, hbi⟩
                    have HNz := hide (HNz.out.below hbi HNz.out.lt)
                    have HCz := hide (HCz.out.trans (hbi.mono HCz.out.size))
                    have HOz : Hid (OwnS 9 wi W1.heap.size (.slice OA D.length oc) D) := hide (own_below HOz.out hbi)
                    have HBz := hide (HBz.out.trans (hbi.mono HBz.out.size))
                    have hzz := HBz.out.size
                    clear hbi d0 d1 d2 d3 d4 d5 d6 HIM
                    go_wp2_with (at_builtin; refine wpList_app_one rfl _ _ rfl W1.heap.size _ _ rfl HOz.out rfl HDL.out hzz ?_)
                    intro A2 c2 w6 ho6 hb6
                    have HO6 := hide ho6
                    have HB6 := hide (HBz.out.trans hb6)
                    have HC6 := hide (HCz.out.trans (hb6.mono HCz0.out))
                    have HN6 := hide (HNz.out.below hb6 HUL.out)
                    clear ho6 hb6
                    go_wp2_with fail
                    go_roundw
                    case rel => first | exact ⟨k + m, D ++ [(q ++ (⟨#[32]⟩ : ByteArray)) ++ y], HKM.out, by go_num, hide (by rw [← HGD.out, HNX.out, HP2.out]; simp), HO6, HB6, HC6, HN6⟩ | ((repeat apply Exists.intro); exact ⟨⟨k + m, D ++ [(q ++ (⟨#[32]⟩ : ByteArray)) ++ y], HKM.out, by go_num, hide (by rw [← HGD.out, HNX.out, HP2.out]; simp), HO6, HB6, HC6, HN6⟩, rfl⟩)
                    case measure => simp [intOf]; omega
                  · rw [hco] at d4
                    have HP2 : Hid (pieceU o y m = [y]) := hide (by rw [HP1.out, hco]; rfl)
                    clear hco
                    go_wp2_with (at_builtin; refine wpList_app_one rfl _ _ rfl W1.heap.size _ _ rfl HOz.out rfl HDL.out hzz ?_)
                    intro A2 c2 w6 ho6 hb6
                    have HO6 := hide ho6
                    have HB6 := hide (HBz.out.trans hb6)
                    have HC6 := hide (HCz.out.trans (hb6.mono HCz0.out))
                    have HN6 := hide (HNz.out.below hb6 HUL.out)
                    clear ho6 hb6
                    go_wp2_with fail
                    go_roundw
                    case rel => first | exact ⟨k + m, D ++ [y], HKM.out, by go_num, hide (by rw [← HGD.out, HNX.out, HP2.out]; simp), HO6, HB6, HC6, HN6⟩ | ((repeat apply Exists.intro); exact ⟨⟨k + m, D ++ [y], HKM.out, by go_num, hide (by rw [← HGD.out, HNX.out, HP2.out]; simp), HO6, HB6, HC6, HN6⟩, rfl⟩)
                    case measure => simp [intOf]; omega
            · rw [hre] at d5
              rcases Bool.eq_false_or_eq_true o.alone with hao | hao
              · rw [hao] at d6
                by_cases hm1 : m = 1
                · subst hm1
                  have HP1 : Hid (pieceU o y 1 = [if o.count then ((⟨(Lib.itoa ((1 : Nat) : Int)).toArray⟩ : ByteArray) ++ (⟨#[32]⟩ : ByteArray)) ++ y else y]) := hide (by rw [HPC.out, hre, hao, show (1 == 1) = true by rfl, show decide (1 < 1) = false by rfl]; rfl)
                  clear HPC hre hao
                  rcases Bool.eq_false_or_eq_true o.count with hco | hco
                  · rw [hco] at d4
                    have HP2 : Hid (pieceU o y 1 = [((⟨(Lib.itoa ((1 : Nat) : Int)).toArray⟩ : ByteArray) ++ (⟨#[32]⟩ : ByteArray)) ++ y]) := hide (by rw [HP1.out, hco]; rfl)
                    have HIM := hide (HIT.out ((1 : Nat) : Int) _ HCz.out (by omega) (by omega))
                    have hil := Lib.itoa_length_le ((1 : Nat) : Int) (by omega) (by omega)
                    obtain ⟨q, hq⟩ : ∃ q, (⟨(Lib.itoa ((1 : Nat) : Int)).toArray⟩ : ByteArray) = q := ⟨_, rfl⟩
                    have hqs : q.size ≤ 21 := by rw [← hq]; simpa [ByteArray.size] using hil
                    rw [hq] at HIM HP2
                    clear hil hq hco
                    go_wp2_with fail
                    rw [show (k : Int) + 1 - (k : Int) = ((1 : Nat) : Int) by omega]
                    refine HIM.out.mono ?_
                    rintro e wi ⟨rfl, hbi⟩
                    have HNz := hide (HNz.out.below hbi HNz.out.lt)
                    have HCz := hide (HCz.out.trans (hbi.mono HCz.out.size))
                    have HOz : Hid (OwnS 9 wi W1.heap.size (.slice OA D.length oc) D) := hide (own_below HOz.out hbi)
                    have HBz := hide (HBz.out.trans (hbi.mono HBz.out.size))
                    have hzz := HBz.out.size
                    clear hbi d0 d1 d2 d3 d4 d5 d6 HIM
                    go_wp2_with (at_builtin; refine wpList_app_one rfl _ _ rfl W1.heap.size _ _ rfl HOz.out rfl HDL.out hzz ?_)
                    intro A2 c2 w6 ho6 hb6
                    have HO6 := hide ho6
                    have HB6 := hide (HBz.out.trans hb6)
                    have HC6 := hide (HCz.out.trans (hb6.mono HCz0.out))
                    have HN6 := hide (HNz.out.below hb6 HUL.out)
                    clear ho6 hb6
                    go_wp2_with fail
                    go_roundw
                    case rel => first | exact ⟨k + 1, D ++ [(q ++ (⟨#[32]⟩ : ByteArray)) ++ y], HKM.out, by go_num, hide (by rw [← HGD.out, HNX.out, HP2.out]; simp), HO6, HB6, HC6, HN6⟩ | ((repeat apply Exists.intro); exact ⟨⟨k + 1, D ++ [(q ++ (⟨#[32]⟩ : ByteArray)) ++ y], HKM.out, by go_num, hide (by rw [← HGD.out, HNX.out, HP2.out]; simp), HO6, HB6, HC6, HN6⟩, rfl⟩)
                    case measure => simp [intOf]; omega
                  · rw [hco] at d4
                    have HP2 : Hid (pieceU o y 1 = [y]) := hide (by rw [HP1.out, hco]; rfl)
                    clear hco
                    go_wp2_with (at_builtin; refine wpList_app_one rfl _ _ rfl W1.heap.size _ _ rfl HOz.out rfl HDL.out hzz ?_)
                    intro A2 c2 w6 ho6 hb6
                    have HO6 := hide ho6
                    have HB6 := hide (HBz.out.trans hb6)
                    have HC6 := hide (HCz.out.trans (hb6.mono HCz0.out))
                    have HN6 := hide (HNz.out.below hb6 HUL.out)
                    clear ho6 hb6
                    go_wp2_with fail
                    go_roundw
                    case rel => first | exact ⟨k + 1, D ++ [y], HKM.out, by go_num, hide (by rw [← HGD.out, HNX.out, HP2.out]; simp), HO6, HB6, HC6, HN6⟩ | ((repeat apply Exists.intro); exact ⟨⟨k + 1, D ++ [y], HKM.out, by go_num, hide (by rw [← HGD.out, HNX.out, HP2.out]; simp), HO6, HB6, HC6, HN6⟩, rfl⟩)
                    case measure => simp [intOf]; omega
                · have hm2 : ((m : Int) == 1) = false := by simp; omega
                  have hm3 : (1 : Int) < (m : Int) := by omega
                  have HP2 : Hid (pieceU o y m = []) := hide (by rw [HPC.out, hre, hao, show (m == 1) = false by simpa using hm1, show decide (1 < m) = true by (simp; omega)]; rfl)
                  clear HPC hre hao
                  go_wp2_with fail
                  go_roundw
                  case rel => first | exact ⟨k + m, D, HKM.out, by go_num, hide (by rw [← HGD.out, HNX.out, HP2.out]; simp), HOz, HBz, HCz, HNz⟩ | ((repeat apply Exists.intro); exact ⟨⟨k + m, D, HKM.out, by go_num, hide (by rw [← HGD.out, HNX.out, HP2.out]; simp), HOz, HBz, HCz, HNz⟩, rfl⟩)
                  case measure => simp [intOf]; omega
              · rw [hao] at d6
                by_cases hm1 : m = 1
                · subst hm1
                  have HP1 : Hid (pieceU o y 1 = [if o.count then ((⟨(Lib.itoa ((1 : Nat) : Int)).toArray⟩ : ByteArray) ++ (⟨#[32]⟩ : ByteArray)) ++ y else y]) := hide (by rw [HPC.out, hre, hao, show (1 == 1) = true by rfl, show decide (1 < 1) = false by rfl]; rfl)
                  clear HPC hre hao
                  rcases Bool.eq_false_or_eq_true o.count with hco | hco
                  · rw [hco] at d4
                    have HP2 : Hid (pieceU o y 1 = [((⟨(Lib.itoa ((1 : Nat) : Int)).toArray⟩ : ByteArray) ++ (⟨#[32]⟩ : ByteArray)) ++ y]) := hide (by rw [HP1.out, hco]; rfl)
                    have HIM := hide (HIT.out ((1 : Nat) : Int) _ HCz.out (by omega) (by omega))
                    have hil := Lib.itoa_length_le ((1 : Nat) : Int) (by omega) (by omega)
                    obtain ⟨q, hq⟩ : ∃ q, (⟨(Lib.itoa ((1 : Nat) : Int)).toArray⟩ : ByteArray) = q := ⟨_, rfl⟩
                    have hqs : q.size ≤ 21 := by rw [← hq]; simpa [ByteArray.size] using hil
                    rw [hq] at HIM HP2
                    clear hil hq hco
                    go_wp2_with fail
                    rw [show (k : Int) + 1 - (k : Int) = ((1 : Nat) : Int) by omega]
                    refine HIM.out.mono ?_
                    rintro e wi ⟨rfl, hbi⟩
                    have HNz := hide (HNz.out.below hbi HNz.out.lt)
                    have HCz := hide (HCz.out.trans (hbi.mono HCz.out.size))
                    have HOz : Hid (OwnS 9 wi W1.heap.size (.slice OA D.length oc) D) := hide (own_below HOz.out hbi)
                    have HBz := hide (HBz.out.trans (hbi.mono HBz.out.size))
                    have hzz := HBz.out.size
                    clear hbi d0 d1 d2 d3 d4 d5 d6 HIM
                    go_wp2_with (at_builtin; refine wpList_app_one rfl _ _ rfl W1.heap.size _ _ rfl HOz.out rfl HDL.out hzz ?_)
                    intro A2 c2 w6 ho6 hb6
                    have HO6 := hide ho6
                    have HB6 := hide (HBz.out.trans hb6)
                    have HC6 := hide (HCz.out.trans (hb6.mono HCz0.out))
                    have HN6 := hide (HNz.out.below hb6 HUL.out)
                    clear ho6 hb6
                    go_wp2_with fail
                    go_roundw
                    case rel => first | exact ⟨k + 1, D ++ [(q ++ (⟨#[32]⟩ : ByteArray)) ++ y], HKM.out, by go_num, hide (by rw [← HGD.out, HNX.out, HP2.out]; simp), HO6, HB6, HC6, HN6⟩ | ((repeat apply Exists.intro); exact ⟨⟨k + 1, D ++ [(q ++ (⟨#[32]⟩ : ByteArray)) ++ y], HKM.out, by go_num, hide (by rw [← HGD.out, HNX.out, HP2.out]; simp), HO6, HB6, HC6, HN6⟩, rfl⟩)
                    case measure => simp [intOf]; omega
                  · rw [hco] at d4
                    have HP2 : Hid (pieceU o y 1 = [y]) := hide (by rw [HP1.out, hco]; rfl)
                    clear hco
                    go_wp2_with (at_builtin; refine wpList_app_one rfl _ _ rfl W1.heap.size _ _ rfl HOz.out rfl HDL.out hzz ?_)
                    intro A2 c2 w6 ho6 hb6
                    have HO6 := hide ho6
                    have HB6 := hide (HBz.out.trans hb6)
                    have HC6 := hide (HCz.out.trans (hb6.mono HCz0.out))
                    have HN6 := hide (HNz.out.below hb6 HUL.out)
                    clear ho6 hb6
                    go_wp2_with fail
                    go_roundw
                    case rel => first | exact ⟨k + 1, D ++ [y], HKM.out, by go_num, hide (by rw [← HGD.out, HNX.out, HP2.out]; simp), HO6, HB6, HC6, HN6⟩ | ((repeat apply Exists.intro); exact ⟨⟨k + 1, D ++ [y], HKM.out, by go_num, hide (by rw [← HGD.out, HNX.out, HP2.out]; simp), HO6, HB6, HC6, HN6⟩, rfl⟩)
                    case measure => simp [intOf]; omega
                · have hm2 : ((m : Int) == 1) = false := by simp; omega
                  have hm3 : (1 : Int) < (m : Int) := by omega
                  have HP1 : Hid (pieceU o y m = [if o.count then ((⟨(Lib.itoa (m : Int)).toArray⟩ : ByteArray) ++ (⟨#[32]⟩ : ByteArray)) ++ y else y]) := hide (by rw [HPC.out, hre, hao, show (m == 1) = false by simpa using hm1, show decide (1 < m) = true by (simp; omega)]; rfl)
                  clear HPC hre hao
                  rcases Bool.eq_false_or_eq_true o.count with hco | hco
                  · rw [hco] at d4
                    have HP2 : Hid (pieceU o y m = [((⟨(Lib.itoa (m : Int)).toArray⟩ : ByteArray) ++ (⟨#[32]⟩ : ByteArray)) ++ y]) := hide (by rw [HP1.out, hco]; rfl)
                    have HIM := hide (HIT.out (m : Int) _ HCz.out (by omega) (by omega))
                    have hil := Lib.itoa_length_le (m : Int) (by omega) (by omega)
                    obtain ⟨q, hq⟩ : ∃ q, (⟨(Lib.itoa (m : Int)).toArray⟩ : ByteArray) = q := ⟨_, rfl⟩
                    have hqs : q.size ≤ 21 := by rw [← hq]; simpa [ByteArray.size] using hil
                    rw [hq] at HIM HP2
                    clear hil hq hco
                    go_wp2_with fail
                    refine HIM.out.mono ?_
                    rintro e wi ⟨rfl, hbi⟩
                    have HNz := hide (HNz.out.below hbi HNz.out.lt)
                    have HCz := hide (HCz.out.trans (hbi.mono HCz.out.size))
                    have HOz : Hid (OwnS 9 wi W1.heap.size (.slice OA D.length oc) D) := hide (own_below HOz.out hbi)
                    have HBz := hide (HBz.out.trans (hbi.mono HBz.out.size))
                    have hzz := HBz.out.size
                    clear hbi d0 d1 d2 d3 d4 d5 d6 HIM
                    go_wp2_with (at_builtin; refine wpList_app_one rfl _ _ rfl W1.heap.size _ _ rfl HOz.out rfl HDL.out hzz ?_)
                    intro A2 c2 w6 ho6 hb6
                    have HO6 := hide ho6
                    have HB6 := hide (HBz.out.trans hb6)
                    have HC6 := hide (HCz.out.trans (hb6.mono HCz0.out))
                    have HN6 := hide (HNz.out.below hb6 HUL.out)
                    clear ho6 hb6
                    go_wp2_with fail
                    go_roundw
                    case rel => first | exact ⟨k + m, D ++ [(q ++ (⟨#[32]⟩ : ByteArray)) ++ y], HKM.out, by go_num, hide (by rw [← HGD.out, HNX.out, HP2.out]; simp), HO6, HB6, HC6, HN6⟩ | ((repeat apply Exists.intro); exact ⟨⟨k + m, D ++ [(q ++ (⟨#[32]⟩ : ByteArray)) ++ y], HKM.out, by go_num, hide (by rw [← HGD.out, HNX.out, HP2.out]; simp), HO6, HB6, HC6, HN6⟩, rfl⟩)
                    case measure => simp [intOf]; omega
                  · rw [hco] at d4
                    have HP2 : Hid (pieceU o y m = [y]) := hide (by rw [HP1.out, hco]; rfl)
                    clear hco
                    go_wp2_with (at_builtin; refine wpList_app_one rfl _ _ rfl W1.heap.size _ _ rfl HOz.out rfl HDL.out hzz ?_)
                    intro A2 c2 w6 ho6 hb6
                    have HO6 := hide ho6
                    have HB6 := hide (HBz.out.trans hb6)
                    have HC6 := hide (HCz.out.trans (hb6.mono HCz0.out))
                    have HN6 := hide (HNz.out.below hb6 HUL.out)
                    clear ho6 hb6
                    go_wp2_with fail
                    go_roundw
                    case rel => first | exact ⟨k + m, D ++ [y], HKM.out, by go_num, hide (by rw [← HGD.out, HNX.out, HP2.out]; simp), HO6, HB6, HC6, HN6⟩ | ((repeat apply Exists.intro); exact ⟨⟨k + m, D ++ [y], HKM.out, by go_num, hide (by rw [← HGD.out, HNX.out, HP2.out]; simp), HO6, HB6, HC6, HN6⟩, rfl⟩)
                    case measure => simp [intOf]; omega
          · have HE2 := hide (HEN.out (bytes_eq heq))
            go_wp2_with fail
            go_roundw
            case rel => exact ⟨m + 1, by omega, by omega, by go_num, HE2, HOz, HBz, HCz, HNz⟩
            case measure => simp [intOf]; omega
        · have hd2 : ¬ ((k : Int) + (m : Int) < (L.length : Int)) := by omega
          have hru := HRU.out m hm1 hmk HEQ.out (fun h => absurd h (by omega))
          have HNX := hide (HNX0.out m hru)
          clear hru
          have hd3 : decide ((k : Int) + (m : Int) < (L.length : Int)) = false := by simpa using hd2
          rename World => wq
          go_wp2_with fail
          go_quiet (fail)
          have HO5 : Hid (OwnS 9 (wq.drewN nq) W1.heap.size (.slice OA D.length oc) D) := hide HOz.out
          have HB5 := hide (below_drewN HBz.out nq)
          have HC5 := hide (below_drewN HCz.out nq)
          have HN5 : Hid (UqIn (wq.drewN nq) w.heap.size 23 o) := hide HNz.out
          obtain ⟨w5, hw5⟩ : ∃ w5, wq.drewN nq = w5 := ⟨_, rfl⟩
          rw [hw5] at HO5 HB5 HC5 HN5 ⊢
          clear HOz HBz HCz HNz cyz hzz hd3 hw5
          have hzz := HB5.out.size
          have cyz := HCY.out _ HB5.out
          rename Hid (OwnS 9 w5 W1.heap.size (.slice OA D.length oc) D) => HOz
          rename Hid (Below W1.heap.size W1 w5) => HBz
          rename Hid (Below w.heap.size w w5) => HCz
          rename Hid (UqIn w5 w.heap.size 23 o) => HNz
          obtain ⟨d0, d1, d2, d3, d4, d5, d6⟩ := HNz.out.cells
          have HPC : Hid (pieceU o y m = if (!(o.rep && m == 1)) && !(o.alone && decide (1 < m)) then [if o.count then ((⟨(Lib.itoa (m : Int)).toArray⟩ : ByteArray) ++ (⟨#[32]⟩ : ByteArray)) ++ y else y] else []) := hide rfl
          have hmm : (m : Int) ≤ 4096 := by omega
          have hkm : (k : Int) + (m : Int) ≤ 4096 := by omega
          have HKM : Hid (k + m ≤ L.length) := hide (by omega)
          have hsub : (k : Int) + (m : Int) - (k : Int) = (m : Int) := by omega
          rcases Bool.eq_false_or_eq_true o.rep with hre | hre
          · rw [hre] at d5
            rcases Bool.eq_false_or_eq_true o.alone with hao | hao
            · rw [hao] at d6
              by_cases hm1 : m = 1
              · subst hm1
                have HP2 : Hid (pieceU o y 1 = []) := hide (by rw [HPC.out, hre, hao, show (1 == 1) = true by rfl, show decide (1 < 1) = false by rfl]; rfl)
                clear HPC hre hao
                go_wp2_with fail
                go_roundw
                case rel => first | exact ⟨k + 1, D, HKM.out, by go_num, hide (by rw [← HGD.out, HNX.out, HP2.out]; simp), HOz, HBz, HCz, HNz⟩ | ((repeat apply Exists.intro); exact ⟨⟨k + 1, D, HKM.out, by go_num, hide (by rw [← HGD.out, HNX.out, HP2.out]; simp), HOz, HBz, HCz, HNz⟩, rfl⟩)
                case measure => simp [intOf]; omega
              · have hm2 : ((m : Int) == 1) = false := by simp; omega
                have hm3 : (1 : Int) < (m : Int) := by omega
                have HP2 : Hid (pieceU o y m = []) := hide (by rw [HPC.out, hre, hao, show (m == 1) = false by simpa using hm1, show decide (1 < m) = true by (simp; omega)]; rfl)
                clear HPC hre hao
                go_wp2_with fail
                go_roundw
                case rel => first | exact ⟨k + m, D, HKM.out, by go_num, hide (by rw [← HGD.out, HNX.out, HP2.out]; simp), HOz, HBz, HCz, HNz⟩ | ((repeat apply Exists.intro); exact ⟨⟨k + m, D, HKM.out, by go_num, hide (by rw [← HGD.out, HNX.out, HP2.out]; simp), HOz, HBz, HCz, HNz⟩, rfl⟩)
                case measure => simp [intOf]; omega
            · rw [hao] at d6
              by_cases hm1 : m = 1
              · subst hm1
                have HP2 : Hid (pieceU o y 1 = []) := hide (by rw [HPC.out, hre, hao, show (1 == 1) = true by rfl, show decide (1 < 1) = false by rfl]; rfl)
                clear HPC hre hao
                go_wp2_with fail
                go_roundw
                case rel => first | exact ⟨k + 1, D, HKM.out, by go_num, hide (by rw [← HGD.out, HNX.out, HP2.out]; simp), HOz, HBz, HCz, HNz⟩ | ((repeat apply Exists.intro); exact ⟨⟨k + 1, D, HKM.out, by go_num, hide (by rw [← HGD.out, HNX.out, HP2.out]; simp), HOz, HBz, HCz, HNz⟩, rfl⟩)
                case measure => simp [intOf]; omega
              · have hm2 : ((m : Int) == 1) = false := by simp; omega
                have hm3 : (1 : Int) < (m : Int) := by omega
                have HP1 : Hid (pieceU o y m = [if o.count then ((⟨(Lib.itoa (m : Int)).toArray⟩ : ByteArray) ++ (⟨#[32]⟩ : ByteArray)) ++ y else y]) := hide (by rw [HPC.out, hre, hao, show (m == 1) = false by simpa using hm1, show decide (1 < m) = true by (simp; omega)]; rfl)
                clear HPC hre hao
                rcases Bool.eq_false_or_eq_true o.count with hco | hco
                · rw [hco] at d4
                  have HP2 : Hid (pieceU o y m = [((⟨(Lib.itoa (m : Int)).toArray⟩ : ByteArray) ++ (⟨#[32]⟩ : ByteArray)) ++ y]) := hide (by rw [HP1.out, hco]; rfl)
                  have HIM := hide (HIT.out (m : Int) _ HCz.out (by omega) (by omega))
                  have hil := Lib.itoa_length_le (m : Int) (by omega) (by omega)
                  obtain ⟨q, hq⟩ : ∃ q, (⟨(Lib.itoa (m : Int)).toArray⟩ : ByteArray) = q := ⟨_, rfl⟩
                  have hqs : q.size ≤ 21 := by rw [← hq]; simpa [ByteArray.size] using hil
                  rw [hq] at HIM HP2
                  clear hil hq hco
                  go_wp2_with fail
                  refine HIM.out.mono ?_
                  rintro e wi ⟨rfl, hbi⟩
                  have HNz := hide (HNz.out.below hbi HNz.out.lt)
                  have HCz := hide (HCz.out.trans (hbi.mono HCz.out.size))
                  have HOz : Hid (OwnS 9 wi W1.heap.size (.slice OA D.length oc) D) := hide (own_below HOz.out hbi)
                  have HBz := hide (HBz.out.trans (hbi.mono HBz.out.size))
                  have hzz := HBz.out.size
                  clear hbi d0 d1 d2 d3 d4 d5 d6 HIM
                  go_wp2_with (at_builtin; refine wpList_app_one rfl _ _ rfl W1.heap.size _ _ rfl HOz.out rfl HDL.out hzz ?_)
                  intro A2 c2 w6 ho6 hb6
                  have HO6 := hide ho6
                  have HB6 := hide (HBz.out.trans hb6)
                  have HC6 := hide (HCz.out.trans (hb6.mono HCz0.out))
                  have HN6 := hide (HNz.out.below hb6 HUL.out)
                  clear ho6 hb6
                  go_wp2_with fail
                  go_roundw
                  case rel => first | exact ⟨k + m, D ++ [(q ++ (⟨#[32]⟩ : ByteArray)) ++ y], HKM.out, by go_num, hide (by rw [← HGD.out, HNX.out, HP2.out]; simp), HO6, HB6, HC6, HN6⟩ | ((repeat apply Exists.intro); exact ⟨⟨k + m, D ++ [(q ++ (⟨#[32]⟩ : ByteArray)) ++ y], HKM.out, by go_num, hide (by rw [← HGD.out, HNX.out, HP2.out]; simp), HO6, HB6, HC6, HN6⟩, rfl⟩)
                  case measure => simp [intOf]; omega
                · rw [hco] at d4
                  have HP2 : Hid (pieceU o y m = [y]) := hide (by rw [HP1.out, hco]; rfl)
                  clear hco
                  go_wp2_with (at_builtin; refine wpList_app_one rfl _ _ rfl W1.heap.size _ _ rfl HOz.out rfl HDL.out hzz ?_)
                  intro A2 c2 w6 ho6 hb6
                  have HO6 := hide ho6
                  have HB6 := hide (HBz.out.trans hb6)
                  have HC6 := hide (HCz.out.trans (hb6.mono HCz0.out))
                  have HN6 := hide (HNz.out.below hb6 HUL.out)
                  clear ho6 hb6
                  go_wp2_with fail
                  go_roundw
                  case rel => first | exact ⟨k + m, D ++ [y], HKM.out, by go_num, hide (by rw [← HGD.out, HNX.out, HP2.out]; simp), HO6, HB6, HC6, HN6⟩ | ((repeat apply Exists.intro); exact ⟨⟨k + m, D ++ [y], HKM.out, by go_num, hide (by rw [← HGD.out, HNX.out, HP2.out]; simp), HO6, HB6, HC6, HN6⟩, rfl⟩)
                  case measure => simp [intOf]; omega
          · rw [hre] at d5
            rcases Bool.eq_false_or_eq_true o.alone with hao | hao
            · rw [hao] at d6
              by_cases hm1 : m = 1
              · subst hm1
                have HP1 : Hid (pieceU o y 1 = [if o.count then ((⟨(Lib.itoa ((1 : Nat) : Int)).toArray⟩ : ByteArray) ++ (⟨#[32]⟩ : ByteArray)) ++ y else y]) := hide (by rw [HPC.out, hre, hao, show (1 == 1) = true by rfl, show decide (1 < 1) = false by rfl]; rfl)
                clear HPC hre hao
                rcases Bool.eq_false_or_eq_true o.count with hco | hco
                · rw [hco] at d4
                  have HP2 : Hid (pieceU o y 1 = [((⟨(Lib.itoa ((1 : Nat) : Int)).toArray⟩ : ByteArray) ++ (⟨#[32]⟩ : ByteArray)) ++ y]) := hide (by rw [HP1.out, hco]; rfl)
                  have HIM := hide (HIT.out ((1 : Nat) : Int) _ HCz.out (by omega) (by omega))
                  have hil := Lib.itoa_length_le ((1 : Nat) : Int) (by omega) (by omega)
                  obtain ⟨q, hq⟩ : ∃ q, (⟨(Lib.itoa ((1 : Nat) : Int)).toArray⟩ : ByteArray) = q := ⟨_, rfl⟩
                  have hqs : q.size ≤ 21 := by rw [← hq]; simpa [ByteArray.size] using hil
                  rw [hq] at HIM HP2
                  clear hil hq hco
                  go_wp2_with fail
                  rw [show (k : Int) + 1 - (k : Int) = ((1 : Nat) : Int) by omega]
                  refine HIM.out.mono ?_
                  rintro e wi ⟨rfl, hbi⟩
                  have HNz := hide (HNz.out.below hbi HNz.out.lt)
                  have HCz := hide (HCz.out.trans (hbi.mono HCz.out.size))
                  have HOz : Hid (OwnS 9 wi W1.heap.size (.slice OA D.length oc) D) := hide (own_below HOz.out hbi)
                  have HBz := hide (HBz.out.trans (hbi.mono HBz.out.size))
                  have hzz := HBz.out.size
                  clear hbi d0 d1 d2 d3 d4 d5 d6 HIM
                  go_wp2_with (at_builtin; refine wpList_app_one rfl _ _ rfl W1.heap.size _ _ rfl HOz.out rfl HDL.out hzz ?_)
                  intro A2 c2 w6 ho6 hb6
                  have HO6 := hide ho6
                  have HB6 := hide (HBz.out.trans hb6)
                  have HC6 := hide (HCz.out.trans (hb6.mono HCz0.out))
                  have HN6 := hide (HNz.out.below hb6 HUL.out)
                  clear ho6 hb6
                  go_wp2_with fail
                  go_roundw
                  case rel => first | exact ⟨k + 1, D ++ [(q ++ (⟨#[32]⟩ : ByteArray)) ++ y], HKM.out, by go_num, hide (by rw [← HGD.out, HNX.out, HP2.out]; simp), HO6, HB6, HC6, HN6⟩ | ((repeat apply Exists.intro); exact ⟨⟨k + 1, D ++ [(q ++ (⟨#[32]⟩ : ByteArray)) ++ y], HKM.out, by go_num, hide (by rw [← HGD.out, HNX.out, HP2.out]; simp), HO6, HB6, HC6, HN6⟩, rfl⟩)
                  case measure => simp [intOf]; omega
                · rw [hco] at d4
                  have HP2 : Hid (pieceU o y 1 = [y]) := hide (by rw [HP1.out, hco]; rfl)
                  clear hco
                  go_wp2_with (at_builtin; refine wpList_app_one rfl _ _ rfl W1.heap.size _ _ rfl HOz.out rfl HDL.out hzz ?_)
                  intro A2 c2 w6 ho6 hb6
                  have HO6 := hide ho6
                  have HB6 := hide (HBz.out.trans hb6)
                  have HC6 := hide (HCz.out.trans (hb6.mono HCz0.out))
                  have HN6 := hide (HNz.out.below hb6 HUL.out)
                  clear ho6 hb6
                  go_wp2_with fail
                  go_roundw
                  case rel => first | exact ⟨k + 1, D ++ [y], HKM.out, by go_num, hide (by rw [← HGD.out, HNX.out, HP2.out]; simp), HO6, HB6, HC6, HN6⟩ | ((repeat apply Exists.intro); exact ⟨⟨k + 1, D ++ [y], HKM.out, by go_num, hide (by rw [← HGD.out, HNX.out, HP2.out]; simp), HO6, HB6, HC6, HN6⟩, rfl⟩)
                  case measure => simp [intOf]; omega
              · have hm2 : ((m : Int) == 1) = false := by simp; omega
                have hm3 : (1 : Int) < (m : Int) := by omega
                have HP2 : Hid (pieceU o y m = []) := hide (by rw [HPC.out, hre, hao, show (m == 1) = false by simpa using hm1, show decide (1 < m) = true by (simp; omega)]; rfl)
                clear HPC hre hao
                go_wp2_with fail
                go_roundw
                case rel => first | exact ⟨k + m, D, HKM.out, by go_num, hide (by rw [← HGD.out, HNX.out, HP2.out]; simp), HOz, HBz, HCz, HNz⟩ | ((repeat apply Exists.intro); exact ⟨⟨k + m, D, HKM.out, by go_num, hide (by rw [← HGD.out, HNX.out, HP2.out]; simp), HOz, HBz, HCz, HNz⟩, rfl⟩)
                case measure => simp [intOf]; omega
            · rw [hao] at d6
              by_cases hm1 : m = 1
              · subst hm1
                have HP1 : Hid (pieceU o y 1 = [if o.count then ((⟨(Lib.itoa ((1 : Nat) : Int)).toArray⟩ : ByteArray) ++ (⟨#[32]⟩ : ByteArray)) ++ y else y]) := hide (by rw [HPC.out, hre, hao, show (1 == 1) = true by rfl, show decide (1 < 1) = false by rfl]; rfl)
                clear HPC hre hao
                rcases Bool.eq_false_or_eq_true o.count with hco | hco
                · rw [hco] at d4
                  have HP2 : Hid (pieceU o y 1 = [((⟨(Lib.itoa ((1 : Nat) : Int)).toArray⟩ : ByteArray) ++ (⟨#[32]⟩ : ByteArray)) ++ y]) := hide (by rw [HP1.out, hco]; rfl)
                  have HIM := hide (HIT.out ((1 : Nat) : Int) _ HCz.out (by omega) (by omega))
                  have hil := Lib.itoa_length_le ((1 : Nat) : Int) (by omega) (by omega)
                  obtain ⟨q, hq⟩ : ∃ q, (⟨(Lib.itoa ((1 : Nat) : Int)).toArray⟩ : ByteArray) = q := ⟨_, rfl⟩
                  have hqs : q.size ≤ 21 := by rw [← hq]; simpa [ByteArray.size] using hil
                  rw [hq] at HIM HP2
                  clear hil hq hco
                  go_wp2_with fail
                  rw [show (k : Int) + 1 - (k : Int) = ((1 : Nat) : Int) by omega]
                  refine HIM.out.mono ?_
                  rintro e wi ⟨rfl, hbi⟩
                  have HNz := hide (HNz.out.below hbi HNz.out.lt)
                  have HCz := hide (HCz.out.trans (hbi.mono HCz.out.size))
                  have HOz : Hid (OwnS 9 wi W1.heap.size (.slice OA D.length oc) D) := hide (own_below HOz.out hbi)
                  have HBz := hide (HBz.out.trans (hbi.mono HBz.out.size))
                  have hzz := HBz.out.size
                  clear hbi d0 d1 d2 d3 d4 d5 d6 HIM
                  go_wp2_with (at_builtin; refine wpList_app_one rfl _ _ rfl W1.heap.size _ _ rfl HOz.out rfl HDL.out hzz ?_)
                  intro A2 c2 w6 ho6 hb6
                  have HO6 := hide ho6
                  have HB6 := hide (HBz.out.trans hb6)
                  have HC6 := hide (HCz.out.trans (hb6.mono HCz0.out))
                  have HN6 := hide (HNz.out.below hb6 HUL.out)
                  clear ho6 hb6
                  go_wp2_with fail
                  go_roundw
                  case rel => first | exact ⟨k + 1, D ++ [(q ++ (⟨#[32]⟩ : ByteArray)) ++ y], HKM.out, by go_num, hide (by rw [← HGD.out, HNX.out, HP2.out]; simp), HO6, HB6, HC6, HN6⟩ | ((repeat apply Exists.intro); exact ⟨⟨k + 1, D ++ [(q ++ (⟨#[32]⟩ : ByteArray)) ++ y], HKM.out, by go_num, hide (by rw [← HGD.out, HNX.out, HP2.out]; simp), HO6, HB6, HC6, HN6⟩, rfl⟩)
                  case measure => simp [intOf]; omega
                · rw [hco] at d4
                  have HP2 : Hid (pieceU o y 1 = [y]) := hide (by rw [HP1.out, hco]; rfl)
                  clear hco
                  go_wp2_with (at_builtin; refine wpList_app_one rfl _ _ rfl W1.heap.size _ _ rfl HOz.out rfl HDL.out hzz ?_)
                  intro A2 c2 w6 ho6 hb6
                  have HO6 := hide ho6
                  have HB6 := hide (HBz.out.trans hb6)
                  have HC6 := hide (HCz.out.trans (hb6.mono HCz0.out))
                  have HN6 := hide (HNz.out.below hb6 HUL.out)
                  clear ho6 hb6
                  go_wp2_with fail
                  go_roundw
                  case rel => first | exact ⟨k + 1, D ++ [y], HKM.out, by go_num, hide (by rw [← HGD.out, HNX.out, HP2.out]; simp), HO6, HB6, HC6, HN6⟩ | ((repeat apply Exists.intro); exact ⟨⟨k + 1, D ++ [y], HKM.out, by go_num, hide (by rw [← HGD.out, HNX.out, HP2.out]; simp), HO6, HB6, HC6, HN6⟩, rfl⟩)
                  case measure => simp [intOf]; omega
              · have hm2 : ((m : Int) == 1) = false := by simp; omega
                have hm3 : (1 : Int) < (m : Int) := by omega
                have HP1 : Hid (pieceU o y m = [if o.count then ((⟨(Lib.itoa (m : Int)).toArray⟩ : ByteArray) ++ (⟨#[32]⟩ : ByteArray)) ++ y else y]) := hide (by rw [HPC.out, hre, hao, show (m == 1) = false by simpa using hm1, show decide (1 < m) = true by (simp; omega)]; rfl)
                clear HPC hre hao
                rcases Bool.eq_false_or_eq_true o.count with hco | hco
                · rw [hco] at d4
                  have HP2 : Hid (pieceU o y m = [((⟨(Lib.itoa (m : Int)).toArray⟩ : ByteArray) ++ (⟨#[32]⟩ : ByteArray)) ++ y]) := hide (by rw [HP1.out, hco]; rfl)
                  have HIM := hide (HIT.out (m : Int) _ HCz.out (by omega) (by omega))
                  have hil := Lib.itoa_length_le (m : Int) (by omega) (by omega)
                  obtain ⟨q, hq⟩ : ∃ q, (⟨(Lib.itoa (m : Int)).toArray⟩ : ByteArray) = q := ⟨_, rfl⟩
                  have hqs : q.size ≤ 21 := by rw [← hq]; simpa [ByteArray.size] using hil
                  rw [hq] at HIM HP2
                  clear hil hq hco
                  go_wp2_with fail
                  refine HIM.out.mono ?_
                  rintro e wi ⟨rfl, hbi⟩
                  have HNz := hide (HNz.out.below hbi HNz.out.lt)
                  have HCz := hide (HCz.out.trans (hbi.mono HCz.out.size))
                  have HOz : Hid (OwnS 9 wi W1.heap.size (.slice OA D.length oc) D) := hide (own_below HOz.out hbi)
                  have HBz := hide (HBz.out.trans (hbi.mono HBz.out.size))
                  have hzz := HBz.out.size
                  clear hbi d0 d1 d2 d3 d4 d5 d6 HIM
                  go_wp2_with (at_builtin; refine wpList_app_one rfl _ _ rfl W1.heap.size _ _ rfl HOz.out rfl HDL.out hzz ?_)
                  intro A2 c2 w6 ho6 hb6
                  have HO6 := hide ho6
                  have HB6 := hide (HBz.out.trans hb6)
                  have HC6 := hide (HCz.out.trans (hb6.mono HCz0.out))
                  have HN6 := hide (HNz.out.below hb6 HUL.out)
                  clear ho6 hb6
                  go_wp2_with fail
                  go_roundw
                  case rel => first | exact ⟨k + m, D ++ [(q ++ (⟨#[32]⟩ : ByteArray)) ++ y], HKM.out, by go_num, hide (by rw [← HGD.out, HNX.out, HP2.out]; simp), HO6, HB6, HC6, HN6⟩ | ((repeat apply Exists.intro); exact ⟨⟨k + m, D ++ [(q ++ (⟨#[32]⟩ : ByteArray)) ++ y], HKM.out, by go_num, hide (by rw [← HGD.out, HNX.out, HP2.out]; simp), HO6, HB6, HC6, HN6⟩, rfl⟩)
                  case measure => simp [intOf]; omega
                · rw [hco] at d4
                  have HP2 : Hid (pieceU o y m = [y]) := hide (by rw [HP1.out, hco]; rfl)
                  clear hco
                  go_wp2_with (at_builtin; refine wpList_app_one rfl _ _ rfl W1.heap.size _ _ rfl HOz.out rfl HDL.out hzz ?_)
                  intro A2 c2 w6 ho6 hb6
                  have HO6 := hide ho6
                  have HB6 := hide (HBz.out.trans hb6)
                  have HC6 := hide (HCz.out.trans (hb6.mono HCz0.out))
                  have HN6 := hide (HNz.out.below hb6 HUL.out)
                  clear ho6 hb6
                  go_wp2_with fail
                  go_roundw
                  case rel => first | exact ⟨k + m, D ++ [y], HKM.out, by go_num, hide (by rw [← HGD.out, HNX.out, HP2.out]; simp), HO6, HB6, HC6, HN6⟩ | ((repeat apply Exists.intro); exact ⟨⟨k + m, D ++ [y], HKM.out, by go_num, hide (by rw [← HGD.out, HNX.out, HP2.out]; simp), HO6, HB6, HC6, HN6⟩, rfl⟩)
                  case measure => simp [intOf]; omega
    · have hkl : k = L.length := by omega
      have hd : ¬ ((k : Int) < (L.length : Int)) := by omega
      have HDD : Hid (D = grpU o L 0) := hide (by rw [← HGD.out, grpU_end (by omega)]; simp)
      clear hkl
      go_wp2_with fail
      go_ret
      exact ⟨_, rfl, by rw [← HDD.out, ← HZ1.out]; exact HO.out, HC.out⟩
end Go.Proofs.YtbelbgfigmbobaaGreatDoor
