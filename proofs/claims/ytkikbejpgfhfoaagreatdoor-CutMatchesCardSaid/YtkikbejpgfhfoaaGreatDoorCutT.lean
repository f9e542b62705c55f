/- text.Cut: the walk. -/
import Derived.Test.YtkikbejpgfhfoaaGreatDoorCutS
import Derived.Test.YtkikbejpgfhfoaaGreatDoorCutB
import Derived.Test.YtkikbejpgfhfoaaGreatDoorCutE
import Derived.Test.YtkikbejpgfhfoaaGreatDoorApp1
set_option linter.unusedVariables false
set_option linter.unusedSimpArgs false
namespace Go.Pw
open Go.RowKit
theorem splitB_splC (s : ByteArray) (b : UInt8) : Lib.splitB ⟨#[b]⟩ 0 (Lib.countB s ⟨#[b]⟩) s = (splC b [] s.data.toList).map mkB := by
  have h := Lib.splitB_data ⟨#[b]⟩ 0 (Lib.countB s ⟨#[b]⟩) s
  have e : Lib.splitK [b] 0 (Lib.count s.data.toList [b]) s.data.toList = splC b [] s.data.toList := splitK_splC b _ _ (Nat.le_refl _)
  rw [← e]
  show _ = (Lib.splitK (⟨#[b]⟩ : ByteArray).data.toList 0 (Lib.countB s ⟨#[b]⟩) s.data.toList).map mkB
  rw [← h, List.map_map]
  conv => lhs; rw [← List.map_id (Lib.splitB ⟨#[b]⟩ 0 (Lib.countB s ⟨#[b]⟩) s)]
  exact List.map_congr_left fun x _ => (mkB_list x).symm
theorem one_only {s : ByteArray} (h : s.size = 1) : s = ⟨#[bt s 0]⟩ := by
  obtain ⟨⟨l⟩⟩ := s
  match l, h with
  | [x], _ => rfl
theorem sumL_mem {x : ByteArray} : ∀ {l : List ByteArray}, x ∈ l → x.size + 1 ≤ sumL l
  | y :: l, h => by
    have e : sumL (y :: l) = (y.size + 1) + sumL l := by simp [sumL]
    rcases List.mem_cons.1 h with h | h
    · subst h; omega
    · have := sumL_mem h; omega
theorem cutErr_zero {c : Ct} (h : cutErr c = 0) : c.ranges.length ≤ 64 ∧ (c.fields = true → c.sep.size = 1) ∧ c.betw.size ≤ 4096 := by
  unfold cutErr at h
  split at h
  · cases h
  · split at h
    · cases h
    · split at h
      · split at h
        · cases h
        · rename_i h1 h2 h3 h4
          unfold cform at h4
          refine ⟨by omega, fun hf => ?_, ?_⟩
          · simp only [hf, Bool.or_eq_true, Bool.and_eq_true, not_or, not_and] at h4
            have h5 := h4.1.1.1 trivial
            have := h5.1
            simp at this
            omega
          · simp only [Bool.or_eq_true, not_or] at h4
            have := h4.2
            simp at this
            omega
      · cases h
end Go.Pw
namespace Go.Proofs.YtkikbejpgfhfoaaGreatDoor
open Go.RowKit Go.Pw
set_option maxHeartbeats 1000000 in
theorem splitC_any (s : ByteArray) (b : UInt8) (w : World) (hs : s.size ≤ 1000000) :
    Calls Tryz.prog 38 #[.string s, .string ⟨#[b]⟩] w fun e w' => e = .returned (.slice (some ⟨w.heap.size, 0, none⟩) (splC b [] s.data.toList).length (splC b [] s.data.toList).length) ∧ w' = w.alloc (.cells (((splC b [] s.data.toList).map mkB).map Value.string).toArray 9) := by
  have hle := Lib.countB_le ⟨#[b]⟩ (by simp [ByteArray.size]) s.size s (Nat.le_refl _)
  have hlen := Lib.splitB_all ⟨#[b]⟩ (by simp [ByteArray.size]) 0 _ s rfl
  have c := Any.strings_genSplit_core Tryz.lays221 (by kernel_rfl) s ⟨#[b]⟩ 0 (-1) (Lib.countB s ⟨#[b]⟩ + 1) w (by omega) (by simp [ByteArray.size]) (Nat.zero_le _)
    (fun x c _ => (Tryz.strings_Index_one x b _).mono fun e w' ⟨h1, h2⟩ => ⟨by rw [h1]; exact congrArg (fun z => Ending.returned (.int .i64 z)) (Lib.index_one _ _).symm, h2⟩)
    ((Tryz.strings_Count_one s b w).mono fun e w' ⟨h1, h2⟩ => ⟨by rw [h1]; exact congrArg (fun z : Nat => Ending.returned (.int .i64 (z : Int))) (Lib.count_one _ _).symm, h2⟩)
    (by decide) (by decide) (by rw [if_pos (by decide)]; omega)
  rw [Nat.add_sub_cancel, hlen] at c
  have e2 : Lib.cellsOf (Lib.splitB ⟨#[b]⟩ 0 (Lib.countB s ⟨#[b]⟩) s) (Lib.countB s ⟨#[b]⟩ + 1) = ((Lib.splitB ⟨#[b]⟩ 0 (Lib.countB s ⟨#[b]⟩) s).map Value.string).toArray := by rw [← hlen]; exact Lib.cellsOf_full _
  have e3 : Lib.countB s ⟨#[b]⟩ + 1 = (splC b [] s.data.toList).length := by
    rw [splC_len]; exact congrArg (· + 1) (Lib.count_one _ _)
  rw [e2, splitB_splC, e3] at c
  have HC := hide c
  clear c e2 e3 hlen hle
  go_enter Tryz.func38, Tryz.ntmps38
  go_wp2_with fail
  refine HC.out.mono ?_
  rintro e w' ⟨rfl, rfl⟩
  go_wp2_with fail
  go_ret
  exact ⟨rfl, by rw [List.map_map]; rfl⟩
theorem split_row (w : World) (l : List ByteArray) (t : TypeId) : (w.alloc (.cells (l.map Value.string).toArray t)).heap.size = w.heap.size + 1 ∧ ∀ k x, l[k]? = some x → (w.alloc (.cells (l.map Value.string).toArray t)).cell? ⟨w.heap.size, k, none⟩ = some (.string x) := by
  refine ⟨by simp, fun k x h => ?_⟩
  rw [World.cell?_alloc_new]
  simp [h]
/-- what text.Cut says first -/
def cutErr2 (c : Ct) (s : ByteArray) : Int := firstNZ [cutErr c, if bigB s then 2 else 0]
set_option maxHeartbeats 4000000 in
set_option maxRecDepth 100000 in
theorem cut_bad (c : Ct) (rv : Value) (s : ByteArray) (n : Int) (w : World) (h : RngIn w rv c.ranges) (hs : s.size ≤ maxLen) (hn : n ≠ 0) (he : cutErr2 c s = n) :
    Calls Tryz.prog 17 #[ctV c rv, .string s] w fun e w' => e = .returned (.tuple #[.string ⟨#[]⟩, .int .i64 n]) ∧ Below w.heap.size w w' := by
  obtain ⟨A, cap, rfl⟩ : ∃ A cap, rv = .slice A c.ranges.length cap := by
    obtain ⟨_, A, cap, h, _⟩ := h
    exact ⟨A, cap, h⟩
  have hb1 := (Below.refl w.heap.size w).alloc (Nat.le_refl _) (.cells #[.bool c.fields, .slice A c.ranges.length cap, .bool c.compl, .string c.sep, .bool c.only, .string c.betw] 43)
  have n1 : CtIn (w.alloc (.cells #[.bool c.fields, .slice A c.ranges.length cap, .bool c.compl, .string c.sep, .bool c.only, .string c.betw] 43)) w.heap.size 43 c (.slice A c.ranges.length cap) := heap_alloc_new _ _
  obtain ⟨W1, hW1⟩ : ∃ W1, w.alloc (.cells #[.bool c.fields, .slice A c.ranges.length cap, .bool c.compl, .string c.sep, .bool c.only, .string c.betw] 43) = W1 := ⟨_, rfl⟩
  rw [hW1] at hb1 n1
  have HB1 := hide hb1
  have HCU := hide (cutter_any c (.slice A c.ranges.length cap) W1 (h.below hb1))
  have HE := hide he
  unfold cutErr2 at HE
  have HN := hide hn
  have HS := hide (fun W => sized_any _ [s] _ (strs_one W s 9 hs))
  obtain ⟨d0, d1, d2, d3, d4, d5⟩ := n1.cells
  obtain ⟨ce, hce⟩ : ∃ ce, cutErr c = ce := ⟨_, rfl⟩
  rw [hce] at HCU HE
  unfold ctV at HCU ⊢
  clear hb1 n1 h he hn hce
  by_cases h0 : ce = 0
  · subst h0
    cases h2 : bigB s
    · exfalso
      have := HE.out
      simp [firstNZ, h2] at this
      exact HN.out this.symm
    · have e0 : ([s].any bigB) = true := by simp [h2]
      rw [e0] at HS
      simp only [h2] at HE
      have h3 : (2 : Int) = n := by have := HE.out; simpa [firstNZ] using this
      subst h3
      clear HE e0 h2
      go_enter Tryz.func17, Tryz.ntmps17
      go_wp2_with fail
      (try rw [hW1])
      clear hW1
      refine HCU.out.mono ?_
      rintro e w1 ⟨rfl, hb2⟩
      have HB2 := hide (HB1.out.trans (hb2.mono HB1.out.size))
      clear hb2 d0 d1 d2 d3 d4 d5 HCU
      go_wp2_with fail
      refine (HS.out _).mono ?_
      rintro e w2 ⟨rfl, hb3⟩
      have HB3 := hide (HB2.out.trans ((((Below.refl w1.heap.size w1).alloc (Nat.le_refl _) _).trans (hb3.mono (by simp))).mono HB2.out.size))
      clear hb3
      go_wp2_with fail
      go_ret2
      exact ⟨rfl, HB3.out⟩
  · have h3 : ce = n := by have := HE.out; simpa [firstNZ, h0] using this
    subst h3
    have hd : (ce != 0) = true := by simpa using h0
    clear HE
    go_enter Tryz.func17, Tryz.ntmps17
    go_wp2_with fail
    (try rw [hW1])
    clear hW1
    refine HCU.out.mono ?_
    rintro e w1 ⟨rfl, hb2⟩
    have HB2 := hide (HB1.out.trans (hb2.mono HB1.out.size))
    clear hb2 d0 d1 d2 d3 d4 d5 HCU
    go_wp2_with fail
    go_ret2
    exact ⟨rfl, HB2.out⟩
set_option maxHeartbeats 4000000 in
set_option maxRecDepth 100000 in
theorem cut_good (c : Ct) (rv : Value) (s : ByteArray) (w : World) (h : RngIn w rv c.ranges) (he : cutErr c = 0) (hb : bigB s = false) :
    Calls Tryz.prog 17 #[ctV c rv, .string s] w fun e w' => e = .returned (.tuple #[.string (mkB (resL (cutLs c (linesOf s)))), .int .i64 0]) ∧ Below w.heap.size w w' := by
  obtain ⟨A, cap, rfl⟩ : ∃ A cap, rv = .slice A c.ranges.length cap := by
    obtain ⟨_, A, cap, h, _⟩ := h
    exact ⟨A, cap, h⟩
  have hb1 := (Below.refl w.heap.size w).alloc (Nat.le_refl _) (.cells #[.bool c.fields, .slice A c.ranges.length cap, .bool c.compl, .string c.sep, .bool c.only, .string c.betw] 43)
  have n1 : CtIn (w.alloc (.cells #[.bool c.fields, .slice A c.ranges.length cap, .bool c.compl, .string c.sep, .bool c.only, .string c.betw] 43)) w.heap.size 43 c (.slice A c.ranges.length cap) := heap_alloc_new _ _
  obtain ⟨W1, hW1⟩ : ∃ W1, w.alloc (.cells #[.bool c.fields, .slice A c.ranges.length cap, .bool c.compl, .string c.sep, .bool c.only, .string c.betw] 43) = W1 := ⟨_, rfl⟩
  rw [hW1] at hb1 n1
  have HB1 := hide hb1
  have HN1 := hide n1
  have HCU := hide (cutter_any c (.slice A c.ranges.length cap) W1 (h.below hb1))
  rw [he] at HCU
  obtain ⟨hr64, hsp, hbw⟩ := cutErr_zero he
  have hlt0 := n1.lt
  have h1 := (linesOf_bound s).2
  have hbg := hb
  unfold bigB at hbg
  simp at hbg
  have hls : ∀ x ∈ linesOf s, x.size ≤ 65536 := fun x hx => by have := h1 x hx; omega
  have hln : (linesOf s).length ≤ 4096 := by omega
  have hsl := sumL_lines s
  have HS := hide (fun W => sized_any _ [s] _ (strs_one W s 9 (by unfold maxLen; omega)))
  have e0 : ([s].any bigB) = false := by simp [hb]
  rw [e0] at HS
  have HLI := hide (fun W => lines_any s W (by omega))
  have HTK := hide (fun (n : Int) W (hb : Below w.heap.size w W) => taken_any c (.slice A c.ranges.length cap) n W (h.below hb) (by omega))
  have HBO := hide (fun (y : ByteArray) W (hb : Below w.heap.size w W) (hy : y.size ≤ 65536) => bytesOf_any c (.slice A c.ranges.length cap) y W (h.below hb) (by omega) hy hbw)
  have hrb := cutLs_sum c (linesOf s)
  have hrm : sumL (linesOf s) * (c.betw.size + 2) ≤ 65537 * 4098 := Nat.mul_le_mul (by omega) (by omega)
  have HRL : Hid ((resL (cutLs c (linesOf s))).length ≤ 1000000000) := hide (by rw [resL_len]; omega)
  have HLS := hide hls
  obtain ⟨L, hL⟩ : ∃ L, linesOf s = L := ⟨_, rfl⟩
  rw [hL] at HLI HRL HLS hln
  rw [hL]
  have HCS : Hid (∀ x ∈ L, ∀ y, cutLine c x = some y → y.size ≤ 65537 * 4097) := hide (fun x hx y hy => by
    have h1 := cutLine_size hy
    have h2 := HLS.out x hx
    exact Nat.le_trans h1 (Nat.mul_le_mul (by omega) (by omega)))
  have HCZ : Hid (∀ x ∈ cutLs c L, x.size ≤ maxLen) := hide (fun y hy => by
    unfold cutLs at hy
    obtain ⟨x, hx, hxy⟩ := List.mem_filterMap.1 hy
    have := HCS.out x hx y hxy
    unfold maxLen; omega)
  obtain ⟨d0, d1, d2, d3, d4, d5⟩ := n1.cells
  unfold ctV at HCU HTK HBO ⊢
  clear hb1 n1 h he hb e0 hbg h1 hls hsl hrb hrm hL
  go_enter Tryz.func17, Tryz.ntmps17
  go_wp2_with fail
  (try rw [hW1])
  clear hW1
  refine HCU.out.mono ?_
  rintro e w1 ⟨rfl, hb2⟩
  have HB2 := hide (HB1.out.trans (hb2.mono HB1.out.size))
  have HN2 := hide (HN1.out.below hb2 HN1.out.lt)
  clear hb2 d0 d1 d2 d3 d4 d5 HCU
  go_wp2_with fail
  refine (HS.out _).mono ?_
  rintro e w2 ⟨rfl, hb3⟩
  have hb3' := ((Below.refl w1.heap.size w1).alloc (Nat.le_refl _) (.cells #[.string s] 9)).trans (hb3.mono (by simp))
  have HB3 := hide (HB2.out.trans (hb3'.mono HB2.out.size))
  have HN3 := hide (HN2.out.below hb3' HN2.out.lt)
  clear hb3 hb3'
  go_wp2_with fail
  refine (HLI.out _).mono ?_
  rintro e w3 ⟨v, rfl, hr⟩
  have hb4 := linesRes_below hr
  have HB4 := hide (HB3.out.trans (hb4.mono HB3.out.size))
  have HN4 := hide (HN3.out.below hb4 HN3.out.lt)
  have HV := hide (linesRes_strs hr (fun x hx => by have := HLS.out x hx; unfold maxLen; omega) (by unfold maxLen; omega))
  clear hr hb4
  obtain ⟨⟨_, LA, lc, rfl, hcap, hmax, hx⟩, _⟩ := HV.out
  have HX := hide hx
  clear hx HV
  unfold maxLen at hmax
  go_wp2_with fail
  go_loopw [8, 28] (fun v i wr => ∃ k : Nat, k ≤ L.length ∧ i = .int .i64 (k : Int) ∧ Hid (OwnS 9 wr w3.heap.size v (cutLs c (L.take k))) ∧ Hid (Below w3.heap.size w3 wr) ∧ Hid (Below w.heap.size w wr) ∧ Hid (CtIn wr w.heap.size 43 c (.slice A c.ranges.length cap))) (fun _ i _ => L.length - (intOf i).toNat)
  case atStart => exact ⟨0, by omega, rfl, World.ownsRow_nil _ _ _ _, Below.refl _ _, HB4, HN4⟩
  case round =>
    obtain ⟨k, hk, rfl, HO, HB5, HB6, HN⟩ := hrel
    obtain ⟨OA, oc, rfl⟩ := own_slice HO.out
    by_cases hlt : k < L.length
    · obtain ⟨b3, o3, rfl, hb3, hj3⟩ := HX.out (by omega)
      have hcl : wr.cell? ⟨b3, o3 + k, none⟩ = some (.string L[k]) := (HB5.out.cell (p := ⟨b3, o3 + k, none⟩) hb3).trans (hj3 k _ (by simp [hlt]))
      have HNX := hide (cutLs_next (c := c) hlt)
      have hyz : L[k].size ≤ 65536 := HLS.out _ (List.getElem_mem hlt)
      have hdl : (cutLs c (L.take k)).length ≤ k := Nat.le_trans (cutLs_len c _) (by rw [List.length_take]; omega)
      obtain ⟨D, hD⟩ : ∃ D, cutLs c (L.take k) = D := ⟨_, rfl⟩
      obtain ⟨y, hy⟩ : ∃ y, L[k] = y := ⟨_, rfl⟩
      rw [hD] at HO HNX hdl ⊢
      rw [hy] at hcl HNX hyz
      clear hD hy hj3
      have hd4 : (k : Int) < (L.length : Int) := by omega
      have hz5 := HB5.out.size
      obtain ⟨d0, d1, d2, d3, d4, d5⟩ := HN.out.cells
      cases hf : c.fields
      · rw [hf] at d0
        have HBY := hide (HBO.out y wr HB6.out hyz)
        have HNX2 : Hid (cutLs c (L.take (k + 1)) = D ++ [cutBytes c y]) := hide (by rw [HNX.out]; unfold cutLine; rw [hf]; rfl)
        rw [hf] at HBY
        go_wp2_with fail
        refine HBY.out.mono ?_
        rintro e w5 ⟨rfl, hb5⟩
        have HB7 := hide (HB5.out.trans (hb5.mono HB5.out.size))
        have HB8 := hide (HB6.out.trans (hb5.mono HB6.out.size))
        have HN7 := hide (HN.out.below hb5 HN.out.lt)
        have HO7 : Hid (OwnS 9 w5 w3.heap.size (.slice OA D.length oc) D) := hide (own_below HO.out hb5)
        have hz7 := HB7.out.size
        clear hb5 HBY d0 d1 d2 d3 d4 d5 hcl
        go_wp2_with (at_builtin; refine wpList_app_one rfl _ _ rfl w3.heap.size _ _ rfl HO7.out rfl (by omega) hz7 ?_)
        intro A2 c2 w6 ho6 hb6
        have HO9 : Hid (OwnS 9 w6 w3.heap.size (.slice A2 (D.length + 1) c2) (cutLs c (L.take (k + 1)))) := hide (by rw [HNX2.out]; exact ho6)
        have HB9 := hide (HB7.out.trans hb6)
        have HB10 := hide (HB8.out.trans (hb6.mono HB4.out.size))
        have HN9 := hide (HN7.out.below hb6 HN4.out.lt)
        clear ho6 hb6
        go_wp2_with fail
        go_roundw
        case rel => exact ⟨k + 1, by omega, by go_num, HO9, HB9, HB10, HN9⟩
        case measure => simp [intOf]; omega
      · rw [hf] at d0
        have hs1 := hsp hf
        have hsz := one_only hs1
        have HCO : Hid (∀ W : World, Calls Tryz.prog 37 #[.string y, .string c.sep] W fun e w' => e = .returned (.bool (decide (0 ≤ Lib.indexByte y.data.toList (bt c.sep 0)))) ∧ W = w') := hide (fun W => by
          conv => arg 3; rw [hsz]
          exact (Tryz.strings_Contains_one y (bt c.sep 0) W).mono fun e w' ⟨h1, h2⟩ => ⟨h1, h2.symm⟩)
        have HSPL : Hid (∀ W : World, Calls Tryz.prog 38 #[.string y, .string c.sep] W fun e w' => e = .returned (.slice (some ⟨W.heap.size, 0, none⟩) (splC (bt c.sep 0) [] y.data.toList).length (splC (bt c.sep 0) [] y.data.toList).length) ∧ w' = W.alloc (.cells (((splC (bt c.sep 0) [] y.data.toList).map mkB).map Value.string).toArray 9)) := hide (fun W => by
          conv => arg 3; rw [hsz]
          exact splitC_any y (bt c.sep 0) W (by omega))
        have hcl2 : cutLine c y = if decide (0 ≤ Lib.indexByte y.data.toList (bt c.sep 0)) then some (cutWords c ((splC (bt c.sep 0) [] y.data.toList).map mkB)) else if c.only then none else some y := by
          unfold cutLine
          rw [hf, if_pos rfl]
        have hsm := sumL_split y (bt c.sep 0)
        have hwl : ((splC (bt c.sep 0) [] y.data.toList).map mkB).length ≤ y.size + 1 := by
          rw [List.length_map, splC_len]
          have h1 := List.count_le_length (a := bt c.sep 0) (l := y.data.toList)
          have h2 := len_size y
          omega
        have hws : ∀ x ∈ (splC (bt c.sep 0) [] y.data.toList).map mkB, x.size ≤ y.size := fun x hx => by
          have h1 : x.size + 1 ≤ sumL ((splC (bt c.sep 0) [] y.data.toList).map mkB) := by
            exact sumL_mem hx
          omega
        have hwz : (splC (bt c.sep 0) [] y.data.toList).length = ((splC (bt c.sep 0) [] y.data.toList).map mkB).length := by rw [List.length_map]
        rw [hwz] at HSPL
        obtain ⟨ws, hwse⟩ : ∃ ws, (splC (bt c.sep 0) [] y.data.toList).map mkB = ws := ⟨_, rfl⟩
        rw [hwse] at HSPL hcl2 hsm hwl hws
        obtain ⟨ha, hha⟩ : ∃ b, decide (0 ≤ Lib.indexByte y.data.toList (bt c.sep 0)) = b := ⟨_, rfl⟩
        rw [hha] at HCO hcl2
        have HWS := hide hws
        rw [hcl2] at HNX
        clear hs1 hsz hcl2 hwz hwse hha hws
        cases ha
        · clear HSPL HWS hsm hwl
          cases hon : c.only
          · rw [hon] at d4
            have HNX2 : Hid (cutLs c (L.take (k + 1)) = D ++ [y]) := hide (by rw [HNX.out, hon]; rfl)
            go_wp2_with fail
            refine (HCO.out _).mono ?_
            rintro e w' ⟨rfl, rfl⟩
            clear HCO hcl
            go_wp2_with (at_builtin; refine wpList_app_one rfl _ _ rfl w3.heap.size _ _ rfl HO.out rfl (by omega) hz5 ?_)
            intro A2 c2 w6 ho6 hb6
            have HO9 : Hid (OwnS 9 w6 w3.heap.size (.slice A2 (D.length + 1) c2) (cutLs c (L.take (k + 1)))) := hide (by rw [HNX2.out]; exact ho6)
            have HB9 := hide (HB5.out.trans hb6)
            have HB10 := hide (HB6.out.trans (hb6.mono HB4.out.size))
            have HN9 := hide (HN.out.below hb6 HN4.out.lt)
            clear ho6 hb6 d0 d1 d2 d3 d4 d5
            go_wp2_with fail
            go_roundw
            case rel => exact ⟨k + 1, by omega, by go_num, HO9, HB9, HB10, HN9⟩
            case measure => simp [intOf]; omega
          · rw [hon] at d4
            have HNX2 : Hid (cutLs c (L.take (k + 1)) = D) := hide (by rw [HNX.out, hon]; simp)
            go_wp2_with fail
            refine (HCO.out _).mono ?_
            rintro e w' ⟨rfl, rfl⟩
            clear HCO hcl
            go_wp2_with fail
            go_roundw
            case rel => exact ⟨k + 1, by omega, by go_num, by rw [HNX2.out]; exact HO, HB5, HB6, HN⟩
            case measure => simp [intOf]; omega
        · have HNX2 : Hid (cutLs c (L.take (k + 1)) = D ++ [cutWords c ws]) := hide (by rw [HNX.out]; rfl)
          clear HNX
          go_wp2_with fail
          refine (HCO.out _).mono ?_
          rintro e w' ⟨rfl, rfl⟩
          clear HCO hcl
          go_wp2_with fail
          refine (HSPL.out _).mono ?_
          rintro e w5 ⟨rfl, he5⟩
          obtain ⟨hz6, hrow⟩ := split_row wr ws 9
          have hal := (Below.refl wr.heap.size wr).alloc (Nat.le_refl _) (.cells (ws.map Value.string).toArray 9)
          rw [← he5] at hal hz6 hrow
          have HROW := hide hrow
          have HBB := hide (HB5.out.trans (hal.mono HB5.out.size))
          have HBC := hide (HB6.out.trans (hal.mono HB6.out.size))
          have HNC := hide (HN.out.below hal HN.out.lt)
          have HOC : Hid (OwnS 9 w5 w3.heap.size (.slice OA D.length oc) D) := hide (own_below HO.out hal)
          clear he5 hrow hal HSPL d0 d1 d2 d3 d4 d5
          go_wp2_with fail
          obtain ⟨B0, hB0⟩ : ∃ n, wr.heap.size = n := ⟨_, rfl⟩
          rw [hB0] at HROW hz6 ⊢
          have hz6' : B0 < w5.heap.size := by omega
          clear hB0 hz6
          go_loopw [11, 60] (fun v i wq => ∃ j : Nat, j ≤ ws.length ∧ i = .int .i64 (j : Int) ∧ Hid (OwnS 9 wq w5.heap.size v (cwTo c ws j)) ∧ Hid (Below w5.heap.size w5 wq)) (fun _ i _ => ws.length - (intOf i).toNat)
          case atStart => exact ⟨0, by omega, rfl, World.ownsRow_nil _ _ _ _, Below.refl _ _⟩
          case round =>
            obtain ⟨j, hj, rfl, HOW, HBQ⟩ := hrel
            obtain ⟨WA, wc, rfl⟩ := own_slice HOW.out
            have hbq := HBQ.out.size
            by_cases hjl : j < ws.length
            · have hjd : (j : Int) < (ws.length : Int) := by omega
              have hjx : ws[j]? = some ws[j] := List.getElem?_eq_getElem hjl
              have hcc := (HBQ.out.cell (p := ⟨B0, j, none⟩) (by show B0 < _; omega)).trans (HROW.out j _ hjx)
              have HNQ := hide (HNC.out.below HBQ.out HNC.out.lt)
              have HTJ := hide (HTK.out ((j : Int) + 1) wr (HBC.out.trans (HBQ.out.mono HBC.out.size)))
              obtain ⟨d0, d1, d2, d3, d4, d5⟩ := HNQ.out.cells
              rw [hf] at d0 HTJ
              have hcw : cwTo c ws (j + 1) = if tkn c ((j : Int) + 1) then cwTo c ws j ++ [ws[j]] else cwTo c ws j := by rw [cwTo, List.getD_eq_getElem?_getD, hjx]; rfl
              have hcq := (cw_sum c ws j (by omega)).2
              obtain ⟨t, ht⟩ : ∃ t, tkn c ((j : Int) + 1) = t := ⟨_, rfl⟩
              obtain ⟨x, hx⟩ : ∃ x, ws[j] = x := ⟨_, rfl⟩
              obtain ⟨l, hl⟩ : ∃ l, cwTo c ws j = l := ⟨_, rfl⟩
              rw [ht] at HTJ hcw
              rw [hx] at hcc hcw
              rw [hl] at HOW hcw hcq ⊢
              have HCW := hide hcw
              clear hjx ht hx hl hcw
              go_wp2_with fail
              refine HTJ.out.mono ?_
              rintro e wp ⟨rfl, hbp⟩
              have HBP := hide (HBQ.out.trans (hbp.mono hbq))
              have HOP : Hid (OwnS 9 wp w5.heap.size (.slice WA l.length wc) l) := hide (own_below HOW.out hbp)
              have hzp := HBP.out.size
              clear hbp d0 d1 d2 d3 d4 d5 HTJ hcc
              cases t
              · go_wp2_with fail
                go_roundw
                case rel => exact ⟨j + 1, by omega, by go_num, by rw [HCW.out]; exact HOP, HBP⟩
                case measure => simp [intOf]; omega
              · go_wp2_with (at_builtin; refine wpList_app_one rfl _ _ rfl w5.heap.size _ _ rfl HOP.out rfl (by omega) hzp ?_)
                intro A2 c2 w6 ho6 hb6
                have HO9 : Hid (OwnS 9 w6 w5.heap.size (.slice A2 (l.length + 1) c2) (cwTo c ws (j + 1))) := hide (by rw [HCW.out, if_pos trivial]; exact ho6)
                have HB9 := hide (HBP.out.trans hb6)
                clear ho6 hb6
                go_wp2_with fail
                go_roundw
                case rel => exact ⟨j + 1, by omega, by go_num, HO9, HB9⟩
                case measure => simp [intOf]; omega
            · obtain rfl : j = ws.length := by omega
              have hjd : ¬ ((ws.length : Int) < (ws.length : Int)) := by omega
              have hcs := cw_sum c ws ws.length (Nat.le_refl _)
              rw [List.take_length] at hcs
              have HSTR := hide (OwnS.strs HOW.out (fun x hx => by
                have h1 := sumL_mem hx
                unfold maxLen; omega))
              have hsb := sumB_sumL (cwTo c ws ws.length)
              have HJN := hide (join_any _ _ c.betw _ HSTR.out (by omega) (by omega) (by omega))
              have HNQ := hide (HNC.out.below HBQ.out HNC.out.lt)
              obtain ⟨d0, d1, d2, d3, d4, d5⟩ := HNQ.out.cells
              rw [hf] at d0
              clear hsb hcs
              go_wp2_with fail
              refine HJN.out.mono ?_
              rintro e wp ⟨rfl, hbp⟩
              have hall := HBQ.out.trans (hbp.mono hbq)
              have HOP : Hid (OwnS 9 wp w3.heap.size (.slice OA D.length oc) D) := hide (own_below HOC.out hall)
              have HBP := hide (HBB.out.trans (hall.mono HBB.out.size))
              have HBPW := hide (HBC.out.trans (hall.mono HBC.out.size))
              have HNP := hide (HNC.out.below hall HNC.out.lt)
              have hzp := HBP.out.size
              have HWW : Hid (jnB c.betw (cwTo c ws ws.length) = cutWords c ws) := hide rfl
              clear hbp hall d0 d1 d2 d3 d4 d5 HJN HSTR
              rw [HWW.out]
              go_wp2_with (at_builtin; refine wpList_app_one rfl _ _ rfl w3.heap.size _ _ rfl HOP.out rfl (by omega) hzp ?_)
              intro A2 c2 w6 ho6 hb6
              have HO9 : Hid (OwnS 9 w6 w3.heap.size (.slice A2 (D.length + 1) c2) (cutLs c (L.take (k + 1)))) := hide (by rw [HNX2.out]; exact ho6)
              have HB9 := hide (HBP.out.trans hb6)
              have HB10 := hide (HBPW.out.trans (hb6.mono HB4.out.size))
              have HN9 := hide (HNP.out.below hb6 HN4.out.lt)
              clear ho6 hb6
              go_wp2_with fail
              go_roundw
              case rel => exact ⟨k + 1, by omega, by go_num, HO9, HB9, HB10, HN9⟩
              case measure => simp [intOf]; omega
    · obtain rfl : k = L.length := by omega
      have hd4 : ¬ ((L.length : Int) < (L.length : Int)) := by omega
      rw [List.take_length] at HO ⊢
      have HSTR := hide (OwnS.strs HO.out HCZ.out)
      have HRS := hide (result_any _ _ wr HSTR.out HRL.out)
      go_wp2_with fail
      refine HRS.out.mono ?_
      rintro e w5 ⟨rfl, hb5⟩
      have HBE := hide (HB6.out.trans (hb5.mono HB6.out.size))
      go_wp2_with fail
      go_ret2
      exact ⟨rfl, HBE.out⟩
end Go.Proofs.YtkikbejpgfhfoaaGreatDoor
