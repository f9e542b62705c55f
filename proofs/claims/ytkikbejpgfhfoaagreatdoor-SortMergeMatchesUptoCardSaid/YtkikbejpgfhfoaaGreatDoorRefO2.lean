/- The reference's order, second part: the key of a line. -/
import Derived.Test.YtkikbejpgfhfoaaGreatDoorRefO1
set_option linter.unusedVariables false
set_option linter.unusedSimpArgs false
namespace Go.Proofs.YtkikbejpgfhfoaaGreatDoor
open Go.RowKit Go.Pw
set_option maxHeartbeats 1000000 in
set_option maxRecDepth 100000 in
theorem beginR_any (line : ByteArray) (f : Nat × Nat) (k : Ky) (bk bl : Nat) (w : World) (hk : KyAt w bk k) (hl0 : w.cell? ⟨bl, 0, none⟩ = some (.string line)) (hbl : bl < w.heap.size) (h1 : f.1 ≤ f.2) (h2 : f.2 ≤ line.size) (hl : line.size ≤ 1000000) :
    Calls Tryz.prog 74 #[.agg #[.int .i64 (f.1 : Int), .int .i64 (f.2 : Int)], .pointer (some ⟨bk, 0, none⟩), .pointer (some ⟨bl, 0, none⟩)] w fun e w' => e = .returned (.int .i64 (begAt line k.blanks f : Int)) ∧ Below w.heap.size w w' := by
  have hbb : Below w.heap.size w (w.alloc (.cells #[.int .i64 (f.1 : Int), .int .i64 (f.2 : Int)] 69)) := (Below.refl _ _).alloc (Nat.le_refl _) _
  have HB := hide hbb
  have hq : (w.alloc (.cells #[.int .i64 (f.1 : Int), .int .i64 (f.2 : Int)] 69)).cell? ⟨bk, 7, none⟩ = some (.bool k.blanks) := (hbb.cell (p := ⟨bk, 7, none⟩) hk.lt).trans (kyAt_cells hk).2.2.2.2.2.2.2
  have hq2 : (w.alloc (.cells #[.int .i64 (f.1 : Int), .int .i64 (f.2 : Int)] 69)).cell? ⟨bl, 0, none⟩ = some (.string line) := (hbb.cell (p := ⟨bl, 0, none⟩) hbl).trans hl0
  have hne1 : bk ≠ w.heap.size := by have := hk.lt; omega
  have hne2 : bl ≠ w.heap.size := by omega
  clear hbb hk hl0
  obtain ⟨b, hbn⟩ : ∃ b, k.blanks = b := ⟨_, rfl⟩
  rw [hbn] at hq ⊢
  clear hbn
  cases b
  · have HR : Hid (begAt line false f = f.1) := rfl
    go_enter Tryz.func74, Tryz.ntmps74
    go_wp2_with fail
    refine wp_loop_rounds 1 ?_
    rw [rounds_succ]
    go_wp2_with fail
    go_ret
    exact ⟨by rw [HR.out]; rfl, HB.out⟩
  · have HR : Hid (begAt line true f = skipF line (f.2 - f.1) f.1) := rfl
    go_enter Tryz.func74, Tryz.ntmps74
    go_wp2_with fail
    go_loop [5] (fun i => ∃ k : Nat, f.1 ≤ k ∧ k ≤ f.2 ∧ i = .int .i64 (k : Int) ∧ Hid (begAt line true f = skipF line (f.2 - k) k)) (fun i => f.2 - (intOf i).toNat)
    case atStart => exact ⟨f.1, by omega, by omega, rfl, HR⟩
    case round =>
      obtain ⟨k, hk1, hk2, rfl, HK⟩ := hrel
      by_cases hlt : k < f.2
      · have hls : k < line.size := by omega
        have hd : decide (k < f.2) = true := by simpa using hlt
        cases hb1 : blankB line[k]
        · have HN := hide (HK.out.trans (skip_stop hls hb1))
          go_wp2_with (go_at_call 67; refine (blankR_any _ _).mono ?_; rintro e w' ⟨rfl, rfl⟩)
          go_ret
          exact ⟨by rw [HN.out]; rfl, HB.out⟩
        · have HN := hide (HK.out.trans (skip_go hls (by omega) hb1))
          go_wp2_with (go_at_call 67; refine (blankR_any _ _).mono ?_; rintro e w' ⟨rfl, rfl⟩)
          go_round
          case rel => exact ⟨k + 1, by omega, by omega, by go_num, by rw [show f.2 - (k + 1) = f.2 - k - 1 by omega]; exact HN⟩
          case measure => simp [intOf]; omega
      · have hd : decide (k < f.2) = false := by simpa using hlt
        have HN : Hid (begAt line true f = k) := by
          show _ = _
          rw [HK.out, show f.2 - k = 0 by omega]; rfl
        go_wp2_with fail
        go_ret
        exact ⟨by rw [HN.out]; rfl, HB.out⟩

/-- what the walk of keyOf holds of a world -/
structure KEnv (w W : World) (line : ByteArray) (k : Ky) (L : List (Nat × Nat)) (g : Nat) : Prop where
  ky : KyAt W (w.heap.size + 1) k
  ln : W.cell? ⟨w.heap.size, 0, none⟩ = some (.string line)
  bel : Below w.heap.size w W
  lt : w.heap.size + 1 < W.heap.size
  gl : g < W.heap.size
  cells : ∀ (i : Nat) (p : Nat × Nat), L[i]? = some p → W.cell? ⟨g, i * 2, none⟩ = some (.int .i64 (p.1 : Int)) ∧ W.cell? ⟨g, i * 2 + 1, none⟩ = some (.int .i64 (p.2 : Int))
theorem KEnv.next {w W V w' : World} {line : ByteArray} {k : Ky} {L : List (Nat × Nat)} {g M : Nat} (h : KEnv w W line k L g) (hb : Below M V w') (e1 : V.heap = W.heap) (e2 : V.os = W.os) (e3 : V.tape = W.tape) (e4 : V.output = W.output) (hM : W.heap.size ≤ M) : KEnv w w' line k L g := by
  have hz := hb.size
  rw [e1] at hz
  exact ⟨KyAt.next h.ky hb e1 (by have := h.lt; omega), cell_next h.ln hb e1 (by have := h.lt; show w.heap.size < _; omega), below_next h.bel hb e1 e2 e3 e4 (by have := h.lt; omega), by have := h.lt; omega, by have := h.gl; omega,
    fun i p hp => ⟨cell_next (h.cells i p hp).1 hb e1 (by have := h.gl; show g < _; omega), cell_next (h.cells i p hp).2 hb e1 (by have := h.gl; show g < _; omega)⟩⟩
theorem KEnv.alloc {w W : World} {line : ByteArray} {k : Ky} {L : List (Nat × Nat)} {g : Nat} (h : KEnv w W line k L g) (o : Obj) : KEnv w (W.alloc o) line k L g :=
  h.next ((Below.refl W.heap.size W).alloc (Nat.le_refl _) o) rfl rfl rfl rfl (Nat.le_refl _)
theorem KEnv.like {w W V : World} {line : ByteArray} {k : Ky} {L : List (Nat × Nat)} {g : Nat} (h : KEnv w W line k L g) (e1 : V.heap = W.heap) (e2 : V.os = W.os) (e3 : V.tape = W.tape) (e4 : V.output = W.output) : KEnv w V line k L g :=
  h.next (Below.refl V.heap.size V) e1 e2 e3 e4 (by rw [e1]; exact Nat.le_refl _)
theorem KEnv.drewN {w W : World} {line : ByteArray} {k : Ky} {L : List (Nat × Nat)} {g : Nat} (h : KEnv w W line k L g) (n : Nat) : KEnv w (W.drewN n) line k L g :=
  ⟨h.ky, h.ln, below_drewN h.bel n, h.lt, h.gl, h.cells⟩
theorem blk_next {w W w' : World} {b M : Nat} {o : Obj} (h : w.heap[b]? = some o) (hb : Below M W w') (e : W.heap = w.heap) (hM : b < M) : w'.heap[b]? = some o := (hb.block b hM).trans (by rw [e]; exact h)
theorem blk_lt {w : World} {b : Nat} {o : Obj} (h : w.heap[b]? = some o) : b < w.heap.size := by
  rcases Nat.lt_or_ge b w.heap.size with h' | h'
  · exact h'
  · simp [Array.getElem?_eq_none h'] at h
theorem two_cells {w : World} {b : Nat} {x y : Value} {t : TypeId} (h : w.heap[b]? = some (.cells #[x, y] t (0, 0))) : w.cell? ⟨b, 0, none⟩ = some x ∧ w.cell? ⟨b, 1, none⟩ = some y := by
  refine ⟨?_, ?_⟩ <;> (rw [Lib.cell_of_heap h]; rfl)
theorem own_two {w : World} {base : Nat} {t : TypeId} {v : Value} {L : List (Nat × Nat)} (hown : w.ownsRow base t 2 v L.length (pairCells L)) (h0 : 0 < L.length) : ∃ g cap, v = .slice (some ⟨g, 0, none⟩) L.length cap ∧ g < w.heap.size ∧ ∀ (i : Nat) (p : Nat × Nat), L[i]? = some p → w.cell? ⟨g, i * 2, none⟩ = some (.int .i64 (p.1 : Int)) ∧ w.cell? ⟨g, i * 2 + 1, none⟩ = some (.int .i64 (p.2 : Int)) := by
  obtain ⟨_, A, cap, hv, _, _, hx⟩ := Rd.of_own hown
  obtain ⟨b, o, rfl, hb, hj⟩ := hx h0
  rcases hown.2 with ⟨_, h0⟩ | ⟨g, cap', cur, hv', _⟩
  · omega
  · rw [hv] at hv'
    injection hv' with e1 e2 e3
    injection e1 with e1
    injection e1 with e1 e4 e5
    subst e1 e4
    refine ⟨b, cap, hv, hb, fun i p hp => ?_⟩
    have := pairCells_at L i p hp
    have h1 := hj _ _ this.1
    have h2 := hj _ _ this.2
    simp only [Nat.zero_add] at h1 h2
    exact ⟨h1, h2⟩

set_option maxHeartbeats 4000000 in
set_option maxRecDepth 100000 in
theorem keyR_any (k : Ky) (line sep : ByteArray) (w : World) (hk : k.good) (hl : line.size ≤ 1000000) :
    Calls Tryz.prog 54 #[.string line, .string sep, kyV k] w fun e w' => e = .returned (.string (Pw.keyOf k line sep)) ∧ Below w.heap.size w w' := by
  obtain ⟨hk1, hk2, hk3, hk4⟩ := hk
  obtain ⟨hf1, hf2, hf3⟩ := fldL_ok line sep
  have HF3 := hide hf3
  clear hf3
  obtain ⟨L, hL⟩ : ∃ L, fldL line sep = L := ⟨_, rfl⟩
  have HFA := hide (fun W => fieldsR_any line sep W hl)
  rw [hL] at hf1 hf2 HF3
  simp only [hL] at HFA
  have HL := hide hL
  clear hL
  have hn1 := heap_alloc_new w (.cells #[.string line] 9)
  have hn2 := heap_alloc_new (w.alloc (.cells #[.string line] 9)) (.cells #[.int .i64 k.first, .int .i64 k.firstB, .int .i64 k.last, .int .i64 k.lastB, .bool k.numeric, .bool k.reverse, .bool k.fold, .bool k.blanks] 60)
  rw [size_alloc] at hn2
  have hbb := below_two w (.cells #[.string line] 9) (.cells #[.int .i64 k.first, .int .i64 k.firstB, .int .i64 k.last, .int .i64 k.lastB, .bool k.numeric, .bool k.reverse, .bool k.fold, .bool k.blanks] 60)
  have hln : ((w.alloc (.cells #[.string line] 9)).alloc (.cells #[.int .i64 k.first, .int .i64 k.firstB, .int .i64 k.last, .int .i64 k.lastB, .bool k.numeric, .bool k.reverse, .bool k.fold, .bool k.blanks] 60)).cell? ⟨w.heap.size, 0, none⟩ = some (.string line) :=
    (((Below.refl (w.heap.size + 1) (w.alloc (.cells #[.string line] 9))).alloc (by simp) _).cell (p := ⟨w.heap.size, 0, none⟩) (by simp)).trans (by simp)
  have HE0 : Hid (KEnv w ((w.alloc (.cells #[.string line] 9)).alloc (.cells #[.int .i64 k.first, .int .i64 k.firstB, .int .i64 k.last, .int .i64 k.lastB, .bool k.numeric, .bool k.reverse, .bool k.fold, .bool k.blanks] 60)) line k [] 0) := hide ⟨hn2, hln, hbb, by simp, by simp, fun i p hp => by simp at hp⟩
  clear hn1 hn2 hbb hln
  unfold kyV
  go_enter Tryz.func54, Tryz.ntmps54
  go_wp2_with fail
  refine (HFA.out _).mono ?_
  rintro e wa ⟨v, rfl, hown, hb1⟩
  have hE1 := HE0.out.next hb1 rfl rfl rfl rfl (Nat.le_refl _)
  obtain ⟨g, cap, rfl, hg, hcells⟩ := own_two hown hf2
  have EN : Hid (KEnv w wa line k L g) := hide ⟨hE1.ky, hE1.ln, hE1.bel, hE1.lt, hg, hcells⟩
  clear hE1 hown hb1 hg hcells HE0
  have qa := EN.out.ln
  go_wp2_with fail
  go_quiet (fail)
  have EN := hide (EN.out.drewN nq)
  clear qa
  obtain ⟨wb, hwb⟩ : ∃ wb, wa.drewN nq = wb := ⟨_, rfl⟩
  rw [hwb] at EN ⊢
  clear hwb
  have q0 := (kyAt_cells EN.out.ky).1
  have hltb := EN.out.lt
  by_cases h1 : k.first ≤ L.length
  · obtain ⟨a, ha⟩ : ∃ a : Nat, k.first = (a : Int) + 1 := ⟨(k.first - 1).toNat, by omega⟩
    have hd : decide (k.first ≤ (L.length : Int)) = true := by simpa using h1
    have hal : a < L.length := by omega
    have d := EN.out.cells a L[a] (List.getElem?_eq_getElem hal)
    have hp := HF3.out L[a] (List.getElem_mem hal)
    obtain ⟨p, hpp⟩ : ∃ p, L[a] = p := ⟨_, rfl⟩
    rw [hpp] at d hp
    obtain ⟨d0, d1⟩ := d
    obtain ⟨hp1, hp2⟩ := hp
    have HF : Hid (keyFrom k line sep = min (begAt line k.blanks p + k.firstB.toNat - 1) p.2) := by
      show _ = _
      unfold keyFrom
      rw [HL.out, if_pos h1, List.getD_eq_getElem?_getD, show k.first.toNat - 1 = a by omega, List.getElem?_eq_getElem hal, hpp]; rfl
    clear hpp
    have hbg := begAt_ok line k.blanks p hp1
    have HBG : Hid (∀ W, KEnv w W line k L g → Calls Tryz.prog 74 #[.agg #[.int .i64 (p.1 : Int), .int .i64 (p.2 : Int)], .pointer (some ⟨w.heap.size + 1, 0, none⟩), .pointer (some ⟨w.heap.size, 0, none⟩)] W fun e w' => e = .returned (.int .i64 (begAt line k.blanks p : Int)) ∧ Below W.heap.size W w') := hide (fun W h => beginR_any line p k (w.heap.size + 1) w.heap.size W h.ky h.ln (by have := h.lt; omega) hp1 hp2 hl)
    obtain ⟨B, hB⟩ : ∃ B, begAt line k.blanks p = B := ⟨_, rfl⟩
    rw [hB] at hbg HF
    simp only [hB] at HBG
    clear hB
    have hw1 : IntKind.i64.wrap ((B : Int) + k.firstB) = (B : Int) + k.firstB := IntWalk.i64_in _ (by omega)
    have hw2 : IntKind.i64.wrap ((B : Int) + k.firstB - 1) = (B : Int) + k.firstB - 1 := IntWalk.i64_in _ (by omega)
    have hsp := heap_alloc_new wb (.cells #[.int .i64 (p.1 : Int), .int .i64 (p.2 : Int)] 69)
    have SP : Hid ((wb.alloc (.cells #[.int .i64 (p.1 : Int), .int .i64 (p.2 : Int)] 69)).heap[wb.heap.size]? = some (.cells #[.int .i64 (p.1 : Int), .int .i64 (p.2 : Int)] 69 (0, 0))) := hide hsp
    have EN := hide (EN.out.alloc (.cells #[.int .i64 (p.1 : Int), .int .i64 (p.2 : Int)] 69))
    clear hsp
    have q1a : (wb.alloc (.cells #[.int .i64 (p.1 : Int), .int .i64 (p.2 : Int)] 69)).cell? ⟨w.heap.size + 1, 1, none⟩ = some (.int .i64 k.firstB) := (kyAt_cells EN.out.ky).2.1
    have hne : w.heap.size + 1 ≠ wb.heap.size := by omega
    go_wp2_with fail
    go_region_held3 (fun w' => w'.cell? ⟨w.heap.size + 1, 1, none⟩ = some (.int .i64 k.firstB) ∧ w'.cell? ⟨wb.heap.size, 0, none⟩ = some (.int .i64 (p.1 : Int)) ∧ w'.cell? ⟨wb.heap.size, 1, none⟩ = some (.int .i64 (p.2 : Int))) (go_keep) ((go_at_call 74; (with_reducible refine (HBG.out _ (by exact KEnv.like EN.out rfl rfl rfl rfl)).mono ?_); rintro e wc ⟨rfl, hbl⟩; have EN := hide (KEnv.next EN.out hbl rfl rfl rfl rfl (Nat.le_refl _)); have SP := hide (blk_next SP.out hbl rfl (by show wb.heap.size < _; exact blk_lt SP.out)); clear hbl; obtain ⟨r0, r1⟩ := two_cells SP.out; have qk := (kyAt_cells EN.out.ky).2.1))
    clear q0 q1a d0 d1 hw1 hw2 HBG qk
    have hltc := EN.out.lt
    by_cases hgt : (p.2 : Int) < (B : Int) + k.firstB - 1
    · have hgd : decide ((p.2 : Int) < (B : Int) + k.firstB - 1) = true := by simpa using hgt
      have HF : Hid (keyFrom k line sep = p.2) := by show _ = _; rw [HF.out]; omega
      have hfl : p.2 ≤ line.size := by omega
      clear r0 SP hgt hbg hp1 h1 hd ha hal
      have q2 := (kyAt_cells EN.out.ky).2.2.1
      have q3 := (kyAt_cells EN.out.ky).2.2.2.1
      by_cases hla : 0 < k.last
      · have hda : decide (0 < k.last) = true := by simpa using hla
        by_cases hlb : k.last ≤ L.length
        · have hdb : decide (k.last ≤ (L.length : Int)) = true := by simpa using hlb
          obtain ⟨z, hz⟩ : ∃ z : Nat, k.last = (z : Int) + 1 := ⟨(k.last - 1).toNat, by omega⟩
          have hzl : z < L.length := by omega
          have d := EN.out.cells z L[z] (List.getElem?_eq_getElem hzl)
          have hp := HF3.out L[z] (List.getElem_mem hzl)
          obtain ⟨r, hrr⟩ : ∃ r, L[z] = r := ⟨_, rfl⟩
          rw [hrr] at d hp
          obtain ⟨d0, d1⟩ := d
          obtain ⟨hp1, hp2⟩ := hp
          have HT0 : Hid (keyTo k line sep = if 0 < k.lastB then min (begAt line k.blanks r + k.lastB.toNat) r.2 else r.2) := by
            show _ = _
            unfold keyTo
            rw [HL.out, if_pos ⟨hla, hlb⟩, List.getD_eq_getElem?_getD, show k.last.toNat - 1 = z by omega, List.getElem?_eq_getElem hzl, hrr]; rfl
          clear hrr
          have hsp := heap_alloc_new wc (.cells #[.int .i64 (r.1 : Int), .int .i64 (r.2 : Int)] 69)
          have SP : Hid ((wc.alloc (.cells #[.int .i64 (r.1 : Int), .int .i64 (r.2 : Int)] 69)).heap[wc.heap.size]? = some (.cells #[.int .i64 (r.1 : Int), .int .i64 (r.2 : Int)] 69 (0, 0))) := hide hsp
          have EN := hide (EN.out.alloc (.cells #[.int .i64 (r.1 : Int), .int .i64 (r.2 : Int)] 69))
          have hwl := EN.out.lt
          have hwl2 : w.heap.size + 1 < wc.heap.size := hltc
          clear hsp
          by_cases hlc : 0 < k.lastB
          · have hdc : decide (0 < k.lastB) = true := by simpa using hlc
            have HT1 : Hid (keyTo k line sep = min (begAt line k.blanks r + k.lastB.toNat) r.2) := by
              show _ = _
              rw [HT0.out, if_pos hlc]
            have hbg := begAt_ok line k.blanks r hp1
            have HBG : Hid (∀ W, KEnv w W line k L g → Calls Tryz.prog 74 #[.agg #[.int .i64 (r.1 : Int), .int .i64 (r.2 : Int)], .pointer (some ⟨w.heap.size + 1, 0, none⟩), .pointer (some ⟨w.heap.size, 0, none⟩)] W fun e w' => e = .returned (.int .i64 (begAt line k.blanks r : Int)) ∧ Below W.heap.size W w') := hide (fun W h => beginR_any line r k (w.heap.size + 1) w.heap.size W h.ky h.ln (by have := h.lt; omega) hp1 hp2 hl)
            obtain ⟨B2, hB2⟩ : ∃ B2, begAt line k.blanks r = B2 := ⟨_, rfl⟩
            rw [hB2] at hbg HT1
            simp only [hB2] at HBG
            clear hB2
            have hw1 : IntKind.i64.wrap ((B2 : Int) + k.lastB) = (B2 : Int) + k.lastB := IntWalk.i64_in _ (by omega)
            have q3a : (wc.alloc (.cells #[.int .i64 (r.1 : Int), .int .i64 (r.2 : Int)] 69)).cell? ⟨w.heap.size + 1, 3, none⟩ = some (.int .i64 k.lastB) := (kyAt_cells EN.out.ky).2.2.2.1
            have hne : w.heap.size + 1 ≠ wc.heap.size := by omega
            by_cases hcm : (B2 : Int) + k.lastB < (r.2 : Int)
            · have hcmd : decide ((B2 : Int) + k.lastB < (r.2 : Int)) = true := by simpa using hcm
              go_wp2_with fail
              go_region_held3 (fun w' => w'.cell? ⟨w.heap.size + 1, 3, none⟩ = some (.int .i64 k.lastB) ∧ w'.cell? ⟨wc.heap.size, 0, none⟩ = some (.int .i64 (r.1 : Int)) ∧ w'.cell? ⟨wc.heap.size, 1, none⟩ = some (.int .i64 (r.2 : Int))) (go_keep) ((go_at_call 74; (with_reducible refine (HBG.out _ (by exact KEnv.like EN.out rfl rfl rfl rfl)).mono ?_); rintro e w4 ⟨rfl, hbl⟩; have EN := hide (KEnv.next EN.out hbl rfl rfl rfl rfl (Nat.le_refl _)); have SP := hide (blk_next SP.out hbl rfl (by show wc.heap.size < _; exact blk_lt SP.out)); clear hbl; obtain ⟨r0, r1⟩ := two_cells SP.out; have qk := (kyAt_cells EN.out.ky).2.2.2.1))
              clear q2 q3 q3a
              go_wp2_with fail
              go_region_held3 (fun w' => w'.cell? ⟨w.heap.size + 1, 3, none⟩ = some (.int .i64 k.lastB) ∧ w'.cell? ⟨wc.heap.size, 0, none⟩ = some (.int .i64 (r.1 : Int)) ∧ w'.cell? ⟨wc.heap.size, 1, none⟩ = some (.int .i64 (r.2 : Int))) (go_keep) ((go_at_call 74; (with_reducible refine (HBG.out _ (by exact KEnv.like EN.out rfl rfl rfl rfl)).mono ?_); rintro e w5 ⟨rfl, hbl⟩; have EN := hide (KEnv.next EN.out hbl rfl rfl rfl rfl (Nat.le_refl _)); have SP := hide (blk_next SP.out hbl rfl (by show wc.heap.size < _; exact blk_lt SP.out)); clear hbl; obtain ⟨r0, r1⟩ := two_cells SP.out; have qk := (kyAt_cells EN.out.ky).2.2.2.1))
              have EZ := EN
              obtain ⟨tz, hto, hte⟩ : ∃ tz : Nat, (B2 : Int) + k.lastB = (tz : Int) ∧ tz = min (B2 + k.lastB.toNat) r.2 := ⟨min (B2 + k.lastB.toNat) r.2, by omega, rfl⟩
              rw [hto]
              have HT : Hid (keyTo k line sep = tz) := by show _ = _; rw [HT1.out, hte]
              have htl : tz ≤ line.size := by omega
              clear hto hte hw1 qk r0 r1 SP EN HBG
              have ql := EZ.out.ln
              by_cases hcut : tz < p.2
              · have HR : Hid (Pw.keyOf k line sep = ⟨#[]⟩) := by
                  show _ = _
                  unfold Pw.keyOf
                  rw [HF.out, HT.out, if_pos hcut]
                have hcd : decide (tz < p.2) = true := by simpa using hcut
                go_wp2_with fail
                go_ret
                exact ⟨by rw [HR.out]; rfl, EZ.out.bel⟩
              · have HR : Hid (Pw.keyOf k line sep = line.extract p.2 tz) := by
                  show _ = _
                  unfold Pw.keyOf
                  rw [HF.out, HT.out, if_neg hcut]
                have hcd : decide (tz < p.2) = false := by simpa using hcut
                have hc2 : p.2 ≤ tz := by omega
                go_wp2_with fail
                go_ret
                exact ⟨by rw [HR.out]; first | rfl | (simp; done), EZ.out.bel⟩
            · have hcmd : decide ((B2 : Int) + k.lastB < (r.2 : Int)) = false := by simpa using hcm
              go_wp2_with fail
              go_region_held3 (fun w' => w'.cell? ⟨w.heap.size + 1, 3, none⟩ = some (.int .i64 k.lastB) ∧ w'.cell? ⟨wc.heap.size, 0, none⟩ = some (.int .i64 (r.1 : Int)) ∧ w'.cell? ⟨wc.heap.size, 1, none⟩ = some (.int .i64 (r.2 : Int))) (go_keep) ((go_at_call 74; (with_reducible refine (HBG.out _ (by exact KEnv.like EN.out rfl rfl rfl rfl)).mono ?_); rintro e w4 ⟨rfl, hbl⟩; have EN := hide (KEnv.next EN.out hbl rfl rfl rfl rfl (Nat.le_refl _)); have SP := hide (blk_next SP.out hbl rfl (by show wc.heap.size < _; exact blk_lt SP.out)); clear hbl; obtain ⟨r0, r1⟩ := two_cells SP.out; have qk := (kyAt_cells EN.out.ky).2.2.2.1))
              have EZ := EN
              have HT : Hid (keyTo k line sep = r.2) := by show _ = _; rw [HT1.out]; omega
              clear hw1 qk r0 r1 SP EN HBG q2 q3 q3a
              have ql := EZ.out.ln
              by_cases hcut : r.2 < p.2
              · have HR : Hid (Pw.keyOf k line sep = ⟨#[]⟩) := by
                  show _ = _
                  unfold Pw.keyOf
                  rw [HF.out, HT.out, if_pos hcut]
                have hcd : decide (r.2 < p.2) = true := by simpa using hcut
                go_wp2_with fail
                go_ret
                exact ⟨by rw [HR.out]; rfl, EZ.out.bel⟩
              · have HR : Hid (Pw.keyOf k line sep = line.extract p.2 r.2) := by
                  show _ = _
                  unfold Pw.keyOf
                  rw [HF.out, HT.out, if_neg hcut]
                have hcd : decide (r.2 < p.2) = false := by simpa using hcut
                have hc2 : p.2 ≤ r.2 := by omega
                go_wp2_with fail
                go_ret
                exact ⟨by rw [HR.out]; first | rfl | (simp; done), EZ.out.bel⟩
          · have hdc : decide (0 < k.lastB) = false := by simpa using hlc
            have HT : Hid (keyTo k line sep = r.2) := by
              show _ = _
              rw [HT0.out, if_neg hlc]
            have q3a : (wc.alloc (.cells #[.int .i64 (r.1 : Int), .int .i64 (r.2 : Int)] 69)).cell? ⟨w.heap.size + 1, 3, none⟩ = some (.int .i64 k.lastB) := (kyAt_cells EN.out.ky).2.2.2.1
            have hne : w.heap.size + 1 ≠ wc.heap.size := by omega
            go_wp2_with fail
            go_quiet (fail)
            have EZ := hide (EN.out.drewN nq)
            clear q2 q3 q3a SP EN
            have ql := EZ.out.ln
            by_cases hcut : r.2 < p.2
            · have HR : Hid (Pw.keyOf k line sep = ⟨#[]⟩) := by
                show _ = _
                unfold Pw.keyOf
                rw [HF.out, HT.out, if_pos hcut]
              have hcd : decide (r.2 < p.2) = true := by simpa using hcut
              go_wp2_with fail
              go_ret
              exact ⟨by rw [HR.out]; rfl, EZ.out.bel⟩
            · have HR : Hid (Pw.keyOf k line sep = line.extract p.2 r.2) := by
                show _ = _
                unfold Pw.keyOf
                rw [HF.out, HT.out, if_neg hcut]
              have hcd : decide (r.2 < p.2) = false := by simpa using hcut
              have hc2 : p.2 ≤ r.2 := by omega
              go_wp2_with fail
              go_ret
              exact ⟨by rw [HR.out]; first | rfl | (simp; done), EZ.out.bel⟩
        · have hdb : decide (k.last ≤ (L.length : Int)) = false := by simpa using hlb
          have HT : Hid (keyTo k line sep = line.size) := by
            show _ = _
            unfold keyTo
            rw [HL.out, if_neg (fun h => hlb h.2)]
          have EZ := EN
          clear EN
          have ql := EZ.out.ln
          by_cases hcut : line.size < p.2
          · exact absurd hcut (by omega)
          · have HR : Hid (Pw.keyOf k line sep = line.extract p.2 line.size) := by
              show _ = _
              unfold Pw.keyOf
              rw [HF.out, HT.out, if_neg hcut]
            have hcd : decide (line.size < p.2) = false := by simpa using hcut
            have hc2 : p.2 ≤ line.size := by omega
            go_wp2_with fail
            go_ret
            exact ⟨by rw [HR.out]; first | rfl | (simp; done), EZ.out.bel⟩
      · have hda : decide (0 < k.last) = false := by simpa using hla
        have HT : Hid (keyTo k line sep = line.size) := by
          show _ = _
          unfold keyTo
          rw [HL.out, if_neg (fun h => hla h.1)]
        have EZ := EN
        clear EN
        have ql := EZ.out.ln
        by_cases hcut : line.size < p.2
        · exact absurd hcut (by omega)
        · have HR : Hid (Pw.keyOf k line sep = line.extract p.2 line.size) := by
            show _ = _
            unfold Pw.keyOf
            rw [HF.out, HT.out, if_neg hcut]
          have hcd : decide (line.size < p.2) = false := by simpa using hcut
          have hc2 : p.2 ≤ line.size := by omega
          go_wp2_with fail
          go_ret
          exact ⟨by rw [HR.out]; first | rfl | (simp; done), EZ.out.bel⟩
    · have hgd : decide ((p.2 : Int) < (B : Int) + k.firstB - 1) = false := by simpa using hgt
      obtain ⟨fr, hfr, hfe⟩ : ∃ fr : Nat, (B : Int) + k.firstB - 1 = (fr : Int) ∧ fr = min (B + k.firstB.toNat - 1) p.2 := ⟨min (B + k.firstB.toNat - 1) p.2, by omega, rfl⟩
      rw [hfr] at hgd ⊢
      have HF : Hid (keyFrom k line sep = fr) := by show _ = _; rw [HF.out, hfe]
      have hfl : fr ≤ line.size := by omega
      have hgd2 : decide (p.2 < fr) = false := by simp; omega
      clear r0 SP hgt hfr hfe hbg hp1 hp2 h1 hd ha hal
      have q2 := (kyAt_cells EN.out.ky).2.2.1
      have q3 := (kyAt_cells EN.out.ky).2.2.2.1
      by_cases hla : 0 < k.last
      · have hda : decide (0 < k.last) = true := by simpa using hla
        by_cases hlb : k.last ≤ L.length
        · have hdb : decide (k.last ≤ (L.length : Int)) = true := by simpa using hlb
          obtain ⟨z, hz⟩ : ∃ z : Nat, k.last = (z : Int) + 1 := ⟨(k.last - 1).toNat, by omega⟩
          have hzl : z < L.length := by omega
          have d := EN.out.cells z L[z] (List.getElem?_eq_getElem hzl)
          have hp := HF3.out L[z] (List.getElem_mem hzl)
          obtain ⟨r, hrr⟩ : ∃ r, L[z] = r := ⟨_, rfl⟩
          rw [hrr] at d hp
          obtain ⟨d0, d1⟩ := d
          obtain ⟨hp1, hp2⟩ := hp
          have HT0 : Hid (keyTo k line sep = if 0 < k.lastB then min (begAt line k.blanks r + k.lastB.toNat) r.2 else r.2) := by
            show _ = _
            unfold keyTo
            rw [HL.out, if_pos ⟨hla, hlb⟩, List.getD_eq_getElem?_getD, show k.last.toNat - 1 = z by omega, List.getElem?_eq_getElem hzl, hrr]; rfl
          clear hrr
          have hsp := heap_alloc_new wc (.cells #[.int .i64 (r.1 : Int), .int .i64 (r.2 : Int)] 69)
          have SP : Hid ((wc.alloc (.cells #[.int .i64 (r.1 : Int), .int .i64 (r.2 : Int)] 69)).heap[wc.heap.size]? = some (.cells #[.int .i64 (r.1 : Int), .int .i64 (r.2 : Int)] 69 (0, 0))) := hide hsp
          have EN := hide (EN.out.alloc (.cells #[.int .i64 (r.1 : Int), .int .i64 (r.2 : Int)] 69))
          have hwl := EN.out.lt
          have hwl2 : w.heap.size + 1 < wc.heap.size := hltc
          clear hsp
          by_cases hlc : 0 < k.lastB
          · have hdc : decide (0 < k.lastB) = true := by simpa using hlc
            have HT1 : Hid (keyTo k line sep = min (begAt line k.blanks r + k.lastB.toNat) r.2) := by
              show _ = _
              rw [HT0.out, if_pos hlc]
            have hbg := begAt_ok line k.blanks r hp1
            have HBG : Hid (∀ W, KEnv w W line k L g → Calls Tryz.prog 74 #[.agg #[.int .i64 (r.1 : Int), .int .i64 (r.2 : Int)], .pointer (some ⟨w.heap.size + 1, 0, none⟩), .pointer (some ⟨w.heap.size, 0, none⟩)] W fun e w' => e = .returned (.int .i64 (begAt line k.blanks r : Int)) ∧ Below W.heap.size W w') := hide (fun W h => beginR_any line r k (w.heap.size + 1) w.heap.size W h.ky h.ln (by have := h.lt; omega) hp1 hp2 hl)
            obtain ⟨B2, hB2⟩ : ∃ B2, begAt line k.blanks r = B2 := ⟨_, rfl⟩
            rw [hB2] at hbg HT1
            simp only [hB2] at HBG
            clear hB2
            have hw1 : IntKind.i64.wrap ((B2 : Int) + k.lastB) = (B2 : Int) + k.lastB := IntWalk.i64_in _ (by omega)
            have q3a : (wc.alloc (.cells #[.int .i64 (r.1 : Int), .int .i64 (r.2 : Int)] 69)).cell? ⟨w.heap.size + 1, 3, none⟩ = some (.int .i64 k.lastB) := (kyAt_cells EN.out.ky).2.2.2.1
            have hne : w.heap.size + 1 ≠ wc.heap.size := by omega
            by_cases hcm : (B2 : Int) + k.lastB < (r.2 : Int)
            · have hcmd : decide ((B2 : Int) + k.lastB < (r.2 : Int)) = true := by simpa using hcm
              go_wp2_with fail
              go_region_held3 (fun w' => w'.cell? ⟨w.heap.size + 1, 3, none⟩ = some (.int .i64 k.lastB) ∧ w'.cell? ⟨wc.heap.size, 0, none⟩ = some (.int .i64 (r.1 : Int)) ∧ w'.cell? ⟨wc.heap.size, 1, none⟩ = some (.int .i64 (r.2 : Int))) (go_keep) ((go_at_call 74; (with_reducible refine (HBG.out _ (by exact KEnv.like EN.out rfl rfl rfl rfl)).mono ?_); rintro e w4 ⟨rfl, hbl⟩; have EN := hide (KEnv.next EN.out hbl rfl rfl rfl rfl (Nat.le_refl _)); have SP := hide (blk_next SP.out hbl rfl (by show wc.heap.size < _; exact blk_lt SP.out)); clear hbl; obtain ⟨r0, r1⟩ := two_cells SP.out; have qk := (kyAt_cells EN.out.ky).2.2.2.1))
              clear q2 q3 q3a
              go_wp2_with fail
              go_region_held3 (fun w' => w'.cell? ⟨w.heap.size + 1, 3, none⟩ = some (.int .i64 k.lastB) ∧ w'.cell? ⟨wc.heap.size, 0, none⟩ = some (.int .i64 (r.1 : Int)) ∧ w'.cell? ⟨wc.heap.size, 1, none⟩ = some (.int .i64 (r.2 : Int))) (go_keep) ((go_at_call 74; (with_reducible refine (HBG.out _ (by exact KEnv.like EN.out rfl rfl rfl rfl)).mono ?_); rintro e w5 ⟨rfl, hbl⟩; have EN := hide (KEnv.next EN.out hbl rfl rfl rfl rfl (Nat.le_refl _)); have SP := hide (blk_next SP.out hbl rfl (by show wc.heap.size < _; exact blk_lt SP.out)); clear hbl; obtain ⟨r0, r1⟩ := two_cells SP.out; have qk := (kyAt_cells EN.out.ky).2.2.2.1))
              have EZ := EN
              obtain ⟨tz, hto, hte⟩ : ∃ tz : Nat, (B2 : Int) + k.lastB = (tz : Int) ∧ tz = min (B2 + k.lastB.toNat) r.2 := ⟨min (B2 + k.lastB.toNat) r.2, by omega, rfl⟩
              rw [hto]
              have HT : Hid (keyTo k line sep = tz) := by show _ = _; rw [HT1.out, hte]
              have htl : tz ≤ line.size := by omega
              clear hto hte hw1 qk r0 r1 SP EN HBG
              have ql := EZ.out.ln
              by_cases hcut : tz < fr
              · have HR : Hid (Pw.keyOf k line sep = ⟨#[]⟩) := by
                  show _ = _
                  unfold Pw.keyOf
                  rw [HF.out, HT.out, if_pos hcut]
                have hcd : decide (tz < fr) = true := by simpa using hcut
                go_wp2_with fail
                go_ret
                exact ⟨by rw [HR.out]; rfl, EZ.out.bel⟩
              · have HR : Hid (Pw.keyOf k line sep = line.extract fr tz) := by
                  show _ = _
                  unfold Pw.keyOf
                  rw [HF.out, HT.out, if_neg hcut]
                have hcd : decide (tz < fr) = false := by simpa using hcut
                have hc2 : fr ≤ tz := by omega
                go_wp2_with fail
                go_ret
                exact ⟨by rw [HR.out]; first | rfl | (simp; done), EZ.out.bel⟩
            · have hcmd : decide ((B2 : Int) + k.lastB < (r.2 : Int)) = false := by simpa using hcm
              go_wp2_with fail
              go_region_held3 (fun w' => w'.cell? ⟨w.heap.size + 1, 3, none⟩ = some (.int .i64 k.lastB) ∧ w'.cell? ⟨wc.heap.size, 0, none⟩ = some (.int .i64 (r.1 : Int)) ∧ w'.cell? ⟨wc.heap.size, 1, none⟩ = some (.int .i64 (r.2 : Int))) (go_keep) ((go_at_call 74; (with_reducible refine (HBG.out _ (by exact KEnv.like EN.out rfl rfl rfl rfl)).mono ?_); rintro e w4 ⟨rfl, hbl⟩; have EN := hide (KEnv.next EN.out hbl rfl rfl rfl rfl (Nat.le_refl _)); have SP := hide (blk_next SP.out hbl rfl (by show wc.heap.size < _; exact blk_lt SP.out)); clear hbl; obtain ⟨r0, r1⟩ := two_cells SP.out; have qk := (kyAt_cells EN.out.ky).2.2.2.1))
              have EZ := EN
              have HT : Hid (keyTo k line sep = r.2) := by show _ = _; rw [HT1.out]; omega
              clear hw1 qk r0 r1 SP EN HBG q2 q3 q3a
              have ql := EZ.out.ln
              by_cases hcut : r.2 < fr
              · have HR : Hid (Pw.keyOf k line sep = ⟨#[]⟩) := by
                  show _ = _
                  unfold Pw.keyOf
                  rw [HF.out, HT.out, if_pos hcut]
                have hcd : decide (r.2 < fr) = true := by simpa using hcut
                go_wp2_with fail
                go_ret
                exact ⟨by rw [HR.out]; rfl, EZ.out.bel⟩
              · have HR : Hid (Pw.keyOf k line sep = line.extract fr r.2) := by
                  show _ = _
                  unfold Pw.keyOf
                  rw [HF.out, HT.out, if_neg hcut]
                have hcd : decide (r.2 < fr) = false := by simpa using hcut
                have hc2 : fr ≤ r.2 := by omega
                go_wp2_with fail
                go_ret
                exact ⟨by rw [HR.out]; first | rfl | (simp; done), EZ.out.bel⟩
          · have hdc : decide (0 < k.lastB) = false := by simpa using hlc
            have HT : Hid (keyTo k line sep = r.2) := by
              show _ = _
              rw [HT0.out, if_neg hlc]
            have q3a : (wc.alloc (.cells #[.int .i64 (r.1 : Int), .int .i64 (r.2 : Int)] 69)).cell? ⟨w.heap.size + 1, 3, none⟩ = some (.int .i64 k.lastB) := (kyAt_cells EN.out.ky).2.2.2.1
            have hne : w.heap.size + 1 ≠ wc.heap.size := by omega
            go_wp2_with fail
            go_quiet (fail)
            have EZ := hide (EN.out.drewN nq)
            clear q2 q3 q3a SP EN
            have ql := EZ.out.ln
            by_cases hcut : r.2 < fr
            · have HR : Hid (Pw.keyOf k line sep = ⟨#[]⟩) := by
                show _ = _
                unfold Pw.keyOf
                rw [HF.out, HT.out, if_pos hcut]
              have hcd : decide (r.2 < fr) = true := by simpa using hcut
              go_wp2_with fail
              go_ret
              exact ⟨by rw [HR.out]; rfl, EZ.out.bel⟩
            · have HR : Hid (Pw.keyOf k line sep = line.extract fr r.2) := by
                show _ = _
                unfold Pw.keyOf
                rw [HF.out, HT.out, if_neg hcut]
              have hcd : decide (r.2 < fr) = false := by simpa using hcut
              have hc2 : fr ≤ r.2 := by omega
              go_wp2_with fail
              go_ret
              exact ⟨by rw [HR.out]; first | rfl | (simp; done), EZ.out.bel⟩
        · have hdb : decide (k.last ≤ (L.length : Int)) = false := by simpa using hlb
          have HT : Hid (keyTo k line sep = line.size) := by
            show _ = _
            unfold keyTo
            rw [HL.out, if_neg (fun h => hlb h.2)]
          have EZ := EN
          clear EN
          have ql := EZ.out.ln
          by_cases hcut : line.size < fr
          · exact absurd hcut (by omega)
          · have HR : Hid (Pw.keyOf k line sep = line.extract fr line.size) := by
              show _ = _
              unfold Pw.keyOf
              rw [HF.out, HT.out, if_neg hcut]
            have hcd : decide (line.size < fr) = false := by simpa using hcut
            have hc2 : fr ≤ line.size := by omega
            go_wp2_with fail
            go_ret
            exact ⟨by rw [HR.out]; first | rfl | (simp; done), EZ.out.bel⟩
      · have hda : decide (0 < k.last) = false := by simpa using hla
        have HT : Hid (keyTo k line sep = line.size) := by
          show _ = _
          unfold keyTo
          rw [HL.out, if_neg (fun h => hla h.1)]
        have EZ := EN
        clear EN
        have ql := EZ.out.ln
        by_cases hcut : line.size < fr
        · exact absurd hcut (by omega)
        · have HR : Hid (Pw.keyOf k line sep = line.extract fr line.size) := by
            show _ = _
            unfold Pw.keyOf
            rw [HF.out, HT.out, if_neg hcut]
          have hcd : decide (line.size < fr) = false := by simpa using hcut
          have hc2 : fr ≤ line.size := by omega
          go_wp2_with fail
          go_ret
          exact ⟨by rw [HR.out]; first | rfl | (simp; done), EZ.out.bel⟩
  · have hd : decide (k.first ≤ (L.length : Int)) = false := by simpa using h1
    have HF : Hid (keyFrom k line sep = line.size) := by
      show _ = _
      unfold keyFrom
      rw [HL.out, if_neg h1]
    have hltc := hltb
    have q2 := (kyAt_cells EN.out.ky).2.2.1
    have q3 := (kyAt_cells EN.out.ky).2.2.2.1
    by_cases hla : 0 < k.last
    · have hda : decide (0 < k.last) = true := by simpa using hla
      by_cases hlb : k.last ≤ L.length
      · have hdb : decide (k.last ≤ (L.length : Int)) = true := by simpa using hlb
        obtain ⟨z, hz⟩ : ∃ z : Nat, k.last = (z : Int) + 1 := ⟨(k.last - 1).toNat, by omega⟩
        have hzl : z < L.length := by omega
        have d := EN.out.cells z L[z] (List.getElem?_eq_getElem hzl)
        have hp := HF3.out L[z] (List.getElem_mem hzl)
        obtain ⟨r, hrr⟩ : ∃ r, L[z] = r := ⟨_, rfl⟩
        rw [hrr] at d hp
        obtain ⟨d0, d1⟩ := d
        obtain ⟨hp1, hp2⟩ := hp
        have HT0 : Hid (keyTo k line sep = if 0 < k.lastB then min (begAt line k.blanks r + k.lastB.toNat) r.2 else r.2) := by
          show _ = _
          unfold keyTo
          rw [HL.out, if_pos ⟨hla, hlb⟩, List.getD_eq_getElem?_getD, show k.last.toNat - 1 = z by omega, List.getElem?_eq_getElem hzl, hrr]; rfl
        clear hrr
        have hsp := heap_alloc_new wb (.cells #[.int .i64 (r.1 : Int), .int .i64 (r.2 : Int)] 69)
        have SP : Hid ((wb.alloc (.cells #[.int .i64 (r.1 : Int), .int .i64 (r.2 : Int)] 69)).heap[wb.heap.size]? = some (.cells #[.int .i64 (r.1 : Int), .int .i64 (r.2 : Int)] 69 (0, 0))) := hide hsp
        have EN := hide (EN.out.alloc (.cells #[.int .i64 (r.1 : Int), .int .i64 (r.2 : Int)] 69))
        have hwl := EN.out.lt
        have hwl2 : w.heap.size + 1 < wb.heap.size := hltc
        clear hsp
        by_cases hlc : 0 < k.lastB
        · have hdc : decide (0 < k.lastB) = true := by simpa using hlc
          have HT1 : Hid (keyTo k line sep = min (begAt line k.blanks r + k.lastB.toNat) r.2) := by
            show _ = _
            rw [HT0.out, if_pos hlc]
          have hbg := begAt_ok line k.blanks r hp1
          have HBG : Hid (∀ W, KEnv w W line k L g → Calls Tryz.prog 74 #[.agg #[.int .i64 (r.1 : Int), .int .i64 (r.2 : Int)], .pointer (some ⟨w.heap.size + 1, 0, none⟩), .pointer (some ⟨w.heap.size, 0, none⟩)] W fun e w' => e = .returned (.int .i64 (begAt line k.blanks r : Int)) ∧ Below W.heap.size W w') := hide (fun W h => beginR_any line r k (w.heap.size + 1) w.heap.size W h.ky h.ln (by have := h.lt; omega) hp1 hp2 hl)
          obtain ⟨B2, hB2⟩ : ∃ B2, begAt line k.blanks r = B2 := ⟨_, rfl⟩
          rw [hB2] at hbg HT1
          simp only [hB2] at HBG
          clear hB2
          have hw1 : IntKind.i64.wrap ((B2 : Int) + k.lastB) = (B2 : Int) + k.lastB := IntWalk.i64_in _ (by omega)
          have q3a : (wb.alloc (.cells #[.int .i64 (r.1 : Int), .int .i64 (r.2 : Int)] 69)).cell? ⟨w.heap.size + 1, 3, none⟩ = some (.int .i64 k.lastB) := (kyAt_cells EN.out.ky).2.2.2.1
          have hne : w.heap.size + 1 ≠ wb.heap.size := by omega
          by_cases hcm : (B2 : Int) + k.lastB < (r.2 : Int)
          · have hcmd : decide ((B2 : Int) + k.lastB < (r.2 : Int)) = true := by simpa using hcm
            go_wp2_with fail
            go_region_held3 (fun w' => w'.cell? ⟨w.heap.size + 1, 3, none⟩ = some (.int .i64 k.lastB) ∧ w'.cell? ⟨wb.heap.size, 0, none⟩ = some (.int .i64 (r.1 : Int)) ∧ w'.cell? ⟨wb.heap.size, 1, none⟩ = some (.int .i64 (r.2 : Int))) (go_keep) ((go_at_call 74; (with_reducible refine (HBG.out _ (by exact KEnv.like EN.out rfl rfl rfl rfl)).mono ?_); rintro e w4 ⟨rfl, hbl⟩; have EN := hide (KEnv.next EN.out hbl rfl rfl rfl rfl (Nat.le_refl _)); have SP := hide (blk_next SP.out hbl rfl (by show wb.heap.size < _; exact blk_lt SP.out)); clear hbl; obtain ⟨r0, r1⟩ := two_cells SP.out; have qk := (kyAt_cells EN.out.ky).2.2.2.1))
            clear q2 q3 q3a
            go_wp2_with fail
            go_region_held3 (fun w' => w'.cell? ⟨w.heap.size + 1, 3, none⟩ = some (.int .i64 k.lastB) ∧ w'.cell? ⟨wb.heap.size, 0, none⟩ = some (.int .i64 (r.1 : Int)) ∧ w'.cell? ⟨wb.heap.size, 1, none⟩ = some (.int .i64 (r.2 : Int))) (go_keep) ((go_at_call 74; (with_reducible refine (HBG.out _ (by exact KEnv.like EN.out rfl rfl rfl rfl)).mono ?_); rintro e w5 ⟨rfl, hbl⟩; have EN := hide (KEnv.next EN.out hbl rfl rfl rfl rfl (Nat.le_refl _)); have SP := hide (blk_next SP.out hbl rfl (by show wb.heap.size < _; exact blk_lt SP.out)); clear hbl; obtain ⟨r0, r1⟩ := two_cells SP.out; have qk := (kyAt_cells EN.out.ky).2.2.2.1))
            have EZ := EN
            obtain ⟨tz, hto, hte⟩ : ∃ tz : Nat, (B2 : Int) + k.lastB = (tz : Int) ∧ tz = min (B2 + k.lastB.toNat) r.2 := ⟨min (B2 + k.lastB.toNat) r.2, by omega, rfl⟩
            rw [hto]
            have HT : Hid (keyTo k line sep = tz) := by show _ = _; rw [HT1.out, hte]
            have htl : tz ≤ line.size := by omega
            clear hto hte hw1 qk r0 r1 SP EN HBG
            have ql := EZ.out.ln
            by_cases hcut : tz < line.size
            · have HR : Hid (Pw.keyOf k line sep = ⟨#[]⟩) := by
                show _ = _
                unfold Pw.keyOf
                rw [HF.out, HT.out, if_pos hcut]
              have hcd : decide (tz < line.size) = true := by simpa using hcut
              go_wp2_with fail
              go_ret
              exact ⟨by rw [HR.out]; rfl, EZ.out.bel⟩
            · have HR : Hid (Pw.keyOf k line sep = line.extract line.size tz) := by
                show _ = _
                unfold Pw.keyOf
                rw [HF.out, HT.out, if_neg hcut]
              have hcd : decide (tz < line.size) = false := by simpa using hcut
              have hc2 : line.size ≤ tz := by omega
              go_wp2_with fail
              go_ret
              exact ⟨by rw [HR.out]; first | rfl | (simp; done), EZ.out.bel⟩
          · have hcmd : decide ((B2 : Int) + k.lastB < (r.2 : Int)) = false := by simpa using hcm
            go_wp2_with fail
            go_region_held3 (fun w' => w'.cell? ⟨w.heap.size + 1, 3, none⟩ = some (.int .i64 k.lastB) ∧ w'.cell? ⟨wb.heap.size, 0, none⟩ = some (.int .i64 (r.1 : Int)) ∧ w'.cell? ⟨wb.heap.size, 1, none⟩ = some (.int .i64 (r.2 : Int))) (go_keep) ((go_at_call 74; (with_reducible refine (HBG.out _ (by exact KEnv.like EN.out rfl rfl rfl rfl)).mono ?_); rintro e w4 ⟨rfl, hbl⟩; have EN := hide (KEnv.next EN.out hbl rfl rfl rfl rfl (Nat.le_refl _)); have SP := hide (blk_next SP.out hbl rfl (by show wb.heap.size < _; exact blk_lt SP.out)); clear hbl; obtain ⟨r0, r1⟩ := two_cells SP.out; have qk := (kyAt_cells EN.out.ky).2.2.2.1))
            have EZ := EN
            have HT : Hid (keyTo k line sep = r.2) := by show _ = _; rw [HT1.out]; omega
            clear hw1 qk r0 r1 SP EN HBG q2 q3 q3a
            have ql := EZ.out.ln
            by_cases hcut : r.2 < line.size
            · have HR : Hid (Pw.keyOf k line sep = ⟨#[]⟩) := by
                show _ = _
                unfold Pw.keyOf
                rw [HF.out, HT.out, if_pos hcut]
              have hcd : decide (r.2 < line.size) = true := by simpa using hcut
              go_wp2_with fail
              go_ret
              exact ⟨by rw [HR.out]; rfl, EZ.out.bel⟩
            · have HR : Hid (Pw.keyOf k line sep = line.extract line.size r.2) := by
                show _ = _
                unfold Pw.keyOf
                rw [HF.out, HT.out, if_neg hcut]
              have hcd : decide (r.2 < line.size) = false := by simpa using hcut
              have hc2 : line.size ≤ r.2 := by omega
              go_wp2_with fail
              go_ret
              exact ⟨by rw [HR.out]; first | rfl | (simp; done), EZ.out.bel⟩
        · have hdc : decide (0 < k.lastB) = false := by simpa using hlc
          have HT : Hid (keyTo k line sep = r.2) := by
            show _ = _
            rw [HT0.out, if_neg hlc]
          have q3a : (wb.alloc (.cells #[.int .i64 (r.1 : Int), .int .i64 (r.2 : Int)] 69)).cell? ⟨w.heap.size + 1, 3, none⟩ = some (.int .i64 k.lastB) := (kyAt_cells EN.out.ky).2.2.2.1
          have hne : w.heap.size + 1 ≠ wb.heap.size := by omega
          go_wp2_with fail
          go_quiet (fail)
          have EZ := hide (EN.out.drewN nq)
          clear q2 q3 q3a SP EN
          have ql := EZ.out.ln
          by_cases hcut : r.2 < line.size
          · have HR : Hid (Pw.keyOf k line sep = ⟨#[]⟩) := by
              show _ = _
              unfold Pw.keyOf
              rw [HF.out, HT.out, if_pos hcut]
            have hcd : decide (r.2 < line.size) = true := by simpa using hcut
            go_wp2_with fail
            go_ret
            exact ⟨by rw [HR.out]; rfl, EZ.out.bel⟩
          · have HR : Hid (Pw.keyOf k line sep = line.extract line.size r.2) := by
              show _ = _
              unfold Pw.keyOf
              rw [HF.out, HT.out, if_neg hcut]
            have hcd : decide (r.2 < line.size) = false := by simpa using hcut
            have hc2 : line.size ≤ r.2 := by omega
            go_wp2_with fail
            go_ret
            exact ⟨by rw [HR.out]; first | rfl | (simp; done), EZ.out.bel⟩
      · have hdb : decide (k.last ≤ (L.length : Int)) = false := by simpa using hlb
        have HT : Hid (keyTo k line sep = line.size) := by
          show _ = _
          unfold keyTo
          rw [HL.out, if_neg (fun h => hlb h.2)]
        have EZ := EN
        clear EN
        have ql := EZ.out.ln
        by_cases hcut : line.size < line.size
        · exact absurd hcut (by omega)
        · have HR : Hid (Pw.keyOf k line sep = line.extract line.size line.size) := by
            show _ = _
            unfold Pw.keyOf
            rw [HF.out, HT.out, if_neg hcut]
          have hcd : decide (line.size < line.size) = false := by simp
          have hc2 : line.size ≤ line.size := by omega
          go_wp2_with fail
          go_ret
          exact ⟨by rw [HR.out]; first | rfl | (simp; done), EZ.out.bel⟩
    · have hda : decide (0 < k.last) = false := by simpa using hla
      have HT : Hid (keyTo k line sep = line.size) := by
        show _ = _
        unfold keyTo
        rw [HL.out, if_neg (fun h => hla h.1)]
      have EZ := EN
      clear EN
      have ql := EZ.out.ln
      by_cases hcut : line.size < line.size
      · exact absurd hcut (by omega)
      · have HR : Hid (Pw.keyOf k line sep = line.extract line.size line.size) := by
          show _ = _
          unfold Pw.keyOf
          rw [HF.out, HT.out, if_neg hcut]
        have hcd : decide (line.size < line.size) = false := by simp
        have hc2 : line.size ≤ line.size := by omega
        go_wp2_with fail
        go_ret
        exact ⟨by rw [HR.out]; first | rfl | (simp; done), EZ.out.bel⟩
end Go.Proofs.YtkikbejpgfhfoaaGreatDoor
