/- The reference's decimals: Zero, Minus, digits. -/
import Derived.Test.YtoieicdnehnacaaGreatDoorSeqF
set_option linter.unusedVariables false
set_option linter.unusedSimpArgs false
namespace Go.Pw
open Go.RowKit
/-- a decimal in memory -/
def DAt (w : World) (b : Nat) (T : TypeId) (s : Bool) (d : ByteArray) (c : Nat) : Prop := w.heap[b]? = some (.cells #[.bool s, .string d, .int .i64 (c : Int)] T (0, 0))
theorem DAt.lt {w : World} {b : Nat} {T : TypeId} {s : Bool} {d : ByteArray} {c : Nat} (h : DAt w b T s d c) : b < w.heap.size := by
  rcases Nat.lt_or_ge b w.heap.size with h' | h'
  · exact h'
  · simp [DAt, Array.getElem?_eq_none h'] at h
theorem DAt.below {w w' : World} {b M : Nat} {T : TypeId} {s : Bool} {d : ByteArray} {c : Nat} (h : DAt w b T s d c) (hb : Below M w w') (hM : b < M) : DAt w' b T s d c := (hb.block b hM).trans h
theorem DAt.cells {w : World} {b : Nat} {T : TypeId} {s : Bool} {d : ByteArray} {c : Nat} (h : DAt w b T s d c) : w.cell? ⟨b, 0, none⟩ = some (.bool s) ∧ w.cell? ⟨b, 1, none⟩ = some (.string d) ∧ w.cell? ⟨b, 2, none⟩ = some (.int .i64 (c : Int)) := by
  refine ⟨?_, ?_, ?_⟩ <;> (rw [Lib.cell_of_heap h]; rfl)
theorem DAt.frozen {w : World} {b : Nat} {T : TypeId} {s : Bool} {d : ByteArray} {c : Nat} (h : DAt w b T s d c) (j : Nat) : w.frozen? ⟨b, j, none⟩ = false := Lib.frozen_of_heap h j
theorem DAt.other {w : World} {b b' j : Nat} {T : TypeId} {s : Bool} {d : ByteArray} {c : Nat} (h : DAt w b T s d c) (hb : b' ≠ b) (v : Value) : DAt (w.setCell ⟨b', j, none⟩ v) b T s d c := by
  unfold DAt at h ⊢
  rw [heap_other hb]; exact h
theorem DAt.set {w : World} {b : Nat} {T : TypeId} {s : Bool} {d : ByteArray} {c : Nat} (h : DAt w b T s d c) (s' : Bool) (d' : ByteArray) (c' : Nat) : DAt (((w.setCell ⟨b, 0, none⟩ (.bool s')).setCell ⟨b, 1, none⟩ (.string d')).setCell ⟨b, 2, none⟩ (.int .i64 (c' : Int))) b T s' d' c' := by
  unfold DAt at h ⊢
  simp [World.setCell, Array.getElem?_modify, h]
theorem DAt.set0 {w : World} {b : Nat} {T : TypeId} {s : Bool} {d : ByteArray} {c : Nat} (h : DAt w b T s d c) (s' : Bool) : DAt (w.setCell ⟨b, 0, none⟩ (.bool s')) b T s' d c := by
  unfold DAt at h ⊢
  simp [World.setCell, Array.getElem?_modify, h]
theorem DAt.set1 {w : World} {b : Nat} {T : TypeId} {s : Bool} {d : ByteArray} {c : Nat} (h : DAt w b T s d c) (d' : ByteArray) : DAt (w.setCell ⟨b, 1, none⟩ (.string d')) b T s d' c := by
  unfold DAt at h ⊢
  simp [World.setCell, Array.getElem?_modify, h]
theorem DAt.set2 {w : World} {b : Nat} {T : TypeId} {s : Bool} {d : ByteArray} {c : Nat} (h : DAt w b T s d c) (c' : Nat) : DAt (w.setCell ⟨b, 2, none⟩ (.int .i64 (c' : Int))) b T s d c' := by
  unfold DAt at h ⊢
  simp [World.setCell, Array.getElem?_modify, h]
theorem dec_two (w : World) (T : TypeId) (b1 b2 : Bool) (d1 d2 : ByteArray) (c1 c2 : Nat) :
    DAt ((w.alloc (.cells #[.bool b1, .string d1, .int .i64 (c1 : Int)] T)).alloc (.cells #[.bool b2, .string d2, .int .i64 (c2 : Int)] T)) w.heap.size T b1 d1 c1 ∧
    DAt ((w.alloc (.cells #[.bool b1, .string d1, .int .i64 (c1 : Int)] T)).alloc (.cells #[.bool b2, .string d2, .int .i64 (c2 : Int)] T)) (w.heap.size + 1) T b2 d2 c2 ∧
    Below w.heap.size w ((w.alloc (.cells #[.bool b1, .string d1, .int .i64 (c1 : Int)] T)).alloc (.cells #[.bool b2, .string d2, .int .i64 (c2 : Int)] T)) := by
  refine ⟨?_, ?_, ((Below.refl w.heap.size w).alloc (Nat.le_refl _) _).alloc (by simp) _⟩
  · have h : DAt (w.alloc (.cells #[.bool b1, .string d1, .int .i64 (c1 : Int)] T)) w.heap.size T b1 d1 c1 := heap_alloc_new _ _
    exact h.below ((Below.refl _ _).alloc (Nat.le_refl _) _) (by simp)
  · have h : DAt ((w.alloc (.cells #[.bool b1, .string d1, .int .i64 (c1 : Int)] T)).alloc (.cells #[.bool b2, .string d2, .int .i64 (c2 : Int)] T)) (w.alloc (.cells #[.bool b1, .string d1, .int .i64 (c1 : Int)] T)).heap.size T b2 d2 c2 := heap_alloc_new _ _
    rw [World.size_alloc] at h
    exact h
/-- the two decimals of a cut in memory -/
structure DEnv (T : TypeId) (b : Bool) (d : ByteArray) (c : Nat) (b2 : Bool) (d2 : ByteArray) (c2 : Nat) (w W : World) : Prop where
  x : DAt W w.heap.size T b d c
  r : DAt W (w.heap.size + 1) T b2 d2 c2
  bel : Below w.heap.size w W
theorem DEnv.next {T : TypeId} {b : Bool} {d : ByteArray} {c : Nat} {b2 : Bool} {d2 : ByteArray} {c2 : Nat} {w W V w' : World} {M : Nat} (h : DEnv T b d c b2 d2 c2 w W) (hb : Below M V w') (e1 : V.heap = W.heap) (e2 : V.os = W.os) (e3 : V.tape = W.tape) (e4 : V.output = W.output) (hM : W.heap.size ≤ M) : DEnv T b d c b2 d2 c2 w w' :=
  ⟨(hb.block _ (Nat.lt_of_lt_of_le h.x.lt hM)).trans (by rw [e1]; exact h.x), (hb.block _ (Nat.lt_of_lt_of_le h.r.lt hM)).trans (by rw [e1]; exact h.r), below_next h.bel hb e1 e2 e3 e4 (Nat.le_trans h.bel.size hM)⟩
theorem DEnv.set1 {T : TypeId} {b : Bool} {d : ByteArray} {c : Nat} {b2 : Bool} {d2 : ByteArray} {c2 : Nat} {w W : World} (h : DEnv T b d c b2 d2 c2 w W) (d' : ByteArray) : DEnv T b d' c b2 d2 c2 w (W.setCell ⟨w.heap.size, 1, none⟩ (.string d')) :=
  ⟨h.x.set1 d', h.r.other (by omega) _, h.bel.setCell (by simp) _⟩
theorem DEnv.set2 {T : TypeId} {b : Bool} {d : ByteArray} {c : Nat} {b2 : Bool} {d2 : ByteArray} {c2 : Nat} {w W : World} (h : DEnv T b d c b2 d2 c2 w W) (c' : Nat) : DEnv T b d c' b2 d2 c2 w (W.setCell ⟨w.heap.size, 2, none⟩ (.int .i64 (c' : Int))) :=
  ⟨h.x.set2 c', h.r.other (by omega) _, h.bel.setCell (by simp) _⟩
theorem DEnv.setR {T : TypeId} {b : Bool} {d : ByteArray} {c : Nat} {b2 : Bool} {d2 : ByteArray} {c2 : Nat} {w W : World} (h : DEnv T b d c b2 d2 c2 w W) (b' : Bool) (d' : ByteArray) (c' : Nat) : DEnv T b d c b' d' c' w (((W.setCell ⟨w.heap.size + 1, 0, none⟩ (.bool b')).setCell ⟨w.heap.size + 1, 1, none⟩ (.string d')).setCell ⟨w.heap.size + 1, 2, none⟩ (.int .i64 (c' : Int))) :=
  ⟨((h.x.other (by omega) _).other (by omega) _).other (by omega) _, h.r.set b' d' c', ((h.bel.setCell (by simp) _).setCell (by simp) _).setCell (by simp) _⟩
/-- an ending that hands back a decimal -/
def DecR (v : Int) (c : Nat) (e : Ending) : Prop := ∃ b d, e = .returned (.agg #[.bool b, .string d, .int .i64 (c : Int)]) ∧ ExI v b d
end Go.Pw
namespace Go.Proofs.YtoieicdnehnacaaGreatDoor
open Go.RowKit Go.Pw
theorem info_dec : (Tryz.prog.info? 71).map (·.size) = some 3 := by kernel_rfl
theorem decResult {fn : Func} {p : Tmp} (h : fn.results = #[.cell p 71]) (tmps : Array Value) (w : World) (g : Nat) (b : Bool) (d : ByteArray) (c : Nat)
    (hp : tmps.getD p undef = .pointer (some ⟨g, 0, none⟩)) (hg : DAt w g 71 b d c) : (results fn tmps).run Tryz.prog w = .ok (.agg #[.bool b, .string d, .int .i64 (c : Int)]) w :=
  results_cell_row h tmps w g 71 #[.bool b, .string d, .int .i64 (c : Int)] (0, 0) _ hp hg Tryz.underlying71 rfl info_dec
theorem decZero_any (b : Bool) (d : ByteArray) (c : Nat) (w : World) : Calls Tryz.prog 42 #[.agg #[.bool b, .string d, .int .i64 (c : Int)]] w fun e w' => e = .returned (.bool (decide (d.size = 0))) ∧ Below w.heap.size w w' := by
  have HB := hide ((Below.refl w.heap.size w).alloc (Nat.le_refl _) (.cells #[.bool b, .string d, .int .i64 (c : Int)] 71))
  by_cases h0 : 0 < d.size
  · have he := isEmpty_of h0
    have HV : Hid (decide (d.size = 0) = false) := hide (decide_eq_false (by omega))
    clear h0
    go_enter Tryz.func42, Tryz.ntmps42
    go_wp2_with fail
    go_ret
    exact ⟨by rw [HV.out]; rfl, HB.out⟩
  · obtain rfl := empty_of (s := d) (by omega)
    go_enter Tryz.func42, Tryz.ntmps42
    go_wp2_with fail
    go_ret
    exact ⟨rfl, HB.out⟩
theorem decDigits_any (b : Bool) (d : ByteArray) (c : Nat) (w : World) (hd : d.size ≤ 100) (hc : c ≤ 100) : Calls Tryz.prog 109 #[.agg #[.bool b, .string d, .int .i64 (c : Int)]] w fun e w' => (∃ n : Nat, n ≤ 101 ∧ e = .returned (.int .i64 (n : Int))) ∧ Below w.heap.size w w' := by
  have HB := hide ((Below.refl w.heap.size w).alloc (Nat.le_refl _) (.cells #[.bool b, .string d, .int .i64 (c : Int)] 71))
  by_cases h0 : d.size ≤ c
  · have h1 : (d.size : Int) ≤ (c : Int) := by omega
    have h2 : IntKind.i64.wrap ((c : Int) + 1) = (c : Int) + 1 := IntWalk.i64_in _ (by omega)
    go_enter Tryz.func109, Tryz.ntmps109
    go_wp2_with fail
    go_ret
    exact ⟨⟨c + 1, by omega, by simp⟩, HB.out⟩
  · have h1 : ¬ (d.size : Int) ≤ (c : Int) := by omega
    go_enter Tryz.func109, Tryz.ntmps109
    go_wp2_with fail
    go_ret
    exact ⟨⟨d.size, by omega, rfl⟩, HB.out⟩
theorem decMinus_any (v : Int) (b : Bool) (d : ByteArray) (c : Nat) (w : World) (h : ExI v b d) : Calls Tryz.prog 108 #[.agg #[.bool b, .string d, .int .i64 (c : Int)]] w fun e w' => DecR (-v) c e ∧ Below w.heap.size w w' := by
  by_cases h0 : 0 < d.size
  · have he := isEmpty_of h0
    have HE : Hid (ExI (-v) (!b) d) := hide (by
      refine ⟨h.canon, by rw [h.val]; omega, ?_⟩
      have hz : v ≠ 0 := fun e => by have := h.zero.2 e; omega
      have := h.neg
      cases b <;> simp at this ⊢ <;> omega)
    clear h h0
    go_enter Tryz.func108, Tryz.ntmps108
    go_wp2_with fail
    (try simp only [Exit.inBlock, Exit.then])
    refine bodyPost_ret (decResult rfl _ _ (w.heap.size + 1) (!b) d c rfl ?_) rfl ?_
    · exact (dec_two w 71 _ _ _ _ _ _).2.1
    · exact ⟨⟨_, _, rfl, HE.out⟩, (dec_two w 71 _ _ _ _ _ _).2.2⟩
  · obtain rfl := empty_of (s := d) (by omega)
    have HE : Hid (ExI (-v) b ⟨#[]⟩) := hide (by
      have hz := h.zero.1 rfl
      subst hz
      exact h)
    clear h h0
    go_enter Tryz.func108, Tryz.ntmps108
    go_wp2_with fail
    (try simp only [Exit.inBlock, Exit.then])
    refine bodyPost_ret (decResult rfl _ _ (w.heap.size + 1) b ⟨#[]⟩ c rfl ?_) rfl ?_
    · exact (dec_two w 71 _ _ _ _ _ _).2.1
    · exact ⟨⟨_, _, rfl, HE.out⟩, (dec_two w 71 _ _ _ _ _ _).2.2⟩
/-- so many zeros more -/
theorem zeros_val {v : Int} {b : Bool} {d : ByteArray} (n : Nat) (h : ExI v b d) (h0 : 0 < d.size) : ExI (v * (10 : Int) ^ n) b (d ++ mkB (List.replicate n 48)) := by
  have hs := len_size d
  have e : (d ++ mkB (List.replicate n 48)).data.toList = d.data.toList ++ List.replicate n 48 := by simp [mkB]
  have hz : v ≠ 0 := fun e => by have := h.zero.2 e; omega
  have hp := pow_pos10 n
  refine ⟨?_, ?_, ?_⟩
  · rw [e]
    refine ⟨dig_append h.canon.1 (by intro x hx; rw [List.eq_of_mem_replicate hx]; decide), fun hl => ?_⟩
    rw [List.getElem_append_left (by omega)]
    exact h.canon.2 _
  · rw [e, valL_append, valL_zeros, List.length_replicate, h.val, Int.natAbs_mul, ← ten_cast, Int.natAbs_natCast]; omega
  · rw [h.neg, ← ten_cast]
    have hp' : (0 : Int) < ((10 ^ n : Nat) : Int) := by exact_mod_cast hp
    by_cases hv : v < 0
    · rw [decide_eq_true hv, decide_eq_true (Int.mul_neg_of_neg_of_pos hv hp')]
    · rw [decide_eq_false hv, decide_eq_false (fun h => by
        have := Int.mul_nonneg (show 0 ≤ v by omega) (Int.le_of_lt hp')
        omega)]
set_option maxHeartbeats 4000000 in
set_option maxRecDepth 100000 in
theorem decCut_any (v : Int) (b : Bool) (d : ByteArray) (c S : Nat) (w : World) (h : ExI v b d) (hd : d.size ≤ 1000) (hc : c ≤ S) (hS : S ≤ 1000) :
    Calls Tryz.prog 43 #[.agg #[.bool b, .string d, .int .i64 (c : Int)], .int .i64 (S : Int)] w fun e w' => DecR (v * (10 : Int) ^ (S - c)) S e ∧ Below w.heap.size w w' := by
  have hci : (c : Int) ≤ (S : Int) := by omega
  by_cases h0 : 0 < d.size
  · have he := isEmpty_of h0
    have HE : Hid (ExI (v * (10 : Int) ^ (S - c)) b (d ++ mkB (List.replicate (S - c) 48))) := hide (zeros_val (S - c) h h0)
    obtain ⟨n, hn⟩ : ∃ n, S - c = n := ⟨_, rfl⟩
    have hw : IntKind.i64.wrap ((S : Int) - (c : Int)) = (n : Int) := by rw [show (S : Int) - (c : Int) = (n : Int) by omega]; exact IntWalk.i64_in _ (by omega)
    rw [hn] at HE ⊢
    have HZ := hide (fun V => repeatOne_any 48 n V (by omega))
    obtain ⟨Z, hZ⟩ : ∃ Z, mkB (List.replicate n 48) = Z := ⟨_, rfl⟩
    have hZs : Z.size ≤ 1000 := by rw [← hZ, mkB_size, List.length_replicate]; omega
    rw [hZ] at HZ HE
    have hsum : ¬ 9223372036854775807 < d.size + Z.size := by omega
    obtain ⟨D, hD⟩ : ∃ D, d ++ Z = D := ⟨_, rfl⟩
    have hD0 : 0 < D.size := by rw [← hD, ByteArray.size_append]; omega
    have HDe := hide (isEmpty_of hD0)
    have HD := hide hD
    rw [hD] at HE
    have E3 := dec_two w 71 b false d ⟨#[]⟩ c 0
    have EN : Hid (DEnv 71 b d c false ⟨#[]⟩ 0 w ((w.alloc (.cells #[.bool b, .string d, .int .i64 (c : Int)] 71)).alloc (.cells #[.bool false, .string ⟨#[]⟩, .int .i64 0] 71))) := hide ⟨E3.1, E3.2.1, E3.2.2⟩
    obtain ⟨W3, hW3⟩ : ∃ W3, (w.alloc (.cells #[.bool b, .string d, .int .i64 (c : Int)] 71)).alloc (.cells #[.bool false, .string ⟨#[]⟩, .int .i64 0] 71) = W3 := ⟨_, rfl⟩
    rw [hW3] at EN
    have HW3 := hide hW3
    clear h h0 hn hZ hD hD0 E3 hW3
    go_enter Tryz.func43, Tryz.ntmps43
    go_wp2_with fail
    rw [HW3.out]
    obtain ⟨a0, a1, a2⟩ := EN.out.x.cells
    have f0 := EN.out.x.frozen 0
    have f1 := EN.out.x.frozen 1
    have f2 := EN.out.x.frozen 2
    go_region_with (go_at_call 99; (with_reducible refine (HZ.out _).mono ?_); rintro e w4 ⟨rfl, hb4⟩; have EN := hide (DEnv.next EN.out hb4 rfl rfl rfl rfl (Nat.le_refl _)); clear hb4 a0 a1 a2 f0 f1 f2; obtain ⟨a0, a1, a2⟩ := EN.out.x.cells; have f0 := EN.out.x.frozen 0; have f1 := EN.out.x.frozen 1; have f2 := EN.out.x.frozen 2)
    all_goals
      rw [HD.out]
      have EN := hide (EN.out.set1 D)
      obtain ⟨W5, hW5⟩ : ∃ W5, w4.setCell ⟨w.heap.size, 1, none⟩ (.string D) = W5 := ⟨_, rfl⟩
      rw [hW5] at EN
      rw [hW5]
      clear hW5 a0 a1 a2 f0 f1 f2 he
      have he := HDe.out
      obtain ⟨a0, a1, a2⟩ := EN.out.x.cells
      have f2 := EN.out.x.frozen 2
      obtain ⟨c0, c1, c2⟩ := EN.out.r.cells
      have g0 := EN.out.r.frozen 0
      have g1 := EN.out.r.frozen 1
      have g2 := EN.out.r.frozen 2
      have EZ := hide ((EN.out.set2 S).setR b D S)
      go_wp2_with fail
      (try simp only [Exit.inBlock, Exit.then])
      refine bodyPost_ret (decResult rfl _ _ (w.heap.size + 1) b D S rfl EZ.out.r) rfl ?_
      exact ⟨⟨_, _, rfl, HE.out⟩, EZ.out.bel⟩
  · obtain rfl := empty_of (s := d) (by omega)
    have HE : Hid (ExI (v * (10 : Int) ^ (S - c)) false ⟨#[]⟩) := hide (by
      have hz := h.zero.1 rfl
      subst hz
      rw [Int.zero_mul]
      exact ⟨h.canon, h.val, rfl⟩)
    clear h h0
    go_enter Tryz.func43, Tryz.ntmps43
    go_wp2_with fail
    (try simp only [Exit.inBlock, Exit.then])
    refine bodyPost_ret (decResult rfl _ _ (w.heap.size + 1) false ⟨#[]⟩ S rfl ?_) rfl ?_
    · exact (dec_two w 71 _ _ _ _ _ _).2.1
    · exact ⟨⟨_, _, rfl, HE.out⟩, (dec_two w 71 _ _ _ _ _ _).2.2⟩
end Go.Proofs.YtoieicdnehnacaaGreatDoor
