/- The program's Seq: the walk for numerals that are not too long. -/
import Derived.Test.YtoieicdnehnacaaGreatDoorSeqT
import Derived.Test.YtoieicdnehnacaaGreatDoorApp1
set_option linter.unusedVariables false
set_option linter.unusedSimpArgs false
namespace Go.Pw
open Go.RowKit
/-- the decimals' counts in memory -/
structure S2 (TI : TypeId) (x0 x1 x2 : Nat) (w W : World) : Prop where
  d : W.heap[w.heap.size + 1]? = some (.cells #[.int .i64 (x0 : Int), .int .i64 (x1 : Int), .int .i64 (x2 : Int)] TI (0, 0))
  bel : Below w.heap.size w W
theorem S2.lt {TI : TypeId} {x0 x1 x2 : Nat} {w W : World} (h : S2 TI x0 x1 x2 w W) : w.heap.size + 1 < W.heap.size := by
  rcases Nat.lt_or_ge (w.heap.size + 1) W.heap.size with h' | h'
  · exact h'
  · have := h.d; rw [Array.getElem?_eq_none h'] at this; cases this
theorem S2.cells {TI : TypeId} {x0 x1 x2 : Nat} {w W : World} (h : S2 TI x0 x1 x2 w W) : W.cell? ⟨w.heap.size + 1, 0, none⟩ = some (.int .i64 (x0 : Int)) ∧ W.cell? ⟨w.heap.size + 1, 1, none⟩ = some (.int .i64 (x1 : Int)) ∧ W.cell? ⟨w.heap.size + 1, 2, none⟩ = some (.int .i64 (x2 : Int)) := by
  refine ⟨?_, ?_, ?_⟩ <;> (rw [Lib.cell_of_heap h.d]; rfl)
theorem S2.frozen {TI : TypeId} {x0 x1 x2 : Nat} {w W : World} (h : S2 TI x0 x1 x2 w W) (j : Nat) : W.frozen? ⟨w.heap.size + 1, j, none⟩ = false := Lib.frozen_of_heap h.d j
theorem S2.next {TI : TypeId} {x0 x1 x2 M : Nat} {w W V w' : World} (h : S2 TI x0 x1 x2 w W) (hb : Below M V w') (e1 : V.heap = W.heap) (e2 : V.os = W.os) (e3 : V.tape = W.tape) (e4 : V.output = W.output) (hM : W.heap.size ≤ M) : S2 TI x0 x1 x2 w w' :=
  ⟨(hb.block _ (Nat.lt_of_lt_of_le h.lt hM)).trans (by rw [e1]; exact h.d), below_next h.bel hb e1 e2 e3 e4 (Nat.le_trans h.bel.size hM)⟩
theorem S2.alloc {TI : TypeId} {x0 x1 x2 : Nat} {w W : World} (h : S2 TI x0 x1 x2 w W) (o : Obj) : S2 TI x0 x1 x2 w (W.alloc o) :=
  h.next ((Below.refl W.heap.size W).alloc (Nat.le_refl _) o) rfl rfl rfl rfl (Nat.le_refl _)
theorem S2.set0 {TI : TypeId} {x0 x1 x2 : Nat} {w W : World} (h : S2 TI x0 x1 x2 w W) (y : Nat) : S2 TI y x1 x2 w (W.setCell ⟨w.heap.size + 1, 0, none⟩ (.int .i64 (y : Int))) :=
  ⟨by have := h.d; simp [World.setCell, Array.getElem?_modify, this], h.bel.setCell (by simp) _⟩
theorem S2.set1 {TI : TypeId} {x0 x1 x2 : Nat} {w W : World} (h : S2 TI x0 x1 x2 w W) (y : Nat) : S2 TI x0 y x2 w (W.setCell ⟨w.heap.size + 1, 1, none⟩ (.int .i64 (y : Int))) :=
  ⟨by have := h.d; simp [World.setCell, Array.getElem?_modify, this], h.bel.setCell (by simp) _⟩
theorem S2.set2 {TI : TypeId} {x0 x1 x2 : Nat} {w W : World} (h : S2 TI x0 x1 x2 w W) (y : Nat) : S2 TI x0 x1 y w (W.setCell ⟨w.heap.size + 1, 2, none⟩ (.int .i64 (y : Int))) :=
  ⟨by have := h.d; simp [World.setCell, Array.getElem?_modify, this], h.bel.setCell (by simp) _⟩
theorem S2.start (TL TI : TypeId) (a b c : ByteArray) (w : World) : S2 TI 0 0 0 w ((w.alloc (.cells #[.string a, .string b, .string c] TL)).alloc (.cells #[.int .i64 0, .int .i64 0, .int .i64 0] TI)) := by
  have h : ((w.alloc (.cells #[.string a, .string b, .string c] TL)).alloc (.cells #[.int .i64 0, .int .i64 0, .int .i64 0] TI)).heap[(w.alloc (.cells #[.string a, .string b, .string c] TL)).heap.size]? = some (.cells #[.int .i64 0, .int .i64 0, .int .i64 0] TI (0, 0)) := heap_alloc_new _ _
  rw [World.size_alloc] at h
  exact ⟨h, ((Below.refl w.heap.size w).alloc (Nat.le_refl _) _).alloc (by simp) _⟩
theorem exat_new (W : World) (T : TypeId) (b : Bool) (d : ByteArray) : ExAt (W.alloc (.cells #[.bool b, .string d] T)) W.heap.size T b d := heap_alloc_new _ _
def slN : Value → Nat
  | .slice _ n _ => n
  | _ => 0
/-- is the i-th number beyond the end? -/
def bey2 (VF VB VT : Int) (i : Nat) : Bool := beyB (decide (VB < 0)) (Lib.compareInt (VF + (i : Int) * VB) VT)
/-- what Seq hands back, once its numbers are read -/
def SeqR (VF VB VT : Int) (pl sc : Nat) (e : Ending) : Prop :=
  (∃ out : List ByteArray, out.length ≤ 4096 ∧ StopAt (bey2 VF VB VT) out.length ∧ OutIs (fun i t => XT (VF + (i : Int) * VB) pl sc t) out ∧ e = .returned (.tuple #[.string (mkB (resL out)), .int .i64 0])) ∨
  ((∀ i, i ≤ 4096 → bey2 VF VB VT i = false) ∧ e = .returned (.tuple #[.string ⟨#[]⟩, .int .i64 2]))
theorem resL_bound {B : Nat} : ∀ l : List ByteArray, (∀ x ∈ l, x.size ≤ B) → (resL l).length ≤ l.length * (B + 1)
  | [], _ => by simp [resL]
  | x :: l, h => by
    have ih := resL_bound l (fun y hy => h y (List.mem_cons_of_mem _ hy))
    have h1 := h x List.mem_cons_self
    have h2 := len_size x
    have e : resL (x :: l) = resL [x] ++ resL l := resL_append [x] l
    have e1 : (resL [x]).length = x.size + 1 := by simp [resL]
    rw [e, List.length_append, e1, List.length_cons, Nat.succ_mul]
    omega
theorem exTx_size {b : Bool} {l : List UInt8} {pl sh : Nat} (hl : l.length ≤ 100) (hp : pl ≤ 100) : (exTx b l pl sh).size ≤ 300 := by
  have hP : (padL (pl + 1) l).length ≤ 101 := by unfold padL; rw [List.length_append, List.length_replicate]; omega
  unfold exTx
  rw [mkB_size, List.length_append, List.length_append]
  have h1 : (if b then [45] else ([] : List UInt8)).length ≤ 1 := by split <;> simp
  have h2 : ((padL (pl + 1) l).take ((padL (pl + 1) l).length - pl)).length ≤ 101 := by rw [List.length_take]; omega
  have h3 : (if 0 < sh then 46 :: (((padL (pl + 1) l).drop ((padL (pl + 1) l).length - pl)).take sh) else ([] : List UInt8)).length ≤ 102 := by
    split
    · rw [List.length_cons, List.length_take, List.length_drop]; omega
    · simp
  omega
theorem steps_bound {VF VB : Int} {k : Nat} (hF : VF.natAbs < 10 ^ 60) (hB : VB.natAbs < 10 ^ 60) (hk : k ≤ 5000) : (VF + (k : Int) * VB).natAbs < 10 ^ 100 := by
  have h1 := Int.natAbs_add_le VF ((k : Int) * VB)
  rw [Int.natAbs_mul, Int.natAbs_natCast] at h1
  have h2 : k * VB.natAbs ≤ 5000 * 10 ^ 60 := Nat.mul_le_mul hk (Nat.le_of_lt hB)
  have h3 : (10 : Nat) ^ 60 + 5000 * 10 ^ 60 < 10 ^ 100 := by decide
  omega
theorem out_size {VF VB : Int} {pl sc : Nat} {out : List ByteArray} (h : OutIs (fun i t => XT (VF + (i : Int) * VB) pl sc t) out) (hF : VF.natAbs < 10 ^ 60) (hB : VB.natAbs < 10 ^ 60) (hk : out.length ≤ 4096) (hp : pl ≤ 100) : ∀ x ∈ out, x.size ≤ 300 := by
  intro x hx
  obtain ⟨i, hi, rfl⟩ := List.getElem_of_mem hx
  obtain ⟨b, d, he, ht⟩ := h i hi
  rw [ht]
  refine exTx_size ?_ hp
  rw [len_size]
  exact he.size (steps_bound hF hB (by omega))
theorem dVal_bound {l : List UInt8} (h : dOk l = true) (hl : l.length ≤ 30) {n : Nat} (hn : n ≤ 30) : (dVal l * (10 : Int) ^ n).natAbs < 10 ^ 60 := by
  have hf : dForm l = true := by unfold dOk at h; rw [Bool.and_eq_true] at h; exact h.1
  have h1 := valL_lt _ (dForm_dig hf)
  have h2 := dParts_len l
  rw [List.length_append] at h1
  have h3 : (10 : Nat) ^ ((dWhole l).length + (dPart l).length) ≤ 10 ^ 30 := Nat.pow_le_pow_right (by omega) (by omega)
  have h4 : (dVal l).natAbs < 10 ^ 30 := by
    have e : (dVal l).natAbs = dMag l := by unfold dVal; split <;> simp
    rw [e]; unfold dMag; omega
  have h5 : (10 : Nat) ^ n ≤ 10 ^ 30 := Nat.pow_le_pow_right (by omega) hn
  rw [Int.natAbs_mul, ← ten_cast, Int.natAbs_natCast]
  have h6 : (dVal l).natAbs * 10 ^ n ≤ (dVal l).natAbs * 10 ^ 30 := Nat.mul_le_mul (Nat.le_refl _) h5
  have h7 : (dVal l).natAbs * 10 ^ 30 < 10 ^ 30 * 10 ^ 30 := Nat.mul_lt_mul_of_pos_right h4 (Nat.pow_pos (by omega))
  have h8 : (10 : Nat) ^ 30 * 10 ^ 30 = 10 ^ 60 := by rw [← Nat.pow_add]
  omega
/-- what the loop of Seq stands on -/
structure LEnv (TI TX : TypeId) (fA bA tA : Nat) (e : Bool) (d : ByteArray) (eb : Bool) (db : ByteArray) (et : Bool) (dt : ByteArray) (x0 x1 x2 : Nat) (w W : World) : Prop where
  s : S2 TI x0 x1 x2 w W
  f : ExAt W fA TX e d
  b : ExAt W bA TX eb db
  t : ExAt W tA TX et dt
  nf : w.heap.size + 1 < fA
  fb : fA < bA
  bt : bA < tA
section
variable {TI TX : TypeId} {fA bA tA : Nat} {e : Bool} {d : ByteArray} {eb : Bool} {db : ByteArray} {et : Bool} {dt : ByteArray} {x0 x1 x2 : Nat} {w W : World}
theorem LEnv.next {V w' : World} {M : Nat} (h : LEnv TI TX fA bA tA e d eb db et dt x0 x1 x2 w W) (hb : Below M V w') (e1 : V.heap = W.heap) (e2 : V.os = W.os) (e3 : V.tape = W.tape) (e4 : V.output = W.output) (hM : W.heap.size ≤ M) : LEnv TI TX fA bA tA e d eb db et dt x0 x1 x2 w w' :=
  ⟨h.s.next hb e1 e2 e3 e4 hM, (hb.block _ (Nat.lt_of_lt_of_le h.f.lt hM)).trans (by rw [e1]; exact h.f), (hb.block _ (Nat.lt_of_lt_of_le h.b.lt hM)).trans (by rw [e1]; exact h.b), (hb.block _ (Nat.lt_of_lt_of_le h.t.lt hM)).trans (by rw [e1]; exact h.t), h.nf, h.fb, h.bt⟩
theorem LEnv.setF (h : LEnv TI TX fA bA tA e d eb db et dt x0 x1 x2 w W) (e' : Bool) (d' : ByteArray) : LEnv TI TX fA bA tA e' d' eb db et dt x0 x1 x2 w ((W.setCell ⟨fA, 0, none⟩ (.bool e')).setCell ⟨fA, 1, none⟩ (.string d')) := by
  have h1 := h.nf
  have h2 := h.fb
  have h3 := h.bt
  refine ⟨⟨?_, (h.s.bel.setCell (by simp; omega) _).setCell (by simp; omega) _⟩, h.f.set e' d', ?_, ?_, h1, h2, h3⟩
  · rw [heap_other (by omega), heap_other (by omega)]; exact h.s.d
  · unfold ExAt; rw [heap_other (by omega), heap_other (by omega)]; exact h.b
  · unfold ExAt; rw [heap_other (by omega), heap_other (by omega)]; exact h.t
theorem LEnv.base {w' : World} {M : Nat} (h : LEnv TI TX fA bA tA e d eb db et dt x0 x1 x2 w W) (hb : Below M W w') (hM : tA < M) : LEnv TI TX fA bA tA e d eb db et dt x0 x1 x2 w w' := by
  have h1 := h.nf
  have h2 := h.fb
  have h3 := h.bt
  exact ⟨⟨(hb.block _ (by omega)).trans h.s.d, h.s.bel.trans (hb.mono (by omega))⟩, h.f.below hb (by omega), h.b.below hb (by omega), h.t.below hb hM, h1, h2, h3⟩
theorem own_set {w : World} {base : Nat} {t : TypeId} {v : Value} {l : List ByteArray} (h : OwnS t w base v l) {g j : Nat} (hg : g < base) (u : Value) : OwnS t (w.setCell ⟨g, j, none⟩ u) base v l := by
  unfold OwnS at h ⊢
  refine h.kept (row := some g) ⟨rfl, rfl, rfl, by simp, fun k _ hk => ?_⟩ ?_
  · exact heap_other (by intro e; exact hk (by rw [e]))
  · cases ho : v.ownBlock with
    | none => exact .inl rfl
    | some k => exact .inr (fun e => by have := (h.lt k ho).1; cases e; omega)
end
end Go.Pw
namespace Go.Proofs.YtoieicdnehnacaaGreatDoor
open Go.RowKit Go.Pw
set_option maxHeartbeats 8000000 in
set_option maxRecDepth 100000 in
theorem seqSmall_any (a b c : ByteArray) (w : World) (ha : a.size ≤ 30) (hb : b.size ≤ 30) (hc : c.size ≤ 30) :
    Calls Tryz.prog 8 #[.string a, .string b, .string c] w fun e w' => Below w.heap.size w w' ∧
      (((dOk a.data.toList && dOk b.data.toList && dOk c.data.toList) = false ∧ e = .returned (.tuple #[.string ⟨#[]⟩, .int .i64 1])) ∨
       ((dOk a.data.toList && dOk b.data.toList && dOk c.data.toList) = true ∧ ((dVal b.data.toList = 0 ∧ e = .returned (.tuple #[.string ⟨#[]⟩, .int .i64 10])) ∨ (dVal b.data.toList ≠ 0 ∧ SeqR (dVal a.data.toList * (10 : Int) ^ (max (max (dPart a.data.toList).length (dPart b.data.toList).length) (dPart c.data.toList).length - (dPart a.data.toList).length)) (dVal b.data.toList * (10 : Int) ^ (max (max (dPart a.data.toList).length (dPart b.data.toList).length) (dPart c.data.toList).length - (dPart b.data.toList).length)) (dVal c.data.toList * (10 : Int) ^ (max (max (dPart a.data.toList).length (dPart b.data.toList).length) (dPart c.data.toList).length - (dPart c.data.toList).length)) (max (max (dPart a.data.toList).length (dPart b.data.toList).length) (dPart c.data.toList).length) (max (dPart a.data.toList).length (dPart b.data.toList).length) e)))) := by
  have hai : ¬ (30 : Int) < (a.size : Int) := by omega
  have hbi : ¬ (30 : Int) < (b.size : Int) := by omega
  have hci : ¬ (30 : Int) < (c.size : Int) := by omega
  have i0 := run_idx3_0 a b c
  have i1 := run_idx3_1 a b c
  have i2 := run_idx3_2 a b c
  have HX0 := hide (fun V => exactOf_any a 0 V (by omega) (by omega))
  have HX1 := hide (fun V => exactOf_any b 0 V (by omega) (by omega))
  have HX2 := hide (fun V => exactOf_any c 0 V (by omega) (by omega))
  have hpa := dParts_len a.data.toList
  have hpb := dParts_len b.data.toList
  have hpc := dParts_len c.data.toList
  have hla := len_size a
  have hlb := len_size b
  have hlc := len_size c
  obtain ⟨pa, hea⟩ : ∃ k, (dPart a.data.toList).length = k := ⟨_, rfl⟩
  obtain ⟨pb, heb⟩ : ∃ k, (dPart b.data.toList).length = k := ⟨_, rfl⟩
  obtain ⟨pc, hec⟩ : ∃ k, (dPart c.data.toList).length = k := ⟨_, rfl⟩
  simp only [hea, heb, hec] at HX0 HX1 HX2
  have hpa30 : pa ≤ 30 := by omega
  have hpb30 : pb ≤ 30 := by omega
  have hpc30 : pc ≤ 30 := by omega
  obtain ⟨sc, hsc⟩ : ∃ k, max pa pb = k := ⟨_, rfl⟩
  obtain ⟨pl, hpl⟩ : ∃ k, max sc pc = k := ⟨_, rfl⟩
  have hm0 : max (0 : Int) (pa : Int) = (pa : Int) := by omega
  have hm1 : max (pa : Int) (pb : Int) = (sc : Int) := by omega
  have hm2 : max (sc : Int) (pc : Int) = (pl : Int) := by omega
  have hpl60 : pl ≤ 30 := by omega
  have HY0 := hide (fun V => exactOf_any a pl V (by omega) (by omega))
  have HY1 := hide (fun V => exactOf_any b pl V (by omega) (by omega))
  have HY2 := hide (fun V => exactOf_any c pl V (by omega) (by omega))
  simp only [hea, heb, hec] at HY0 HY1 HY2
  simp only [hea, heb, hec, hsc, hpl]
  have HVF := hide (fun h => dVal_bound (l := a.data.toList) h (by rw [hla]; exact ha) (n := pl - pa) (by omega))
  have HVB := hide (fun h => dVal_bound (l := b.data.toList) h (by rw [hlb]; exact hb) (n := pl - pb) (by omega))
  have HVT := hide (fun h => dVal_bound (l := c.data.toList) h (by rw [hlc]; exact hc) (n := pl - pc) (by omega))
  have HZB : Hid (dVal b.data.toList * (10 : Int) ^ (pl - pb) = 0 → dVal b.data.toList = 0) := hide (fun h1 => by
    rcases Int.mul_eq_zero.1 h1 with h | h
    · exact h
    · rw [← ten_cast] at h; have := pow_pos10 (pl - pb); omega)
  have HZB2 : Hid (dVal b.data.toList = 0 → dVal b.data.toList * (10 : Int) ^ (pl - pb) = 0) := hide (fun h => by rw [h, Int.zero_mul])
  obtain ⟨VF, hVF⟩ : ∃ V, dVal a.data.toList * (10 : Int) ^ (pl - pa) = V := ⟨_, rfl⟩
  obtain ⟨VB, hVB⟩ : ∃ V, dVal b.data.toList * (10 : Int) ^ (pl - pb) = V := ⟨_, rfl⟩
  obtain ⟨VT, hVT⟩ : ∃ V, dVal c.data.toList * (10 : Int) ^ (pl - pc) = V := ⟨_, rfl⟩
  rw [hVF] at HY0 HVF
  rw [hVB] at HY1 HVB HZB HZB2
  rw [hVT] at HY2 HVT
  rw [hVF, hVB, hVT]
  clear hVF hVB hVT
  have HS0 := hide (S2.start 60 61 a b c w)
  have Hea := hide hea
  have Heb := hide heb
  have Hec := hide hec
  have Hsc := hide hsc
  have Hpl := hide hpl
  clear hpa hpb hpc hla hlb hlc hea heb hec hsc hpl
  go_enter Tryz.func8, Tryz.ntmps8
  go_wp2_with fail
  go_loop [34] (fun i => i = .int .i64 0 ∨ i = .int .i64 1 ∨ i = .int .i64 2 ∨ i = .int .i64 3) (fun i => 3 - (intOf i).toNat)
  case atStart => exact .inl rfl
  case round =>
    rcases hrel with rfl | rfl | rfl | rfl
    · go_wp2_with fail
      go_round
      case rel => exact .inr (.inl rfl)
      case measure => simp [intOf]
    · go_wp2_with fail
      go_round
      case rel => exact .inr (.inr (.inl rfl))
      case measure => simp [intOf]
    · go_wp2_with fail
      go_round
      case rel => exact .inr (.inr (.inr rfl))
      case measure => simp [intOf]
    · go_wp2_with fail
      go_loopw [11, 42] (fun q i wr => (i = .int .i64 0 ∧ q = .int .i64 0 ∧ Hid (S2 61 0 0 0 w wr)) ∨ (i = .int .i64 1 ∧ q = .int .i64 (pa : Int) ∧ Hid (dOk a.data.toList = true) ∧ Hid (S2 61 pa 0 0 w wr)) ∨ (i = .int .i64 2 ∧ q = .int .i64 (sc : Int) ∧ Hid (dOk a.data.toList = true ∧ dOk b.data.toList = true) ∧ Hid (S2 61 pa pb 0 w wr)) ∨ (i = .int .i64 3 ∧ q = .int .i64 (pl : Int) ∧ Hid (dOk a.data.toList = true ∧ dOk b.data.toList = true ∧ dOk c.data.toList = true) ∧ Hid (S2 61 pa pb pc w wr))) (fun _ i _ => 3 - (intOf i).toNat)
      case atStart => exact .inl ⟨rfl, rfl, HS0⟩
      case round =>
        rcases hrel with ⟨rfl, rfl, HS⟩ | ⟨rfl, rfl, HK, HS⟩ | ⟨rfl, rfl, HK, HS⟩ | ⟨rfl, rfl, HK, HS⟩
        · skip
          obtain ⟨d0, d1, d2⟩ := HS.out.cells
          go_wp2_with fail
          refine (HX0.out _).mono ?_
          rintro e w4 ⟨hb4, ⟨hok, eb, ed, rfl, -⟩ | ⟨hok, rfl⟩⟩
          · have HS4 := hide (HS.out.next hb4 rfl rfl rfl rfl (Nat.le_refl _))
            have HK4 := hide hok
            clear hb4 hok d0 d1 d2
            have HS5 := hide (HS4.out.alloc (.cells #[.bool eb, .string ed] 63))
            obtain ⟨w5, hw5⟩ : ∃ w5, w4.alloc (.cells #[.bool eb, .string ed] 63) = w5 := ⟨_, rfl⟩
            rw [hw5] at HS5
            obtain ⟨d0, d1, d2⟩ := HS5.out.cells
            have f0 := HS5.out.frozen 0; have f1 := HS5.out.frozen 1; have f2 := HS5.out.frozen 2
            have HS6 := hide (HS5.out.set0 pa)
            rw [← hw5] at d0 d1 d2 f0 f1 f2 HS6
            clear hw5
            go_wp2_with fail
            go_roundw
            case rel => first | exact .inr (.inl ⟨rfl, rfl, HK4, HS6⟩) | ((repeat apply Exists.intro); exact ⟨.inr (.inl ⟨rfl, rfl, HK4, HS6⟩), rfl⟩)
            case measure => simp [intOf]
          · have HBZ := hide ((HS.out.next hb4 rfl rfl rfl rfl (Nat.le_refl _)).alloc (.cells #[.bool false, .string ⟨#[]⟩] 63)).bel
            have HNO : Hid ((dOk a.data.toList && dOk b.data.toList && dOk c.data.toList) = false) := hide (by simp [hok])
            clear hb4 hok
            go_wp2_with fail
            go_ret2
            exact ⟨HBZ.out, .inl ⟨HNO.out, rfl⟩⟩
        · skip
          obtain ⟨d0, d1, d2⟩ := HS.out.cells
          go_wp2_with fail
          refine (HX1.out _).mono ?_
          rintro e w4 ⟨hb4, ⟨hok, eb, ed, rfl, -⟩ | ⟨hok, rfl⟩⟩
          · have HS4 := hide (HS.out.next hb4 rfl rfl rfl rfl (Nat.le_refl _))
            have HK4 := hide (And.intro HK.out hok)
            clear hb4 hok d0 d1 d2
            have HS5 := hide (HS4.out.alloc (.cells #[.bool eb, .string ed] 63))
            obtain ⟨w5, hw5⟩ : ∃ w5, w4.alloc (.cells #[.bool eb, .string ed] 63) = w5 := ⟨_, rfl⟩
            rw [hw5] at HS5
            obtain ⟨d0, d1, d2⟩ := HS5.out.cells
            have f0 := HS5.out.frozen 0; have f1 := HS5.out.frozen 1; have f2 := HS5.out.frozen 2
            have HS6 := hide (HS5.out.set1 pb)
            rw [← hw5] at d0 d1 d2 f0 f1 f2 HS6
            clear hw5
            go_wp2_with fail
            go_roundw
            case rel => first | exact .inr (.inr (.inl ⟨rfl, rfl, HK4, HS6⟩)) | ((repeat apply Exists.intro); exact ⟨.inr (.inr (.inl ⟨rfl, rfl, HK4, HS6⟩)), rfl⟩)
            case measure => simp [intOf]
          · have HBZ := hide ((HS.out.next hb4 rfl rfl rfl rfl (Nat.le_refl _)).alloc (.cells #[.bool false, .string ⟨#[]⟩] 63)).bel
            have HNO : Hid ((dOk a.data.toList && dOk b.data.toList && dOk c.data.toList) = false) := hide (by simp [HK.out, hok])
            clear hb4 hok
            go_wp2_with fail
            go_ret2
            exact ⟨HBZ.out, .inl ⟨HNO.out, rfl⟩⟩
        · skip
          obtain ⟨d0, d1, d2⟩ := HS.out.cells
          go_wp2_with fail
          refine (HX2.out _).mono ?_
          rintro e w4 ⟨hb4, ⟨hok, eb, ed, rfl, -⟩ | ⟨hok, rfl⟩⟩
          · have HS4 := hide (HS.out.next hb4 rfl rfl rfl rfl (Nat.le_refl _))
            have HK4 := hide (And.intro HK.out.1 (And.intro HK.out.2 hok))
            clear hb4 hok d0 d1 d2
            have HS5 := hide (HS4.out.alloc (.cells #[.bool eb, .string ed] 63))
            obtain ⟨w5, hw5⟩ : ∃ w5, w4.alloc (.cells #[.bool eb, .string ed] 63) = w5 := ⟨_, rfl⟩
            rw [hw5] at HS5
            obtain ⟨d0, d1, d2⟩ := HS5.out.cells
            have f0 := HS5.out.frozen 0; have f1 := HS5.out.frozen 1; have f2 := HS5.out.frozen 2
            have HS6 := hide (HS5.out.set2 pc)
            rw [← hw5] at d0 d1 d2 f0 f1 f2 HS6
            clear hw5
            go_wp2_with fail
            go_roundw
            case rel => first | exact .inr (.inr (.inr ⟨rfl, rfl, HK4, HS6⟩)) | ((repeat apply Exists.intro); exact ⟨.inr (.inr (.inr ⟨rfl, rfl, HK4, HS6⟩)), rfl⟩)
            case measure => simp [intOf]
          · have HBZ := hide ((HS.out.next hb4 rfl rfl rfl rfl (Nat.le_refl _)).alloc (.cells #[.bool false, .string ⟨#[]⟩] 63)).bel
            have HNO : Hid ((dOk a.data.toList && dOk b.data.toList && dOk c.data.toList) = false) := hide (by simp [HK.out.1, HK.out.2, hok])
            clear hb4 hok
            go_wp2_with fail
            go_ret2
            exact ⟨HBZ.out, .inl ⟨HNO.out, rfl⟩⟩
        · have HAll : Hid ((dOk a.data.toList && dOk b.data.toList && dOk c.data.toList) = true) := hide (by simp [HK.out.1, HK.out.2.1, HK.out.2.2])
          go_wp2_with fail
          refine (HY0.out _).mono ?_
          rintro e w4 ⟨hbw4, ⟨-, ef, df, rfl, hxf⟩ | ⟨hok, -⟩⟩
          · have HXf := hide hxf
            have HSa := hide (HS.out.next hbw4 rfl rfl rfl rfl (Nat.le_refl _))
            have Hflt : Hid (w.heap.size + 1 < w4.heap.size) := hide HSa.out.lt
            have HS5 := hide (HSa.out.alloc (.cells #[.bool ef, .string df] 63))
            have Ef := hide (exat_new w4 63 ef df)
            have hbn := (Below.refl w4.heap.size w4).alloc (Nat.le_refl _) (.cells #[.bool ef, .string df] 63)
            obtain ⟨w5, hw5⟩ : ∃ w5, w4.alloc (.cells #[.bool ef, .string df] 63) = w5 := ⟨_, rfl⟩
            rw [hw5] at HS5 Ef
            have HWw5 := hide hw5
            clear hw5 hbw4 hxf HSa hbn
            go_wp2_with fail
            rw [HWw5.out]
            refine (HY1.out _).mono ?_
            rintro e w6 ⟨hbw6, ⟨-, eb, db, rfl, hxb⟩ | ⟨hok, -⟩⟩
            · have HXb := hide hxb
              have HSa := hide (HS5.out.next hbw6 rfl rfl rfl rfl (Nat.le_refl _))
              have Hblt : Hid (w.heap.size + 1 < w6.heap.size) := hide HSa.out.lt
              have HS7 := hide (HSa.out.alloc (.cells #[.bool eb, .string db] 63))
              have Eb := hide (exat_new w6 63 eb db)
              have hbn := (Below.refl w6.heap.size w6).alloc (Nat.le_refl _) (.cells #[.bool eb, .string db] 63)
              have Ef := hide (Ef.out.below hbw6 Ef.out.lt)
              have Hfb : Hid (w4.heap.size < w6.heap.size) := hide Ef.out.lt
              have Ef := hide (Ef.out.below hbn Ef.out.lt)
              obtain ⟨w7, hw7⟩ : ∃ w7, w6.alloc (.cells #[.bool eb, .string db] 63) = w7 := ⟨_, rfl⟩
              rw [hw7] at HS7 Ef Eb
              have HWw7 := hide hw7
              clear hw7 hbw6 hxb HSa hbn
              go_wp2_with fail
              rw [HWw7.out]
              refine (HY2.out _).mono ?_
              rintro e w8 ⟨hbw8, ⟨-, et, dt, rfl, hxt⟩ | ⟨hok, -⟩⟩
              · have HXt := hide hxt
                have HSa := hide (HS7.out.next hbw8 rfl rfl rfl rfl (Nat.le_refl _))
                have Htlt : Hid (w.heap.size + 1 < w8.heap.size) := hide HSa.out.lt
                have HS9 := hide (HSa.out.alloc (.cells #[.bool et, .string dt] 63))
                have Et := hide (exat_new w8 63 et dt)
                have hbn := (Below.refl w8.heap.size w8).alloc (Nat.le_refl _) (.cells #[.bool et, .string dt] 63)
                have Ef := hide (Ef.out.below hbw8 Ef.out.lt)
                have Hft : Hid (w4.heap.size < w8.heap.size) := hide Ef.out.lt
                have Ef := hide (Ef.out.below hbn Ef.out.lt)
                have Eb := hide (Eb.out.below hbw8 Eb.out.lt)
                have Hbt : Hid (w6.heap.size < w8.heap.size) := hide Eb.out.lt
                have Eb := hide (Eb.out.below hbn Eb.out.lt)
                obtain ⟨w9, hw9⟩ : ∃ w9, w8.alloc (.cells #[.bool et, .string dt] 63) = w9 := ⟨_, rfl⟩
                rw [hw9] at HS9 Ef Eb Et
                have HWw9 := hide hw9
                clear hw9 hbw8 hxt HSa hbn
                have LE : Hid (LEnv 61 63 w4.heap.size w6.heap.size w8.heap.size ef df eb db et dt pa pb pc w w9) := hide ⟨HS9.out, Ef.out, Eb.out, Et.out, Hflt.out, Hfb.out, Hbt.out⟩
                obtain ⟨y0, y1⟩ := Eb.out.cells
                rw [← HWw9.out] at y0 y1
                by_cases h0 : 0 < db.size
                · have he := isEmpty_of h0
                  go_wp2_with fail
                  rw [HWw9.out]
                  have HVF := hide (HVF.out HK.out.1)
                  have HVB := hide (HVB.out HK.out.2.1)
                  have HVT := hide (HVT.out HK.out.2.2)
                  have HNZ : Hid (dVal b.data.toList ≠ 0) := hide (fun h => by have := HXb.out.zero.2 (HZB2.out h); omega)
                  have hpbt : VT.natAbs < 10 ^ 100 := Nat.lt_trans HVT.out (by decide)
                  have hpbb : VB.natAbs < 10 ^ 100 := Nat.lt_trans HVB.out (by decide)
                  have hzt : dt.size ≤ 100 := HXt.out.size hpbt
                  have hzb : db.size ≤ 100 := HXb.out.size hpbb
                  have Hnb := hide HXb.out.neg
                  have HtN : Hid (w8.heap.size < w9.heap.size) := hide Et.out.lt
                  have HN9 : Hid (w9.heap.size = w8.heap.size + 1) := hide (by rw [← HWw9.out]; simp)
                  have hscpl : sc ≤ pl := by omega
                  clear hpbt hpbb HS HS5 HS7 HS9 Ef Eb Et HK h0 y0 y1
                  go_loopw [28] (fun v wq => ∃ (out : List ByteArray) (e : Bool) (d : ByteArray), out.length ≤ 4096 ∧ Hid (OwnS 9 wq w9.heap.size v out) ∧ Hid (LEnv 61 63 w4.heap.size w6.heap.size w8.heap.size e d eb db et dt pa pb pc w wq) ∧ Hid (ExI (VF + (out.length : Int) * VB) e d) ∧ Hid (OutIs (fun i t => XT (VF + (i : Int) * VB) pl sc t) out) ∧ Hid (∀ i, i < out.length → bey2 VF VB VT i = false)) (fun v _ => 4097 - slN v)
                  case atStart => exact ⟨[], ef, df, by simp, hide (World.ownsRow_nil _ _ _ _), LE, hide (by simpa using HXf.out), hide (OutIs.nil _), hide (fun i h => by simp at h)⟩
                  case round =>
                    clear LE
                    obtain ⟨out, e, d, hk, HO, LE, HX, HG, HN⟩ := hrel
                    obtain ⟨OA, oc, rfl⟩ := own_slice HO.out
                    have hzd : d.size ≤ 100 := HX.out.size (steps_bound HVF.out HVB.out (by omega))
                    obtain ⟨q0, q1⟩ := LE.out.f.cells
                    go_wp2_with fail
                    refine (beyond_any (VF + (out.length : Int) * VB) VT e eb et d db dt w6.heap.size w8.heap.size wr HX.out HXt.out hzd hzt LE.out.b LE.out.t).mono ?_
                    rintro e1 w10 ⟨rfl, hb10⟩
                    have LE10 := hide (LE.out.next hb10 rfl rfl rfl rfl (Nat.le_refl _))
                    have HO10 : Hid (OwnS 9 w10 w9.heap.size (.slice OA out.length oc) out) := hide (own_below HO.out hb10)
                    have HBY : Hid (beyB eb (Lib.compareInt (VF + (out.length : Int) * VB) VT) = bey2 VF VB VT out.length) := hide (by unfold bey2; rw [← Hnb.out])
                    rw [HBY.out]
                    clear hb10 q0 q1
                    cases hbey : bey2 VF VB VT out.length
                    · by_cases hmax : out.length = 4096
                      · have hm4 : ((out.length : Int) == 4096) = true := by rw [hmax]; rfl
                        have HR : Hid (∀ i, i ≤ 4096 → bey2 VF VB VT i = false) := hide (fun i hi => by
                          rcases Nat.lt_or_ge i out.length with h | h
                          · exact HN.out i h
                          · rw [show i = out.length by omega]; exact hbey)
                        clear hbey hmax
                        go_wp2_with fail
                        go_ret2
                        exact ⟨LE10.out.s.bel, .inr ⟨HAll.out, .inr ⟨HNZ.out, .inr ⟨HR.out, rfl⟩⟩⟩⟩
                      · have hm4 : ((out.length : Int) == 4096) = false := by simp; omega
                        obtain ⟨q0, q1⟩ := LE10.out.f.cells
                        obtain ⟨d0, d1, d2⟩ := LE10.out.s.cells
                        have HTX := hide (fun V => exText_any (VF + (out.length : Int) * VB) e d pl sc V HX.out.canon hzd (by omega) hscpl)
                        have HNb := hide hbey
                        clear hbey
                        go_wp2_with fail
                        refine (HTX.out _).mono ?_
                        rintro e2 w11 ⟨rfl, hb11⟩
                        obtain ⟨y, hy⟩ : ∃ y, exTx e d.data.toList pl sc = y := ⟨_, rfl⟩
                        have HG2 := hide (HG.out.push (t := y) ⟨e, d, HX.out, hy.symm⟩)
                        have HN2 : Hid (∀ i, i < (out ++ [y]).length → bey2 VF VB VT i = false) := hide (fun i hi => by
                          rw [List.length_append] at hi
                          rcases Nat.lt_or_ge i out.length with h | h
                          · exact HN.out i h
                          · have : i = out.length := by simp at hi; omega
                            rw [this]; exact HNb.out)
                        have HL2 : Hid ((out ++ [y]).length ≤ 4096) := hide (by rw [List.length_append]; simp; omega)
                        rw [hy]
                        have LE11 := hide (LE10.out.next hb11 rfl rfl rfl rfl (Nat.le_refl _))
                        have HO11 : Hid (OwnS 9 w11 w9.heap.size (.slice OA out.length oc) out) := hide (own_below HO10.out hb11)
                        have hzz : w9.heap.size ≤ w11.heap.size := by have h1 := LE11.out.t.lt; have h2 := HN9.out; omega
                        have HDL : Hid (out.length ≤ 1000000000) := hide (by omega)
                        clear hb11 hy q0 q1 d0 d1 d2
                        go_wp2_with (at_builtin; refine wpList_app_one rfl _ _ rfl w9.heap.size _ _ rfl HO11.out rfl HDL.out hzz ?_)
                        intro A2 c2 w12 ho12 hb12
                        have HO12 := hide ho12
                        have LE12 := hide (LE11.out.base hb12 HtN.out)
                        clear ho12 hb12
                        obtain ⟨q0, q1⟩ := LE12.out.f.cells
                        obtain ⟨r0, r1⟩ := LE12.out.b.cells
                        go_wp2_with fail
                        refine (exAdd_any _ _ _ _ _ _ _ HX.out HXb.out hzd hzb).mono ?_
                        rintro e3 w13 ⟨⟨e', d', rfl, hx'⟩, hb13⟩
                        have LE13 := hide (LE12.out.next hb13 rfl rfl rfl rfl (Nat.le_refl _))
                        have HO13 : Hid (OwnS 9 w13 w9.heap.size (.slice A2 (out.length + 1) c2) (out ++ [y])) := hide (own_below HO12.out hb13)
                        have HX13 : Hid (ExI (VF + ((out ++ [y]).length : Int) * VB) e' d') := hide (by
                          have e5 : VF + ((out ++ [y]).length : Int) * VB = VF + (out.length : Int) * VB + VB := by
                            rw [List.length_append, show ((out.length + [y].length : Nat) : Int) = (out.length : Int) + 1 by simp, Int.add_mul, Int.one_mul]; omega
                          rw [e5]; exact hx')
                        clear hb13 hx' q0 q1 r0 r1
                        obtain ⟨q0, q1⟩ := LE13.out.f.cells
                        have g0 := LE13.out.f.frozen 0
                        have g1 := LE13.out.f.frozen 1
                        have LE14 := hide (LE13.out.setF e' d')
                        have HfN : Hid (w4.heap.size < w9.heap.size) := hide (by have h1 := LE13.out.fb; have h2 := LE13.out.bt; have h3 := HtN.out; omega)
                        have HO14 := hide (own_set (j := 1) (own_set (j := 0) HO13.out HfN.out (.bool e')) HfN.out (.string d'))
                        go_wp2_with fail
                        go_roundw
                        case rel => first | exact ⟨out ++ [y], e', d', HL2.out, HO14, LE14, HX13, HG2, HN2⟩ | ((repeat apply Exists.intro); exact ⟨⟨out ++ [y], e', d', HL2.out, HO14, LE14, HX13, HG2, HN2⟩, rfl⟩)
                        case measure => simp [slN]; omega
                    · have HST : Hid (StopAt (bey2 VF VB VT) out.length) := hide ⟨hbey, HN.out⟩
                      clear hbey
                      have HSZ := hide (out_size HG.out HVF.out HVB.out hk (by omega))
                      go_wp2_with fail
                      refine (result_any _ out w10 (OwnS.strs HO10.out (fun x hx => by have := HSZ.out x hx; unfold maxLen; omega)) (by have h1 := resL_bound out HSZ.out; have h2 : out.length * (300 + 1) ≤ 4096 * (300 + 1) := Nat.mul_le_mul hk (Nat.le_refl _); omega)).mono ?_
                      rintro e2 w11 ⟨rfl, hb11⟩
                      have HBZ := hide ((LE10.out.next hb11 rfl rfl rfl rfl (Nat.le_refl _)).s.bel)
                      clear hb11
                      go_wp2_with fail
                      go_ret2
                      exact ⟨HBZ.out, .inr ⟨HAll.out, .inr ⟨HNZ.out, .inl ⟨out, hk, HST.out, HG.out, rfl⟩⟩⟩⟩
                · obtain rfl := empty_of (s := db) (by omega)
                  have HZ : Hid (dVal b.data.toList = 0) := hide (HZB.out (HXb.out.zero.1 rfl))
                  go_wp2_with fail
                  go_ret2
                  refine ⟨?_, .inr ⟨HAll.out, .inl ⟨HZ.out, rfl⟩⟩⟩
                  first | exact LE.out.s.bel | (rw [HWw9.out]; exact LE.out.s.bel)
              · rw [HK.out.2.2] at hok; cases hok
            · rw [HK.out.2.1] at hok; cases hok
          · rw [HK.out.1] at hok; cases hok
end Go.Proofs.YtoieicdnehnacaaGreatDoor
