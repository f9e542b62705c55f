/- Printf: the program's sign. -/
import Derived.Test.YtifpmigghplmoaaGreatDoorZPfE
import Derived.Deep.AppendLies
import Derived.Deep.WholeRow
import Derived.Test.YtifpmigghplmoaaGreatDoorZPrI
import Derived.Test.YtifpmigghplmoaaGreatDoorZPfQ
import Derived.Test.YtifpmigghplmoaaGreatDoorZPrD
/- PfH -/
set_option linter.unusedVariables false
set_option linter.unusedSimpArgs false
namespace Go.Pw
open Go.RowKit
/-- what stands ahead of the digits of a number -/
def signP (d : Dv) (n : Int) : List UInt8 :=
  if d.lt = 100 ∨ d.lt = 105 then (if n < 0 then [45] else if 43 ∈ d.fl then [43] else if 32 ∈ d.fl then [32] else [])
  else if 35 ∈ d.fl ∧ ¬ n = 0 ∧ (d.lt = 120 ∨ d.lt = 88) then [48, d.lt] else []
theorem u8_eqN (c : UInt8) (n : Nat) (hn : n < 256 := by decide) : ((c.toNat : Int) == (n : Int)) = decide (c = UInt8.ofNat n) := by
  by_cases h : c = UInt8.ofNat n
  · rw [decide_eq_true h, h]
    simp; omega
  · rw [decide_eq_false h]
    have : c.toNat ≠ n := fun e => h (by rw [← e]; simp)
    simp; omega
theorem app_two (a b : UInt8) : (⟨#[a]⟩ : ByteArray) ++ ⟨#[b]⟩ = mkB [a, b] := by
  rw [← mkB_list ((⟨#[a]⟩ : ByteArray) ++ ⟨#[b]⟩)]; simp
end Go.Pw
namespace Go.Proofs.YtifpmigghplmoaaGreatDoor
open Go.RowKit Go.Pw Go.Shelf
set_option maxHeartbeats 8000000 in
set_option maxRecDepth 100000 in
theorem sign_in (d : Dv) (n : Int) (w : World) (hd : d.lt = 100 ∨ d.lt = 105) :
    Calls Tryz.prog 83 #[dvV d, .int .i64 n] w fun e w' => e = .returned (.string (mkB (signP d n))) ∧ Below w.heap.size w w' := by
  have H43 := hide (fun W => has_any d 43 W)
  have H32 := hide (fun W => has_any d 32 W)
  have HV : Hid (signP d n = if n < 0 then [45] else if 43 ∈ d.fl then [43] else if 32 ∈ d.fl then [32] else []) := hide (by unfold signP; rw [if_pos hd])
  have HR0 : Hid (DvRow 89 w.heap.size d (w.alloc (.cells (dvC d) 89))) := hide (heap_alloc_new w _)
  have HB0 := hide ((Below.refl w.heap.size w).alloc (Nat.le_refl _) (.cells (dvC d) 89))
  have hdd : ((d.lt.toNat : Int) == 100) = true ∨ (((d.lt.toNat : Int) == 100) = false ∧ ((d.lt.toNat : Int) == 105) = true) := by
    rcases hd with h | h
    · exact .inl (by rw [h]; rfl)
    · exact .inr ⟨by rw [h]; rfl, by rw [h]; rfl⟩
  clear hd
  unfold dvV dvC at *
  go_enter Tryz.func83, Tryz.ntmps83
  rcases hdd with f1 | ⟨f1, f2⟩
  all_goals
    by_cases hn : n < 0
    · have HV2 := hide (HV.out.trans (if_pos hn))
      go_wp2_with fail
      go_ret
      exact ⟨by rw [HV2.out]; rfl, HB0.out⟩
    · have HV2 := hide (HV.out.trans (if_neg hn))
      go_wp2_with fail
      refine (H43.out _).mono ?_
      rintro e w2 ⟨rfl, hb⟩
      have R := hide (HR0.out.keep hb)
      have HB2 := hide (HB0.out.trans (hb.mono HB0.out.size))
      clear hb
      by_cases h43 : 43 ∈ d.fl
      · have HV3 := hide (HV2.out.trans (if_pos h43))
        rw [decide_eq_true h43]
        clear h43
        go_wp2_with fail
        go_ret
        exact ⟨by rw [HV3.out]; rfl, HB2.out⟩
      · have HV3 := hide (HV2.out.trans (if_neg h43))
        rw [decide_eq_false h43]
        clear h43
        obtain ⟨⟨y0, y1, y2⟩, y3, y4, y5⟩ := R.out.cells
        go_wp2_with fail
        refine (H32.out _).mono ?_
        rintro e w3 ⟨rfl, hb⟩
        have HB3 := hide (HB2.out.trans (hb.mono HB2.out.size))
        clear hb y0 y1 y2 y3 y4 y5
        by_cases h32 : 32 ∈ d.fl
        · have HV4 := hide (HV3.out.trans (if_pos h32))
          rw [decide_eq_true h32]
          clear h32
          go_wp2_with fail
          go_ret
          exact ⟨by rw [HV4.out]; rfl, HB3.out⟩
        · have HV4 := hide (HV3.out.trans (if_neg h32))
          rw [decide_eq_false h32]
          clear h32
          go_wp2_with fail
          go_ret
          exact ⟨by rw [HV4.out]; rfl, HB3.out⟩
set_option maxHeartbeats 8000000 in
set_option maxRecDepth 100000 in
theorem sign_out (d : Dv) (n : Int) (w : World) (hd : ¬ (d.lt = 100 ∨ d.lt = 105)) :
    Calls Tryz.prog 83 #[dvV d, .int .i64 n] w fun e w' => e = .returned (.string (mkB (signP d n))) ∧ Below w.heap.size w w' := by
  have H35 := hide (fun W => has_any d 35 W)
  have HV : Hid (signP d n = if 35 ∈ d.fl ∧ ¬ n = 0 ∧ (d.lt = 120 ∨ d.lt = 88) then [48, d.lt] else []) := hide (by unfold signP; rw [if_neg hd])
  have HR0 : Hid (DvRow 89 w.heap.size d (w.alloc (.cells (dvC d) 89))) := hide (heap_alloc_new w _)
  have HB0 := hide ((Below.refl w.heap.size w).alloc (Nat.le_refl _) (.cells (dvC d) 89))
  have f1 : ((d.lt.toNat : Int) == 100) = false := (u8_eqN d.lt 100).trans (decide_eq_false (fun e => hd (.inl e)))
  have f2 : ((d.lt.toNat : Int) == 105) = false := (u8_eqN d.lt 105).trans (decide_eq_false (fun e => hd (.inr e)))
  have f3 := u8_eqN d.lt 120
  have f4 := u8_eqN d.lt 88
  have HT := hide (app_two 48 d.lt)
  clear hd
  unfold dvV dvC at *
  go_enter Tryz.func83, Tryz.ntmps83
  go_wp2_with fail
  refine (H35.out _).mono ?_
  rintro e w2 ⟨rfl, hb⟩
  have R := hide (HR0.out.keep hb)
  have HB2 := hide (HB0.out.trans (hb.mono HB0.out.size))
  clear hb
  by_cases h35 : 35 ∈ d.fl
  · rw [decide_eq_true h35]
    by_cases hn : n = 0
    · have HV2 := hide (HV.out.trans (if_neg (fun h => h.2.1 hn)))
      subst hn
      clear h35
      go_wp2_with fail
      go_ret
      exact ⟨by rw [HV2.out]; rfl, HB2.out⟩
    · have e0 : (n == 0) = false := by simpa using hn
      have e1 : (n != 0) = true := by simpa using hn
      obtain ⟨⟨y0, y1, y2⟩, y3, y4, y5⟩ := R.out.cells
      by_cases h : d.lt = 120 ∨ d.lt = 88
      · have HV2 := hide (HV.out.trans (if_pos ⟨h35, hn, h⟩))
        have g : ((d.lt.toNat : Int) == 120) = true ∨ (((d.lt.toNat : Int) == 120) = false ∧ ((d.lt.toNat : Int) == 88) = true) := by
          rcases h with h | h
          · exact .inl (by rw [h]; rfl)
          · exact .inr ⟨by rw [h]; rfl, by rw [h]; rfl⟩
        have h1 := one_string w2 d.lt
        have HBE := hide (HB2.out.alloc HB2.out.size (.cells #[.int .u8 (d.lt.toNat : Int)] 5))
        clear h35 h f3 f4
        rcases g with g1 | ⟨g1, g2⟩
        all_goals
          go_wp2_with fail
          go_ret
          exact ⟨by rw [HV2.out, HT.out]; rfl, HBE.out⟩
      · have HV2 := hide (HV.out.trans (if_neg (fun x => h x.2.2)))
        have g3 : ((d.lt.toNat : Int) == 120) = false := f3.trans (decide_eq_false (fun e => h (.inl e)))
        have g4 : ((d.lt.toNat : Int) == 88) = false := f4.trans (decide_eq_false (fun e => h (.inr e)))
        clear h35 h f3 f4
        go_wp2_with fail
        go_ret
        exact ⟨by rw [HV2.out]; rfl, HB2.out⟩
  · have HV2 := hide (HV.out.trans (if_neg (fun x => h35 x.1)))
    rw [decide_eq_false h35]
    clear h35
    go_wp2_with fail
    go_ret
    exact ⟨by rw [HV2.out]; rfl, HB2.out⟩
theorem sign_any (d : Dv) (n : Int) (w : World) :
    Calls Tryz.prog 83 #[dvV d, .int .i64 n] w fun e w' => e = .returned (.string (mkB (signP d n))) ∧ Below w.heap.size w w' := by
  by_cases hd : d.lt = 100 ∨ d.lt = 105
  · exact sign_in d n w hd
  · exact sign_out d n w hd
end Go.Proofs.YtifpmigghplmoaaGreatDoor

/- PfF -/
set_option linter.unusedVariables false
set_option linter.unusedSimpArgs false
namespace Go.Pw
open Go.RowKit
theorem flR_len : ∀ (l acc fl r : List UInt8), flR acc l = some (fl, r) → r.length ≤ l.length
  | [], acc, fl, r, h => by
    rw [flR] at h
    obtain ⟨-, rfl⟩ := Prod.mk.inj (Option.some.inj h)
    exact Nat.le_refl _
  | c :: l, acc, fl, r, h => by
    rw [flR] at h
    by_cases hm : c ∈ flagL
    · rw [if_pos hm] at h
      by_cases ha : c ∈ acc
      · rw [if_pos ha] at h; cases h
      · rw [if_neg ha] at h
        have := flR_len l _ _ _ h
        simp; omega
    · rw [if_neg hm] at h
      obtain ⟨-, rfl⟩ := Prod.mk.inj (Option.some.inj h)
      exact Nat.le_refl _
theorem finD_len {fl : List UInt8} {wd : Nat} {dot : Bool} {pr : Nat} {l : List UInt8} {d : Dv} {r : List UInt8} (h : finD fl wd dot pr l = some (d, r)) : r.length ≤ l.length := by
  cases l with
  | nil => cases h
  | cons c q =>
    rw [finD] at h
    by_cases hm : c ∈ letL
    · rw [if_pos hm] at h
      obtain ⟨-, rfl⟩ := Prod.mk.inj (Option.some.inj h)
      simp
    · rw [if_neg hm] at h; cases h
theorem dirB_dirC (fl l : List UInt8) : dirB fl l = dirC fl (valL (l.take (dgK l))) (l.drop (dgK l)) := rfl
theorem rdP_len {l : List UInt8} {d : Dv} {r : List UInt8} (h : rdP l = some (d, r)) : r.length ≤ l.length := by
  by_cases hp : ∃ q, l = 37 :: q
  · obtain ⟨q, rfl⟩ := hp
    have h2 : some ((⟨[37], [], 0, false, 0, 0⟩ : Dv), q) = some (d, r) := h
    obtain ⟨-, rfl⟩ := Prod.mk.inj (Option.some.inj h2)
    simp
  · rw [rdP_dir (fun q e => hp ⟨q, e⟩)] at h
    cases hf : flR [] l with
    | none => rw [hf] at h; cases h
    | some x =>
      obtain ⟨fl, l1⟩ := x
      rw [hf] at h
      simp only at h
      have h1 := flR_len _ _ _ _ hf
      rw [dirB_dirC, dirC_eq] at h
      have h2 := finD_len h
      by_cases hd : ((l1.drop (dgK l1)).headD 0 == 46) = true
      · rw [if_pos hd] at h2
        simp only [List.length_drop] at h2; omega
      · rw [if_neg hd] at h2
        simp only [List.length_drop] at h2; omega
def txD (c : UInt8) : Dv := ⟨[c], [], 0, false, 0, 0⟩
/-- the parts of a format -/
def pfF : Nat → List UInt8 → Option (List Dv)
  | 0, _ => some []
  | _ + 1, [] => some []
  | n + 1, c :: r =>
    if c = 37 then (match rdP r with | none => none | some (d, q) => (pfF n q).map (d :: ·)) else
    if c = 92 then (match escP r with | none => none | some (x, k) => (pfF n (r.drop k)).map (txD x :: ·)) else
    (pfF n r).map (txD c :: ·)
theorem pfF_nil (n : Nat) : pfF n [] = some [] := by cases n <;> rfl
theorem pfF_fuel : ∀ (n m : Nat) (l : List UInt8), l.length ≤ n → l.length ≤ m → pfF n l = pfF m l
  | 0, m, l, h, _ => by
    obtain rfl := List.eq_nil_of_length_eq_zero (Nat.le_zero.1 h)
    rw [pfF_nil, pfF_nil]
  | n + 1, m, [], _, _ => by rw [pfF_nil, pfF_nil]
  | n + 1, 0, c :: r, _, h => by simp at h
  | n + 1, m + 1, c :: r, h1, h2 => by
    simp only [List.length_cons] at h1 h2
    rw [pfF, pfF]
    by_cases c1 : c = 37
    · rw [if_pos c1, if_pos c1]
      cases hr : rdP r with
      | none => rfl
      | some x =>
        obtain ⟨d, q⟩ := x
        have := rdP_len hr
        simp only
        rw [pfF_fuel n m q (by omega) (by omega)]
    · rw [if_neg c1, if_neg c1]
      by_cases c2 : c = 92
      · rw [if_pos c2, if_pos c2]
        cases he : escP r with
        | none => rfl
        | some x =>
          obtain ⟨y, k⟩ := x
          simp only
          rw [pfF_fuel n m (r.drop k) (by rw [List.length_drop]; omega) (by rw [List.length_drop]; omega)]
      · rw [if_neg c2, if_neg c2, pfF_fuel n m r (by omega) (by omega)]
def pfP (l : List UInt8) : Option (List Dv) := pfF l.length l
theorem pfP_pct {r q : List UInt8} {d : Dv} (h : rdP r = some (d, q)) : pfP (37 :: r) = (pfP q).map (d :: ·) := by
  have := rdP_len h
  unfold pfP
  rw [List.length_cons, pfF, if_pos rfl, h]
  simp only
  rw [pfF_fuel r.length q.length q (by omega) (Nat.le_refl _)]
theorem pfP_pct_no {r : List UInt8} (h : rdP r = none) : pfP (37 :: r) = none := by
  unfold pfP
  rw [List.length_cons, pfF, if_pos rfl, h]
theorem pfP_esc {r : List UInt8} {x : UInt8} {k : Nat} (h : escP r = some (x, k)) : pfP (92 :: r) = (pfP (r.drop k)).map (txD x :: ·) := by
  unfold pfP
  rw [List.length_cons, pfF, if_neg (by decide), if_pos rfl, h]
  simp only
  rw [pfF_fuel r.length (r.drop k).length (r.drop k) (by rw [List.length_drop]; omega) (Nat.le_refl _)]
theorem pfP_esc_no {r : List UInt8} (h : escP r = none) : pfP (92 :: r) = none := by
  unfold pfP
  rw [List.length_cons, pfF, if_neg (by decide), if_pos rfl, h]
theorem pfP_txt {c : UInt8} {r : List UInt8} (h1 : c ≠ 37) (h2 : c ≠ 92) : pfP (c :: r) = (pfP r).map (txD c :: ·) := by
  unfold pfP
  rw [List.length_cons, pfF, if_neg h1, if_neg h2]
/-- where the reading of a format stands -/
def PfAt (bs l : List UInt8) (ds : List Dv) : Prop := ds.length + l.length ≤ bs.length ∧ pfP bs = (pfP l).map (ds ++ ·)
theorem PfAt.start (bs : List UInt8) : PfAt bs bs [] := ⟨by simp, by cases pfP bs <;> simp⟩
theorem PfAt.step {bs l q : List UInt8} {ds : List Dv} {d : Dv} (h : PfAt bs l ds) (hl : q.length + 1 ≤ l.length) (e : pfP l = (pfP q).map (d :: ·)) : PfAt bs q (ds ++ [d]) := by
  obtain ⟨h1, h2⟩ := h
  refine ⟨by rw [List.length_append, List.length_singleton]; omega, ?_⟩
  rw [h2, e]
  cases pfP q <;> simp
theorem PfAt.no {bs l : List UInt8} {ds : List Dv} (h : PfAt bs l ds) (e : pfP l = none) : pfP bs = none := by rw [h.2, e]; rfl
theorem PfAt.done {bs : List UInt8} {ds : List Dv} (h : PfAt bs [] ds) : pfP bs = some ds := by
  rw [h.2]
  show (pfF 0 []).map _ = _
  simp [pfF]
theorem escP_k {r : List UInt8} {x : UInt8} {k : Nat} (h : escP r = some (x, k)) : k ≤ r.length ∧ 1 ≤ k := by
  have oc : ∀ (n v : Nat) (l : List UInt8), (octR n v l).2 ≤ l.length := by
    intro n
    induction n with
    | zero => intro v l; simp [octR]
    | succ n ih =>
      intro v l
      cases l with
      | nil => simp [octR]
      | cons c l =>
        rw [octR]
        by_cases hc : isOc c = true
        · rw [if_pos hc]; have := ih (8 * v + (c.toNat - 48)) l; simp; omega
        · rw [if_neg hc]; simp
  have hx : ∀ (n v : Nat) (l : List UInt8), (hexR n v l).2 ≤ l.length := by
    intro n
    induction n with
    | zero => intro v l; simp [hexR]
    | succ n ih =>
      intro v l
      cases l with
      | nil => simp [hexR]
      | cons c l =>
        rw [hexR]
        cases hexV c with
        | none => simp
        | some d => have := ih (16 * v + d) l; simp; omega
  cases r with
  | nil => cases h
  | cons c l =>
    rw [escP] at h
    by_cases h1 : c ∈ escFrom
    · rw [if_pos h1] at h
      obtain ⟨-, rfl⟩ := Prod.mk.inj (Option.some.inj h)
      simp
    · rw [if_neg h1] at h
      by_cases h2 : 0 < (octR 3 0 (c :: l)).2
      · rw [if_pos h2] at h
        obtain ⟨-, rfl⟩ := Prod.mk.inj (Option.some.inj h)
        exact ⟨oc _ _ _, h2⟩
      · rw [if_neg h2] at h
        by_cases h3 : c = 120
        · rw [if_pos h3] at h
          by_cases h4 : 0 < (hexR 2 0 l).2
          · rw [if_pos h4] at h
            obtain ⟨-, rfl⟩ := Prod.mk.inj (Option.some.inj h)
            have := hx 2 0 l
            simp; omega
          · rw [if_neg h4] at h; cases h
        · rw [if_neg h3] at h; cases h
theorem szOf2_mkB (l : List UInt8) : szOf2 (.string (mkB l)) = l.length := by
  show (mkB l).size = _
  unfold mkB
  show l.toArray.size = _
  simp
theorem u8_neN {c : UInt8} {n : Nat} (h : ¬ c = UInt8.ofNat n) (hn : n < 256 := by decide) : ((c.toNat : Int) == (n : Int)) = false := by
  have : c.toNat ≠ n := fun e => h (by rw [← e]; simp)
  simp; omega
def dsC (ds : List Dv) : List Value := ds.flatMap fun d => (dvC d).toList
theorem dsC_snoc (ds : List Dv) (d : Dv) : dsC (ds ++ [d]) = dsC ds ++ (dvC d).toList := by
  unfold dsC; rw [List.flatMap_append]; simp
end Go.Pw
namespace Go.Proofs.YtifpmigghplmoaaGreatDoor
open Go.RowKit Go.Pw Go.Shelf
theorem info_dir : (Tryz.prog.info? 89).map (fun i => (i.zero, i.size, i.bytes)) = some (some (.agg #[.string ⟨#[]⟩, .string ⟨#[]⟩, .int .i64 0, .bool false, .int .i64 0, .int .u8 0]), 6, 64) := by kernel_rfl
theorem read_any (s : ByteArray) (w : World) (hs : s.size ≤ 1000000) :
    Calls Tryz.prog 79 #[.string s] w fun e w' => readR s.data.toList e ∧ Below w.heap.size w w' := by
  by_cases hp : ∃ r, s.data.toList = 37 :: r
  · obtain ⟨r, hr⟩ := hp
    exact read_pct s w hs r hr
  · exact read_dir s w hs (fun r e => hp ⟨r, e⟩)
/-- the parts that the call has laid, and the way from a world -/
structure OwnD (base : Nat) (w0 w : World) (v : Value) (ds : List Dv) : Prop where
  own : w.ownsRow base 89 6 v ds.length (dsC ds)
  bel : Below base w0 w
theorem OwnD.alloc {base : Nat} {w0 w : World} {v : Value} {ds : List Dv} (h : OwnD base w0 w v ds) (hb : base ≤ w0.heap.size) (o : Obj) : OwnD base w0 (w.alloc o) v ds := ⟨h.own.alloc o, h.bel.alloc (Nat.le_trans hb h.bel.size) o⟩
theorem OwnD.drewN {base n : Nat} {w0 w : World} {v : Value} {ds : List Dv} (h : OwnD base w0 w v ds) : OwnD base w0 (w.drewN n) v ds :=
  ⟨h.own.kept (row := none) ⟨rfl, rfl, rfl, Nat.le_refl _, fun _ _ _ => rfl⟩ (by cases hk : v.ownBlock <;> simp), below_q h.bel⟩
theorem OwnD.step {base : Nat} {w0 w w' : World} {v : Value} {ds : List Dv} (h : OwnD base w0 w v ds) (hb0 : base ≤ w0.heap.size) (hb : Below w.heap.size w w') : OwnD base w0 w' v ds :=
  ⟨h.own.kept (row := none) ⟨hb.os, hb.tape, hb.output, hb.size, fun k hk _ => hb.block k hk⟩ (by cases hk : v.ownBlock <;> simp), h.bel.trans (hb.mono (Nat.le_trans hb0 h.bel.size))⟩
theorem wpList_dir {w0 V : World} {ops : Array Oper} {o : Oper} {a : Act} {rest : List Oper} {Q : Exit → Act → World → Prop} {base : Nat} {v : Value} {ds : List Dv} (hgd : o.guard = none) (s x : Operand)
    (ho : o.op = .call { callee := .builtin .append, args := #[s, x], argTypes := #[85, 85] }) (hs : a.eval s = v) (d : Dv)
    (h : OwnD base w0 V v ds) (hx : ∃ Kb, a.eval x = .slice (some ⟨Kb, 0, none⟩) 1 1 ∧ V.heap[Kb]? = some (.cells (dvC d) 89 (0, 0))) (hlen : ds.length ≤ 1000000) (hbase0 : base ≤ w0.heap.size)
    (H : ∀ g cap w', OwnD base w0 w' (.slice (some ⟨g, 0, none⟩) (ds.length + 1) cap) (ds ++ [d]) → wpList Tryz.prog ops Q rest (a.put o.dst (.slice (some ⟨g, 0, none⟩) (ds.length + 1) cap)) w') :
    wpList Tryz.prog ops Q (o :: rest) a V := by
  have hbase : base ≤ V.heap.size := Nat.le_trans hbase0 h.bel.size
  obtain ⟨ip, hip, hpz, hps, hpb⟩ := info_parts info_dir
  obtain ⟨Kb, hx, hc⟩ := hx
  refine wpList_append_lies _ hgd s x 85 ho base 89 ip _ 6 64 Tryz.underlying85 hip hpz hps hpb rfl (by decide) v _ _ hs h.own ⟨Kb, 0, none⟩ 1 1 (dvC d).toList hx rfl ?_ ?_ (by omega) (by unfold maxLen; omega) (by omega) hbase _ rfl ?_
  · exact World.news_of_block hc
  · intro u hu
    unfold dvC at hu
    simp at hu
    rcases hu with rfl | rfl | rfl | rfl | rfl | rfl <;> rfl
  · intro g cap w' hown hg hat hlt
    refine H g cap w' ⟨?_, h.bel.grown hg (by have := h.bel.size; omega) (fun k hk => (h.own.lt k hk).1)⟩
    rw [dsC_snoc, List.length_append]
    exact hown
theorem two_new_heap (w : World) (o : Obj) (o2 : Obj) : ((w.alloc o).alloc o2).heap[w.heap.size + 1]? = some o2 := by
  have h := heap_alloc_new (w.alloc o) o2
  rw [show (w.alloc o).heap.size = w.heap.size + 1 by simp] at h
  exact h
/-- what the program's directives returns -/
def dirsR (w : World) (bs : List UInt8) (e : Ending) (w' : World) : Prop :=
  (pfP bs = none ∧ e = .returned (.tuple #[.slice none 0 0, .bool false]) ∧ Below w.heap.size w w') ∨
  (∃ ds v, pfP bs = some ds ∧ e = .returned (.tuple #[v, .bool true]) ∧ OwnD w.heap.size w w' v ds ∧ ds.length ≤ bs.length)
set_option maxHeartbeats 8000000 in
set_option maxRecDepth 100000 in
theorem directives_any (s : ByteArray) (w : World) (hs : s.size ≤ 900000) (hE : ErrT w) :
    Calls Tryz.prog 34 #[.string s] w fun e w' => dirsR w s.data.toList e w' := by
  have HE := hide hE
  have HS0 : Hid (s = mkB s.data.toList) := hide (mkB_list s).symm
  have hsz0 : s.data.toList.length = s.size := len_size s
  have HSZ := hide hsz0
  clear hE hsz0
  go_enter Tryz.func34, Tryz.ntmps34
  go_wp2_with fail
  go_loopw [4, 5] (fun o v wr => ∃ (ds : List Dv) (l : List UInt8), v = .string (mkB l) ∧ Hid (PfAt s.data.toList l ds) ∧ Hid (OwnD w.heap.size w wr o ds)) (fun _ v _ => szOf2 v)
  case atStart => exact ⟨[], s.data.toList, by rw [← HS0.out], hide (PfAt.start _), hide ⟨World.ownsRow_nil _ _ _ _, Below.refl _ _⟩⟩
  case round =>
    obtain ⟨ds, l, rfl, HP, HO⟩ := hrel
    have hdl : ds.length ≤ 1000000 := by have h1 := HP.out.1; have h2 := HSZ.out; omega
    cases l with
    | nil =>
      have hemp : (mkB ([] : List UInt8)).toList.isEmpty = true := by rw [Lib.toList_data, mkB_data2]; rfl
      have HD := hide HP.out.done
      go_wp2_with fail
      go_ret2
      exact .inr ⟨ds, _, HD.out, rfl, HO.out, by have h1 := HP.out.1; simp at h1; exact h1⟩
    | cons c r =>
      have hrl : r.length ≤ 900000 := by have h1 := HP.out.1; have h2 := HSZ.out; simp at h1; omega
      have hemp : (mkB (c :: r)).toList.isEmpty = false := by rw [Lib.toList_data, mkB_data2]; rfl
      have hml : (mkB (c :: r)).size = r.length + 1 := by unfold mkB; show (c :: r).toArray.size = _; simp
      have HX2 : Hid ((mkB (c :: r)).extract 1 (mkB (c :: r)).size = mkB r) := hide (by rw [extract_drop, mkB_data2]; rfl)
      obtain ⟨q, hq⟩ : ∃ q, mkB (c :: r) = q := ⟨_, rfl⟩
      have hme : szOf2 (.string q) = r.length + 1 := by rw [← hq]; exact hml
      rw [hq] at hemp hml HX2 ⊢
      have hq0 : 0 < q.size := by omega
      have HQ0 : Hid (q[0] = c) := hide (by subst hq; rfl)
      have hq1 : (1 : Int) ≤ (q.size : Int) := by omega
      have hq2 : (0 : Int) < (q.size : Int) := by omega
      have HME := hide hme
      clear hq hml hme
      by_cases c1 : c = 37
      · have d1 : ((q[0].toNat : Int) == 37) = true := by rw [HQ0.out, c1]; rfl
        have HRD := hide (fun W => read_any (q.extract 1 q.size) W (by rw [HX2.out]; show (mkB r).size ≤ _; unfold mkB; show r.toArray.size ≤ _; simp; omega))
        have hxl : (q.extract 1 q.size).data.toList = r := by rw [HX2.out, mkB_data2]
        simp only [hxl] at HRD
        unfold readR at HRD
        clear hxl
        cases hr : rdP r with
        | none =>
          have HN := hide (HP.out.no (by rw [c1]; exact pfP_pct_no hr))
          simp only [hr] at HRD
          clear hr c1
          go_wp2_with fail
          refine (HRD.out _).mono ?_
          rintro e w2 ⟨⟨dd, q2, rfl⟩, hb⟩
          have HB := hide (HO.out.bel.trans (hb.mono HO.out.bel.size))
          clear hb
          unfold dvV dvC
          go_wp2_with fail
          go_ret2
          exact .inl ⟨HN.out, rfl, HB.out.alloc HB.out.size _⟩
        | some x =>
          obtain ⟨d, q2⟩ := x
          have hq2l := rdP_len hr
          have HP2 := hide (HP.out.step (q := q2) (d := d) (by simp; omega) (by rw [c1]; exact pfP_pct hr))
          simp only [hr] at HRD
          have HQL := hide hq2l
          clear hr c1 hq2l
          go_wp2_with fail
          refine (HRD.out _).mono ?_
          rintro e w2 ⟨rfl, hb⟩
          have HO2 := hide (HO.out.step (Nat.le_refl _) hb)
          clear hb
          unfold dvV dvC
          go_wp2_with (at_builtin; refine wpList_dir (base := w.heap.size) (w0 := w) rfl (.tmp 31) (.tmp 33) rfl rfl d ((HO2.out.alloc (Nat.le_refl _) _).alloc (Nat.le_refl _) _) ⟨_, rfl, two_new_heap _ _ _⟩ hdl (Nat.le_refl _) ?_; intro g cap w3 hown; have HO3 := hide hown; clear hown)
          case roundEnd => exact ⟨⟨ds ++ [d], q2, rfl, HP2, HO3⟩, by rw [HME.out, szOf2_mkB]; have := HQL.out; omega⟩
      · have d1 : ((q[0].toNat : Int) == 37) = false := by rw [HQ0.out]; exact u8_neN c1
        have HC1 := hide c1
        clear c1
        by_cases c2 : c = 92
        · have d2 : ((q[0].toNat : Int) == 92) = true := by rw [HQ0.out, c2]; rfl
          have HEW : ErrT wr := HE.out.below HO.out.bel
          have hml2 : (mkB r).size = r.length := szOf2_mkB r
          have HES := hide (escape_any (mkB r) wr (by rw [hml2]; omega) HEW)
          simp only [mkB_data2] at HES
          unfold escR at HES
          cases hr : escP r with
          | none =>
            have HN := hide (HP.out.no (by rw [c2]; exact pfP_esc_no hr))
            simp only [hr] at HES
            clear hr c2 HEW hml2
            go_wp2_with fail
            rw [HX2.out]
            refine HES.out.mono ?_
            rintro e w2 ⟨⟨x, n, rfl⟩, hb⟩
            have HB := hide (HO.out.bel.trans (hb.mono HO.out.bel.size))
            clear hb
            go_wp2_with fail
            go_ret2
            exact .inl ⟨HN.out, rfl, HB.out⟩
          | some x =>
            obtain ⟨y, k⟩ := x
            obtain ⟨hk1, hk2⟩ := escP_k hr
            have HP2 := hide (HP.out.step (q := r.drop k) (d := txD y) (by simp) (by rw [c2]; exact pfP_esc hr))
            simp only [hr] at HES
            have HX3 : Hid ((mkB r).extract k (mkB r).size = mkB (r.drop k)) := hide (by rw [extract_drop, mkB_data2])
            obtain ⟨q1, hq1E⟩ : ∃ q1, mkB r = q1 := ⟨_, rfl⟩
            rw [hq1E] at HES HX3 HX2 hml2
            have k0 : (0 : Int) ≤ (k : Int) := by omega
            have k1 : (k : Int) ≤ (q1.size : Int) := by omega
            have k2 : k ≤ q1.size := by omega
            have HKL : Hid ((r.drop k).length < r.length + 1) := hide (by rw [List.length_drop]; omega)
            clear hr c2 HEW hq1E hml2 hk1 hk2
            go_wp2_with fail
            rw [HX2.out]
            refine HES.out.mono ?_
            rintro e w2 ⟨rfl, hb⟩
            have HO2 := hide (HO.out.step (Nat.le_refl _) hb)
            clear hb
            have h1 : ∀ n, (convert 41 9 (.slice (some ⟨w2.heap.size, 0, none⟩) 1 1)).run Tryz.prog ((w2.drewN n).alloc (.cells #[.int .u8 (y.toNat : Int)] 5)) = .ok (.string ⟨#[y]⟩) ((w2.drewN n).alloc (.cells #[.int .u8 (y.toNat : Int)] 5)) := fun n => one_string (w2.drewN n) y
            go_wp2_with fail
            go_quiet (fail)
            go_wp2_with (at_builtin; refine wpList_dir (base := w.heap.size) (w0 := w) rfl (.tmp 50) (.tmp 55) rfl rfl (txD y) ((HO2.out.drewN.alloc (Nat.le_refl _) _).alloc (Nat.le_refl _) _) ⟨_, rfl, two_new_heap _ _ _⟩ hdl (Nat.le_refl _) ?_; intro g cap w3 hown; have HO3 := hide hown; clear hown)
            case roundEnd => exact ⟨⟨ds ++ [txD y], r.drop k, by rw [← HX3.out], HP2, HO3⟩, by rw [HME.out, HX3.out, szOf2_mkB]; exact HKL.out⟩
        · have d2 : ((q[0].toNat : Int) == 92) = false := by rw [HQ0.out]; exact u8_neN c2
          have HP2 := hide (HP.out.step (q := r) (d := txD c) (by simp) (pfP_txt HC1.out c2))
          have h1 := one_string wr q[0]
          have HKL : Hid (r.length < r.length + 1) := hide (by omega)
          clear c2
          go_wp2_with (at_builtin; refine wpList_dir (base := w.heap.size) (w0 := w) rfl (.tmp 50) (.tmp 55) rfl rfl (txD q[0]) ((HO.out.alloc (Nat.le_refl _) _).alloc (Nat.le_refl _) _) ⟨_, rfl, two_new_heap _ _ _⟩ hdl (Nat.le_refl _) ?_; intro g cap w3 hown; have HO3 := hide hown; clear hown)
          case roundEnd => exact ⟨⟨ds ++ [txD c], r, by rw [← HX2.out], HP2, by rw [← HQ0.out]; exact HO3⟩, by rw [HME.out, HX2.out, szOf2_mkB]; exact HKL.out⟩
end Go.Proofs.YtifpmigghplmoaaGreatDoor

/- PfG -/
set_option linter.unusedVariables false
set_option linter.unusedSimpArgs false
namespace Go.Pw
open Go.RowKit
/-- the bytes of an unescaped text -/
def unF : Nat → List UInt8 → List UInt8
  | 0, _ => []
  | _ + 1, [] => []
  | n + 1, c :: r => if c = 92 then (match escP r with | some (x, k) => x :: unF n (r.drop k) | none => c :: unF n r) else c :: unF n r
theorem unF_nil (n : Nat) : unF n [] = [] := by cases n <;> rfl
theorem unF_fuel : ∀ (n m : Nat) (l : List UInt8), l.length ≤ n → l.length ≤ m → unF n l = unF m l
  | 0, m, l, h, _ => by
    obtain rfl := List.eq_nil_of_length_eq_zero (Nat.le_zero.1 h)
    rw [unF_nil, unF_nil]
  | n + 1, m, [], _, _ => by rw [unF_nil, unF_nil]
  | n + 1, 0, c :: r, _, h => by simp at h
  | n + 1, m + 1, c :: r, h1, h2 => by
    simp only [List.length_cons] at h1 h2
    rw [unF, unF]
    by_cases c2 : c = 92
    · rw [if_pos c2, if_pos c2]
      cases he : escP r with
      | none => simp only; rw [unF_fuel n m r (by omega) (by omega)]
      | some x =>
        obtain ⟨y, k⟩ := x
        simp only
        rw [unF_fuel n m (r.drop k) (by rw [List.length_drop]; omega) (by rw [List.length_drop]; omega)]
    · rw [if_neg c2, if_neg c2, unF_fuel n m r (by omega) (by omega)]
def unP (l : List UInt8) : List UInt8 := unF l.length l
theorem unP_esc {r : List UInt8} {x : UInt8} {k : Nat} (h : escP r = some (x, k)) : unP (92 :: r) = x :: unP (r.drop k) := by
  unfold unP
  rw [List.length_cons, unF, if_pos rfl, h]
  simp only
  rw [unF_fuel r.length (r.drop k).length (r.drop k) (by rw [List.length_drop]; omega) (Nat.le_refl _)]
theorem unP_esc_no {r : List UInt8} (h : escP r = none) : unP (92 :: r) = 92 :: unP r := by
  unfold unP
  rw [List.length_cons, unF, if_pos rfl, h]
theorem unP_txt {c : UInt8} {r : List UInt8} (h2 : c ≠ 92) : unP (c :: r) = c :: unP r := by
  unfold unP
  rw [List.length_cons, unF, if_neg h2]
/-- how far the unescaping has come -/
def UnAt (bs : List UInt8) (k : Nat) (out : List UInt8) : Prop := out.length ≤ k ∧ k ≤ bs.length ∧ unP bs = out ++ unP (bs.drop k)
theorem UnAt.start (bs : List UInt8) : UnAt bs 0 [] := ⟨by simp, by simp, by simp⟩
theorem UnAt.step {bs : List UInt8} {k k' : Nat} {out : List UInt8} {x : UInt8} (h : UnAt bs k out) (h1 : k < k') (h2 : k' ≤ bs.length) (e : unP (bs.drop k) = x :: unP (bs.drop k')) : UnAt bs k' (out ++ [x]) := by
  obtain ⟨a, b, c⟩ := h
  refine ⟨by rw [List.length_append, List.length_singleton]; omega, h2, ?_⟩
  rw [c, e]; simp
theorem UnAt.done {bs : List UInt8} {k : Nat} {out : List UInt8} (h : UnAt bs k out) (hk : ¬ k < bs.length) : unP bs = out := by
  obtain ⟨a, b, c⟩ := h
  rw [c, List.drop_of_length_le (by omega)]
  simp [unP, unF]
end Go.Pw
namespace Go.Proofs.YtifpmigghplmoaaGreatDoor
open Go.RowKit Go.Pw Go.Shelf
theorem bld_keep {B b : Nat} {l : List UInt8} {w w' : World} (h : Bld B b l w) (hb : Below w.heap.size w w') : Bld B b l w' := by
  have key : ∀ p, Lib.BuilderAt 77 5 B b p (Lib.byteCells l) w → Lib.BuilderAt 77 5 B b p (Lib.byteCells l) w' := by
    intro p hp
    have hlt := hp.lt
    obtain ⟨h1, v, h2, h3, h4⟩ := hp
    refine ⟨h1, v, (hb.block b hlt).trans h2, ?_, h4⟩
    refine h3.kept (row := none) ⟨hb.os, hb.tape, hb.output, hb.size, fun k hk _ => hb.block k hk⟩ ?_
    cases hv : v.ownBlock <;> simp
  rcases h with h | h
  · exact .inl (key _ h)
  · exact .inr (key _ h)
set_option maxHeartbeats 8000000 in
set_option maxRecDepth 100000 in
theorem unescaped_any (s : ByteArray) (w : World) (hs : s.size ≤ 900000) (hE : ErrT w) :
    Calls Tryz.prog 81 #[.string s] w fun e w' => e = .returned (.string (mkB (unP s.data.toList))) ∧ Below w.heap.size w w' := by
  have HE := hide hE
  have HSZ := hide (len_size s)
  clear hE
  have HB0 := hide (show Bld w.heap.size w.heap.size [] (w.alloc (.cells #[.pointer none, .slice none 0 0] 77)) from Lib.fresh_isBuilder _ _ w)
  go_enter Tryz.func81, Tryz.ntmps81
  go_wp2_with fail
  go_loopw [4] (fun i wr => ∃ (k : Nat) (out : List UInt8), i = .int .i64 (k : Int) ∧ k ≤ s.size ∧ Hid (UnAt s.data.toList k out) ∧ Hid (Bld w.heap.size w.heap.size out wr) ∧ Hid (Below w.heap.size w wr)) (fun i _ => s.size - (intOf i).toNat)
  case atStart => exact ⟨0, [], rfl, by omega, hide (UnAt.start _), HB0, hide ((Below.refl _ _).alloc (Nat.le_refl _) _)⟩
  case round =>
    obtain ⟨k, out, rfl, hk, HU, HB, HBW⟩ := hrel
    have hol : out.length + 1 ≤ 140737488355328 := by have := HU.out.1; omega
    by_cases hlt : k < s.size
    · have hd : (k : Int) < (s.size : Int) := by omega
      have hlt2 : k < s.data.toList.length := by rw [HSZ.out]; exact hlt
      have hdrop : s.data.toList.drop k = s[k] :: s.data.toList.drop (k + 1) := by
        rw [List.drop_eq_getElem_cons hlt2]; rfl
      obtain ⟨c, hc⟩ : ∃ c, s[k] = c := ⟨_, rfl⟩
      rw [hc] at hdrop
      have HC := hide hc
      by_cases c2 : c = 92
      · have d2 : ((s[k].toNat : Int) == 92) = true := by rw [hc, c2]; rfl
        have HES := hide (escape_any (s.extract (k + 1) s.size) wr (by rw [ByteArray.size_extract]; omega) (HE.out.below HBW.out))
        have hxl : (s.extract (k + 1) s.size).data.toList = s.data.toList.drop (k + 1) := by rw [extract_drop, mkB_data2]
        rw [hxl] at HES
        unfold escR at HES
        have e1 : (k : Int) + 1 ≤ (s.size : Int) := by omega
        have HC2 := hide c2
        clear hc hxl
        cases hr : escP (s.data.toList.drop (k + 1)) with
        | none =>
          have HU2 := hide (HU.out.step (k' := k + 1) (x := 92) (by omega) (by omega) (by rw [hdrop, c2]; exact unP_esc_no hr))
          simp only [hr] at HES
          clear hr hdrop c2
          go_wp2_with fail
          refine HES.out.mono ?_
          rintro e w2 ⟨⟨x, n, rfl⟩, hb⟩
          have HB2 := hide (bld_keep HB.out hb)
          have HBW2 := hide (HBW.out.trans (hb.mono HBW.out.size))
          clear hb
          go_wp2_with fail
          refine (writeByte_any _ _ out s[k] _ _ HB2.out hol HBW2.out.size rfl).mono ?_
          rintro e w3 ⟨rfl, hb3, hbe3⟩
          have HB3 := hide hb3
          have HBW3 := hide (HBW2.out.trans hbe3)
          clear hb3 hbe3
          go_wp2_with fail
          go_roundw
          case rel => exact ⟨k + 1, out ++ [s[k]], by first | go_num | (simp; omega), by omega, hide (by rw [HC.out, HC2.out]; exact HU2.out), HB3, HBW3⟩
          case measure => simp [intOf]; omega
        | some x =>
          obtain ⟨y, n⟩ := x
          obtain ⟨hk1, hk2⟩ := escP_k hr
          rw [List.length_drop, HSZ.out] at hk1
          have HU2 := hide (HU.out.step (k' := k + n + 1) (x := y) (by omega) (by rw [HSZ.out]; omega) (by rw [hdrop, c2, unP_esc hr, List.drop_drop]; congr 3; omega))
          simp only [hr] at HES
          clear hr hdrop c2
          go_wp2_with fail
          refine HES.out.mono ?_
          rintro e w2 ⟨rfl, hb⟩
          have HB2 := hide (bld_keep HB.out hb)
          have HBW2 := hide (HBW.out.trans (hb.mono HBW.out.size))
          clear hb
          go_wp2_with fail
          refine (writeByte_any _ _ out y _ _ HB2.out hol HBW2.out.size rfl).mono ?_
          rintro e w3 ⟨rfl, hb3, hbe3⟩
          have HB3 := hide hb3
          have HBW3 := hide (HBW2.out.trans hbe3)
          clear hb3 hbe3
          go_wp2_with fail
          go_roundw
          case rel => exact ⟨k + n + 1, out ++ [y], by first | go_num | (simp; omega), by omega, HU2, HB3, HBW3⟩
          case measure => simp [intOf]; omega
      · have d2 : ((s[k].toNat : Int) == 92) = false := by rw [hc]; exact u8_neN c2
        have HU2 := hide (HU.out.step (k' := k + 1) (x := c) (by omega) (by omega) (by rw [hdrop]; exact unP_txt c2))
        have hbw := HBW.out.size
        clear hc hdrop c2
        go_wp2_with fail
        refine (writeByte_any _ _ out s[k] _ _ HB.out hol hbw rfl).mono ?_
        rintro e w3 ⟨rfl, hb3, hbe3⟩
        have HB3 := hide hb3
        have HBW3 := hide (HBW.out.trans hbe3)
        clear hb3 hbe3
        go_wp2_with fail
        go_roundw
        case rel => exact ⟨k + 1, out ++ [s[k]], by first | go_num | (simp; omega), by omega, hide (by rw [HC.out]; exact HU2.out), HB3, HBW3⟩
        case measure => simp [intOf]; omega
    · have hd : ¬ (k : Int) < (s.size : Int) := by omega
      have HD := hide (HU.out.done (by rw [HSZ.out]; exact hlt))
      have HBS := hide (bldString_any _ _ out wr HB.out HBW.out.size)
      go_wp2_with fail
      refine HBS.out.mono ?_
      rintro e w2 ⟨rfl, hb⟩
      have HB2 := hide (HBW.out.trans hb)
      clear hb
      go_wp2_with fail
      go_ret
      exact ⟨by rw [HD.out]; rfl, HB2.out⟩
end Go.Proofs.YtifpmigghplmoaaGreatDoor

/- PfS -/
set_option linter.unusedVariables false
namespace Go.Pw
open Go.RowKit
/-- a text filled up to the width -/
def padP (d : Dv) (s : List UInt8) : List UInt8 := if 45 ∈ d.fl then s ++ List.replicate (d.wd - s.length) 32 else List.replicate (d.wd - s.length) 32 ++ s
/-- a text cut at the precision -/
def cutP (d : Dv) (s : List UInt8) : List UInt8 := if d.dot = true then s.take d.pr else s
/-- the zeros ahead of digits -/
def zerP (d : Dv) (k : Nat) (s : List UInt8) : List UInt8 := if 48 ∈ d.fl ∧ ¬ 45 ∈ d.fl ∧ d.dot = false then List.replicate (d.wd - k - s.length) 48 ++ s else s
def nbrP (d : Dv) (n : Int) : List UInt8 := signP d n ++ zerP d (signP d n).length (digP d n)
/-- what a directive makes of an argument, and the error -/
def wrP (d : Dv) (a : List UInt8) : List UInt8 × Int :=
  if d.lt = 115 then (padP d (cutP d a), 0)
  else if d.lt = 98 then (padP d (cutP d (unP a)), 0)
  else if d.lt = 99 then (padP d (a.take 1), 0)
  else if (numP a).2 = 0 then (padP d (nbrP d (numP a).1), 0) else ([], (numP a).2)
/-- one round of a format -/
def rndP : List Dv → List (List UInt8) → List UInt8 → Sum Int (List UInt8 × List (List UInt8))
  | [], gs, out => .inr (out, gs)
  | d :: r, gs, out =>
    if d.lt = 0 then (if 65536 < (out ++ d.tx).length then .inl 2 else rndP r gs (out ++ d.tx))
    else if (wrP d (gs.headD [])).2 = 0 then (if 65536 < (out ++ (wrP d (gs.headD [])).1).length then .inl 2 else rndP r gs.tail (out ++ (wrP d (gs.headD [])).1))
    else .inl (wrP d (gs.headD [])).2
def takP (ds : List Dv) : Bool := ds.any fun d => d.lt != 0
/-- the rounds -/
def lopP (ds : List Dv) : Nat → List (List UInt8) → List UInt8 → List UInt8 × Int
  | 0, gs, out => (out, 0)
  | n + 1, gs, out => match rndP ds gs out with
    | .inl e => ([], e)
    | .inr (out2, gs2) => if takP ds = true ∧ gs2 ≠ [] then lopP ds n gs2 out2 else (out2, 0)
/-- the whole of it -/
def pfOut (bs : List UInt8) (gs : List (List UInt8)) : List UInt8 × Int := match pfP bs with
  | none => ([], 1)
  | some ds => lopP ds (gs.length + 1) gs []
theorem rndP_len : ∀ (ds : List Dv) (gs : List (List UInt8)) (out out2 : List UInt8) (gs2 : List (List UInt8)), rndP ds gs out = .inr (out2, gs2) → gs2.length ≤ gs.length ∧ (takP ds = true → gs ≠ [] → gs2.length < gs.length)
  | [], gs, out, out2, gs2, h => by
    rw [rndP] at h
    cases h
    exact ⟨Nat.le_refl _, fun h => by simp [takP] at h⟩
  | d :: r, gs, out, out2, gs2, h => by
    rw [rndP] at h
    by_cases h0 : d.lt = 0
    · rw [if_pos h0] at h
      by_cases h1 : 65536 < (out ++ d.tx).length
      · rw [if_pos h1] at h; cases h
      · rw [if_neg h1] at h
        obtain ⟨a, b⟩ := rndP_len r gs _ _ _ h
        exact ⟨a, fun ht hn => b (by simpa [takP, h0] using ht) hn⟩
    · rw [if_neg h0] at h
      by_cases he : (wrP d (gs.headD [])).2 = 0
      · rw [if_pos he] at h
        by_cases h1 : 65536 < (out ++ (wrP d (gs.headD [])).1).length
        · rw [if_pos h1] at h; cases h
        · rw [if_neg h1] at h
          obtain ⟨a, b⟩ := rndP_len r gs.tail _ _ _ h
          have hl : gs.tail.length = gs.length - 1 := by simp
          refine ⟨by omega, fun _ hn => ?_⟩
          have : 0 < gs.length := List.length_pos_iff.2 hn
          omega
      · rw [if_neg he] at h; cases h
theorem lopP_fuel (ds : List Dv) : ∀ (n m : Nat) (gs : List (List UInt8)) (out : List UInt8), gs.length < n → gs.length < m → lopP ds n gs out = lopP ds m gs out
  | 0, m, gs, out, h, _ => by omega
  | n + 1, 0, gs, out, _, h => by omega
  | n + 1, m + 1, gs, out, h1, h2 => by
    rw [lopP, lopP]
    cases hr : rndP ds gs out with
    | inl e => rfl
    | inr x =>
      obtain ⟨out2, gs2⟩ := x
      simp only
      by_cases hc : takP ds = true ∧ gs2 ≠ []
      · rw [if_pos hc, if_pos hc]
        obtain ⟨a, b⟩ := rndP_len ds gs out out2 gs2 hr
        have hn : gs ≠ [] := fun e => by
          subst e
          simp at a
          exact hc.2 a
        have := b hc.1 hn
        exact lopP_fuel ds n m gs2 out2 (by omega) (by omega)
      · rw [if_neg hc, if_neg hc]
/-- what directives hold that were read -/
def DvOk (d : Dv) : Prop := d.tx.length ≤ 1 ∧ d.wd ≤ 999 ∧ d.pr ≤ 999
theorem padP_len {d : Dv} (hd : DvOk d) (s : List UInt8) : (padP d s).length ≤ s.length + 999 := by
  have := hd.2.1
  unfold padP; split <;> (simp; omega)
theorem cutP_len (d : Dv) (s : List UInt8) : (cutP d s).length ≤ s.length := by
  unfold cutP; split
  · rw [List.length_take]; omega
  · exact Nat.le_refl _
theorem unF_len : ∀ (n : Nat) (l : List UInt8), (unF n l).length ≤ l.length
  | 0, l => by simp [unF]
  | n + 1, [] => by simp [unF]
  | n + 1, c :: r => by
    rw [unF]
    by_cases h : c = 92
    · rw [if_pos h]
      cases he : escP r with
      | none => simp only [List.length_cons]; have := unF_len n r; omega
      | some x =>
        obtain ⟨y, k⟩ := x
        simp only [List.length_cons]
        have := unF_len n (r.drop k)
        rw [List.length_drop] at this
        omega
    · rw [if_neg h]
      simp only [List.length_cons]; have := unF_len n r; omega
theorem unP_len (l : List UInt8) : (unP l).length ≤ l.length := unF_len _ l
theorem signP_len (d : Dv) (n : Int) : (signP d n).length ≤ 2 := by
  unfold signP
  repeat' split
  all_goals simp
theorem digA_len (c : UInt8) (n : Int) (h0 : -9223372036854775808 ≤ n) (h1 : n ≤ 9223372036854775807) : (digA c n).length ≤ 24 := by
  have hu := u64N_lt n
  unfold digA
  repeat' split
  · have := basP_len (b := 10) (by omega) 19 n.natAbs (by omega); omega
  · have := basP_len (b := 10) (by omega) 19 (u64N n) (by omega); omega
  · have := basP_len (b := 8) (by omega) 21 (u64N n) (by omega); omega
  · have := basP_len (b := 16) (by omega) 15 (u64N n) (by omega); omega
  · have := basP_len (b := 16) (by omega) 15 (u64N n) (by omega)
    unfold Lib.toUpperA; rw [List.length_map]; omega
theorem digP1_len {d : Dv} (hd : DvOk d) (n : Int) (s : List UInt8) : (digP1 d n s).length ≤ s.length + 999 := by
  have := hd.2.2
  unfold digP1
  split
  · split <;> (simp; omega)
  · omega
theorem digP2_len (d : Dv) (s : List UInt8) : (digP2 d s).length ≤ s.length + 1 := by
  unfold digP2; split <;> simp
theorem digP_len {d : Dv} (hd : DvOk d) (n : Int) (h0 : -9223372036854775808 ≤ n) (h1 : n ≤ 9223372036854775807) : (digP d n).length ≤ 1100 := by
  have a := digA_len d.lt n h0 h1
  have b := digP1_len hd n (digA d.lt n)
  have c := digP2_len d (digP1 d n (digA d.lt n))
  unfold digP; omega
theorem zerP_len {d : Dv} (hd : DvOk d) (k : Nat) (s : List UInt8) : (zerP d k s).length ≤ s.length + 999 := by
  have := hd.2.1
  unfold zerP; split
  · simp; omega
  · omega
theorem numP_in : ∀ (a : List UInt8), -9223372036854775808 ≤ (numP a).1 ∧ (numP a).1 ≤ 9223372036854775807 := by
  intro a
  cases a with
  | nil => simp [numP]
  | cons c r =>
    rw [numP]
    split
    · match r with
      | [] => simp [quoP]
      | [x] => have := x.toNat_lt; simp only [quoP]; omega
      | _ :: _ :: _ => simp [quoP]
    · unfold numT
      repeat' split
      all_goals (simp only; omega)
theorem wrP_len {d : Dv} (hd : DvOk d) (a : List UInt8) : (wrP d a).1.length ≤ a.length + 5000 := by
  unfold wrP
  repeat' split
  · simp only; have := padP_len hd (cutP d a); have := cutP_len d a; omega
  · simp only; have := padP_len hd (cutP d (unP a)); have := cutP_len d (unP a); have := unP_len a; omega
  · simp only; have := padP_len hd (a.take 1); rw [List.length_take] at this; omega
  · simp only
    obtain ⟨n0, n1⟩ := numP_in a
    have := padP_len hd (nbrP d (numP a).1)
    have h2 : (nbrP d (numP a).1).length ≤ 2200 := by
      unfold nbrP
      rw [List.length_append]
      have := signP_len d (numP a).1
      have := zerP_len hd (signP d (numP a).1).length (digP d (numP a).1)
      have := digP_len hd (numP a).1 n0 n1
      omega
    omega
  · simp
theorem dgK_le3 (l : List UInt8) : dgK l ≤ 3 := by unfold dgK; omega
theorem val3 (l : List UInt8) : valL (l.take (dgK l)) ≤ 999 := by
  obtain ⟨h1, h2, h3, h4⟩ := dgK_dig l
  have h5 := valL_lt _ h1
  rw [h2] at h5
  have : 10 ^ dgK l ≤ 10 ^ 3 := Nat.pow_le_pow_right (by omega) h3
  omega
theorem dirB_ok {fl l q : List UInt8} {d : Dv} (h : dirB fl l = some (d, q)) : DvOk d ∧ d.tx = [] ∧ d.lt ∈ letL := by
  unfold dirB at h
  simp only at h
  split at h
  · cases h
  · split at h
    · rename_i hc
      cases h
      refine ⟨⟨by simp, ?_, ?_⟩, rfl, hc⟩
      · exact val3 l
      · simp only
        split
        · exact val3 _
        · omega
    · cases h
/-- a part of a format: a byte's text, or a directive -/
def DvKind (d : Dv) : Prop := (d.lt = 0 ∧ ∃ c, d.tx = [c]) ∨ (d.lt ∈ letL ∧ d.tx = [])
theorem rdP_ok {r q : List UInt8} {d : Dv} (h : rdP r = some (d, q)) : DvOk d ∧ DvKind d := by
  by_cases hp : ∃ r', r = 37 :: r'
  · obtain ⟨r', rfl⟩ := hp
    rw [rdP] at h
    cases h
    exact ⟨⟨by simp, by simp, by simp⟩, .inl ⟨rfl, 37, rfl⟩⟩
  · rw [rdP_dir (fun r' e => hp ⟨r', e⟩)] at h
    split at h
    · cases h
    · obtain ⟨a, b, c⟩ := dirB_ok h
      exact ⟨a, .inr ⟨c, b⟩⟩
theorem pfF_ok : ∀ (n : Nat) (l : List UInt8) (ds : List Dv), pfF n l = some ds → ∀ d ∈ ds, DvOk d ∧ DvKind d
  | 0, l, ds, h => by rw [pfF] at h; cases h; intro d hd; cases hd
  | n + 1, [], ds, h => by rw [pfF] at h; cases h; intro d hd; cases hd
  | n + 1, c :: r, ds, h => by
    rw [pfF] at h
    have htx : ∀ x, DvOk (txD x) ∧ DvKind (txD x) := fun x => ⟨⟨by simp [txD], by simp [txD], by simp [txD]⟩, .inl ⟨rfl, x, rfl⟩⟩
    split at h
    · split at h
      · cases h
      · rename_i d0 q hr
        cases hq : pfF n q with
        | none => rw [hq] at h; cases h
        | some l2 =>
          rw [hq] at h
          cases h
          intro d hd
          rcases List.mem_cons.1 hd with rfl | hd
          · exact rdP_ok hr
          · exact pfF_ok n q l2 hq d hd
    · split at h
      · split at h
        · cases h
        · rename_i x k hr
          cases hq : pfF n (r.drop k) with
          | none => rw [hq] at h; cases h
          | some l2 =>
            rw [hq] at h
            cases h
            intro d hd
            rcases List.mem_cons.1 hd with rfl | hd
            · exact htx x
            · exact pfF_ok n _ l2 hq d hd
      · cases hq : pfF n r with
        | none => rw [hq] at h; cases h
        | some l2 =>
          rw [hq] at h
          cases h
          intro d hd
          rcases List.mem_cons.1 hd with rfl | hd
          · exact htx c
          · exact pfF_ok n _ l2 hq d hd
theorem pfP_ok {l : List UInt8} {ds : List Dv} (h : pfP l = some ds) : ∀ d ∈ ds, DvOk d ∧ DvKind d := pfF_ok _ l ds h
end Go.Pw
