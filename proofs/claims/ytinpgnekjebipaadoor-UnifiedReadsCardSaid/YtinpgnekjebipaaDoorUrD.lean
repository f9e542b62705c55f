/- (*unifier).close: a group ends. -/
import Derived.Test.YtinpgnekjebipaaDoorUrC
import Derived.Test.YtinpgnekjebipaaDoorRegion3
set_option linter.unusedSimpArgs false
set_option linter.unusedVariables false
namespace Go.Proofs.YtinpgnekjebipaaDoor
open Go.RowKit Go.Pw
/-- what lies below the call, and block U, are kept -/
structure KeepU (w0 : World) (U : Nat) (w w' : World) : Prop where
  bel : ButU U w0 w'
  box : w'.heap[U]? = w.heap[U]?
  lt : U < w'.heap.size
section
variable {w0 w w1 w2 : World} {U : Nat} {cs : Array Value} {hs : List Hk} {hv cv : Value} {vs : List (Value × Value)} {cx : List ByteArray}
theorem KeepU.start (m : UnMem w0 w U cs hs hv vs cv cx) : KeepU w0 U w w := ⟨m.bel, rfl, m.lt⟩
theorem KeepU.grown (k : KeepU w0 U w w1) (hlo : U < w0.heap.size) {row : Option Nat} (hg : w1.grownBy w2 row) (hr : ∀ g, row = some g → w0.heap.size ≤ g) : KeepU w0 U w w2 :=
  ⟨k.bel.grown hg hr, (hg.block U k.lt (fun e => by have := hr U e.symm; omega)).trans k.box, Nat.lt_of_lt_of_le k.lt hg.size⟩
theorem KeepU.alloc (k : KeepU w0 U w w1) (ob : Obj) : KeepU w0 U w (w1.alloc ob) := ⟨k.bel.alloc ob, (heap_alloc_old _ _ k.lt).trans k.box, by have := k.lt; simp; omega⟩
theorem KeepU.set (k : KeepU w0 U w w1) (hlo : U < w0.heap.size) {g : Nat} (hg : w0.heap.size ≤ g) (j : Nat) (x : Value) : KeepU w0 U w (w1.setCell ⟨g, j, none⟩ x) :=
  ⟨k.bel.set hg j x, (Below.heap_setCell _ _ _ _ (show U ≠ g by omega)).trans k.box, by have := k.lt; simpa [World.setCell] using this⟩
theorem UnMem.reLast {fin : List Hk} {h h' : Hk} {g cap : Nat} {vs0 : List (Value × Value)} {o n : Value} {hs' : List Hk} (m : UnMem w0 w U cs hs hv vs cv cx) (k : KeepU w0 U w w1) (l : LastAt w1 46 9 w0.heap.size g cap fin h' vs0 o n cv cx) :
    UnMem w0 w1 U cs (fin ++ [h']) (.slice (some ⟨g, 0, none⟩) (fin.length + 1) cap) (vs0 ++ [(o, n)]) cv cx := ⟨k.bel, m.lo, k.box.trans m.box, l.own⟩
end
set_option maxHeartbeats 8000000 in
set_option maxRecDepth 100000 in
theorem close_any {w0 w : World} {U : Nat} {u : Un} {i : Nat} (h : UnIn w0 w U u) (hu : UnOk u i) (hi : i ≤ 900000) :
    Calls Tryd.prog 48 #[.pointer (some ⟨U, 0, none⟩)] w fun e w' => e = .returned (.tuple #[]) ∧ UnIn w0 w' U u.rest := by
  have hop := hide (open_any h (by have := hu.o1; have := hu.o2; omega) (by have := hu.n1; have := hu.n2; omega))
  by_cases ho : u.opn = true
  · have hr : u.rest = u := by unfold Un.rest; rw [if_pos ho]
    rw [hr]
    rw [ho] at hop
    have H := hide h
    clear h hu ho hr
    go_enter Tryd.func48, Tryd.ntmps48
    go_wp2_with fail
    (with_reducible refine hop.out.mono ?_)
    rintro e w1 ⟨rfl, q, rfl⟩
    go_wp2_with fail
    refine bodyPost_ret (results_none rfl _ _ _) rfl ?_
    exact ⟨rfl, H.out.drewN q⟩
  have hof : u.opn = false := by simpa using ho
  have hr : u.rest = u.shut := by unfold Un.rest; rw [if_neg ho]
  rw [hr]
  rw [hof] at hop
  clear ho hof hr
  obtain ⟨hv, cv, vs, h⟩ := h
  have hok := hu.hs
  have hcx := hu.c
  obtain ⟨fin, cur, oa, oc, na, nc, oe, de, ctx, long⟩ := u
  have M0 := h
  unfold UnAt at M0
  obtain ⟨cs, hcs⟩ : ∃ x, unCells ⟨fin, cur, oa, oc, na, nc, oe, de, ctx, long⟩ hv cv = x := ⟨_, rfl⟩
  rw [hcs] at M0
  have HCS := hide hcs
  have HM : ∀ q, Hid (UnMem w0 (w.drewN q) U cs (Un.all ⟨fin, cur, oa, oc, na, nc, oe, de, ctx, long⟩) hv vs cv ctx) := fun q => hide (M0.below (below_drewN (Below.refl _ _) q))
  have HMD := hide HM
  cases cur with
  | none =>
    have HAT : ∀ q, UnAt w0 (w.drewN q) U ⟨fin, none, oa, oc, na, nc, oe, de, ctx, long⟩ hv cv vs := fun q => by
      have := (HM q).out; rw [← hcs] at this; exact this
    have HAT2 := hide HAT
    clear h M0 HAT HM hok hcx hu hcs
    go_enter Tryd.func48, Tryd.ntmps48
    go_wp2_with fail
    (with_reducible refine hop.out.mono ?_)
    rintro e w1 ⟨rfl, q, rfl⟩
    obtain ⟨W, hW⟩ : ∃ W, w.drewN q = W := ⟨_, rfl⟩
    have h := HAT2.out q
    rw [hW] at h ⊢
    have HM1 := HMD.out q
    rw [hW] at HM1
    clear HMD HAT2 hop
    obtain ⟨c0, c1, c2, c3, c4, c5, c6, c7, c8, c9⟩ := h.cells
    have z7 := UnMem.frozen h 7
    have z8 := UnMem.frozen h 8
    simp only [curPtr] at c7
    clear h
    go_wp2_with fail
    go_end0
    refine ⟨rfl, hv, .slice none 0 0, vs, ?_⟩
    have hfin := ((HM1.out.set 7 (.pointer none)).set 8 (.slice none 0 0)).drop
    rw [← HCS.out] at hfin
    show UnMem _ _ _ _ (Un.all (Un.shut _)) _ _ _ _
    have e1 : Un.all (Un.shut ⟨fin, none, oa, oc, na, nc, oe, de, ctx, long⟩) = fin ++ [] := by simp [Un.all, Un.shut]
    rw [e1]
    have e2 : (unCells (Un.shut ⟨fin, none, oa, oc, na, nc, oe, de, ctx, long⟩) hv (.slice none 0 0)) = ((unCells ⟨fin, none, oa, oc, na, nc, oe, de, ctx, long⟩ hv cv).setIfInBounds 7 (.pointer none)).setIfInBounds 8 (.slice none 0 0) := rfl
    rw [e2]
    exact hfin
  | some k =>
    obtain ⟨g, cap, vs0, o, n, rfl, rfl, hl⟩ := h.last rfl
    have HLA : ∀ q, Hid (LastAt (w.drewN q) 46 9 w0.heap.size g cap fin k vs0 o n cv ctx) := fun q => hide (hl.below (below_drewN (Below.refl _ _) q))
    have HLA2 := hide HLA
    have hk := hok k (by simp [Un.all])
    simp only at hcx
    have hoo : (w.ownsRow w0.heap.size 9 1 o k.old.length (k.old.map Value.string)) := hl.rowOld.own (o, k.old) (by simp)
    have hnn : (w.ownsRow w0.heap.size 9 1 n k.new.length (k.new.map Value.string)) := hl.rowOld.own (n, k.new) (by simp)
    obtain ⟨oA, oc', rfl⟩ := own_fmU hoo
    obtain ⟨nA, nc', rfl⟩ := own_fmU hnn
    clear hoo hnn
    obtain ⟨CA, cc, rfl⟩ := own_fmU M0.cvOwn
    have HAT : ∀ q, UnAt w0 (w.drewN q) U ⟨fin, some k, oa, oc, na, nc, oe, de, ctx, long⟩ (.slice (some ⟨g, 0, none⟩) (fin.length + 1) cap) (.slice CA ctx.length cc) (vs0 ++ [(.slice oA k.old.length oc', .slice nA k.new.length nc')]) := fun q => by
      have := (HM q).out; rw [← hcs] at this; exact this
    have HAT2 := hide HAT
    have HK := hide hk
    have HCX := hide hcx
    have HI := hide hi
    obtain ⟨L1, hL1⟩ : ∃ L, k.old ++ ctx = L := ⟨_, rfl⟩
    obtain ⟨L2, hL2⟩ : ∃ L, k.new ++ ctx = L := ⟨_, rfl⟩
    have hb1 : k.old.length + ctx.length ≤ 1000000000000 := by have := HK.out.2.1.1; have := HCX.out.1; have := HI.out; omega
    have hb2 : k.new.length + ctx.length ≤ 1000000000000 := by have := HK.out.2.2.1; have := HCX.out.1; have := HI.out; omega
    have hcs : ∀ s ∈ ctx, s.size ≤ maxLen := fun s hs => by have := HCX.out.2 s hs; unfold maxLen; omega
    have HL1 := hide hL1
    have HL2 := hide hL2
    have HB1 := hide hb1
    have HB2 := hide hb2
    have HCSZ := hide hcs
    clear hL1 hL2 hb1 hb2 hcs
    have hUg := hl.lt.1
    clear h M0 HAT HM HLA hok hcx hu hl hk
    go_enter Tryd.func48, Tryd.ntmps48
    go_wp2_with fail
    (with_reducible refine hop.out.mono ?_)
    rintro e w1 ⟨rfl, q, rfl⟩
    obtain ⟨W, hW⟩ : ∃ W, w.drewN q = W := ⟨_, rfl⟩
    have h := HAT2.out q
    have HLA := HLA2.out q
    have HM1 := HMD.out q
    rw [hW] at h HLA HM1 ⊢
    clear HMD HAT2 hop HLA2
    obtain ⟨c0, c1, c2, c3, c4, c5, c6, c7, c8, c9⟩ := h.cells
    simp only [curPtr, lastPtr] at c7
    obtain ⟨d0, d1, d2, d3⟩ := HLA.out.cells
    rw [Nat.mul_comm] at d2 d3
    have y2 := HLA.out.frozen (fin.length * 4 + 2)
    have y3 := HLA.out.frozen (fin.length * 4 + 3)
    have hU := UnMem.lt h
    have hlo := h.lo
    have hbz := (UnMem.bel h).size
    have hg2 := HLA.out.lt.2
    clear h d0 d1 c0 c1 c2 c3 c4 c5 c6 c9
    go_wp2_with fail
    refine wp_region_N (N := [1, 11, 12, 13, 15, 16, 17, 20, 21, 22, 23, 24, 25]) (S := fun w' => w'.cell? ⟨g, fin.length * 4 + 2, none⟩ = some (.slice oA k.old.length oc') ∧ w'.cell? ⟨g, fin.length * 4 + 3, none⟩ = some (.slice nA k.new.length nc') ∧ w'.cell? ⟨U, 8, none⟩ = some (.slice CA ctx.length cc)) (by kernel_rfl) ⟨d2, d3, c8⟩ (fun hHeld => ?_)
    refine N_takeW 1 (v := ?_) rfl (by kernel_rfl) (by kernel_rfl) (by kernel_rfl) (by kernel_rfl) (fun _ _ _ h => h) (Or.inl ⟨by rfl, ?_⟩) ?_
    rotate_left
    · (intro w hSw; go_simp; try with_reducible rfl)
    try simp only [Act.put, List.setIfInBounds_toArray, List.set_cons_zero, List.set_cons_succ]
    refine N_takeW 11 (v := ?_) rfl (by kernel_rfl) (by kernel_rfl) (by kernel_rfl) (by kernel_rfl) (fun _ _ _ h => h) (Or.inl ⟨by rfl, ?_⟩) ?_
    rotate_left
    · (intro w hSw; go_simp; try with_reducible rfl)
    try simp only [Act.put, List.setIfInBounds_toArray, List.set_cons_zero, List.set_cons_succ]
    refine N_takeW 12 (v := ?_) rfl (by kernel_rfl) (by kernel_rfl) (by kernel_rfl) (by kernel_rfl) (fun _ _ _ h => h) (Or.inl ⟨by rfl, ?_⟩) ?_
    rotate_left
    · (intro w hSw; go_simp; try with_reducible rfl)
    try simp only [Act.put, List.setIfInBounds_toArray, List.set_cons_zero, List.set_cons_succ]
    refine N_takeW 13 (v := ?_) rfl (by kernel_rfl) (by kernel_rfl) (by kernel_rfl) (by kernel_rfl) (fun _ _ _ h => h) (Or.inl ⟨by rfl, ?_⟩) ?_
    rotate_left
    · (intro w hSw; go_simp; try with_reducible rfl)
    try simp only [Act.put, List.setIfInBounds_toArray, List.set_cons_zero, List.set_cons_succ]
    refine N_takeW 15 (v := ?_) rfl (by kernel_rfl) (by kernel_rfl) (by kernel_rfl) (by kernel_rfl) (fun _ _ _ h => h) (Or.inl ⟨by rfl, ?_⟩) ?_
    rotate_left
    · (intro w hSw; go_simp; try with_reducible rfl)
    try simp only [Act.put, List.setIfInBounds_toArray, List.set_cons_zero, List.set_cons_succ]
    refine N_takeW 16 (v := ?_) rfl (by kernel_rfl) (by kernel_rfl) (by kernel_rfl) (by kernel_rfl) (fun _ _ _ h => h) (Or.inl ⟨by rfl, ?_⟩) ?_
    rotate_left
    · (intro w hSw; go_simp; try with_reducible rfl)
    try simp only [Act.put, List.setIfInBounds_toArray, List.set_cons_zero, List.set_cons_succ]
    refine N_takeW 17 (v := ?_) rfl (by kernel_rfl) (by kernel_rfl) (by kernel_rfl) (by kernel_rfl) (fun _ _ _ h => h) (Or.inl ⟨by rfl, ?_⟩) ?_
    rotate_left
    · (intro w hSw; go_simp; try with_reducible rfl)
    try simp only [Act.put, List.setIfInBounds_toArray, List.set_cons_zero, List.set_cons_succ]
    refine N_take 0 (v := ?_) rfl (by kernel_rfl) (by kernel_rfl) (by kernel_rfl) (by kernel_rfl) (by kernel_rfl) (fun _ _ _ h => h) (Or.inl ⟨by rfl, ?_⟩) (by assumption) ?_
    rotate_left
    · (intro w hSw; (try dsimp only at hSw); go_simp; try with_reducible rfl)
    try simp only [Act.put, List.setIfInBounds_toArray, List.set_cons_zero, List.set_cons_succ]
    refine N_take 2 (v := ?_) rfl (by kernel_rfl) (by kernel_rfl) (by kernel_rfl) (by kernel_rfl) (by kernel_rfl) (fun _ _ _ h => h) (Or.inl ⟨by rfl, ?_⟩) (by assumption) ?_
    rotate_left
    · (intro w hSw; (try dsimp only at hSw); go_simp; try with_reducible rfl)
    try simp only [Act.put, List.setIfInBounds_toArray, List.set_cons_zero, List.set_cons_succ]
    refine N_take 3 (v := ?_) rfl (by kernel_rfl) (by kernel_rfl) (by kernel_rfl) (by kernel_rfl) (by kernel_rfl) (fun _ _ _ h => h) (Or.inl ⟨by rfl, ?_⟩) (by assumption) ?_
    rotate_left
    · (intro w hSw; (try dsimp only at hSw); go_simp; try with_reducible rfl)
    try simp only [Act.put, List.setIfInBounds_toArray, List.set_cons_zero, List.set_cons_succ]
    refine N_take 4 (v := ?_) rfl (by kernel_rfl) (by kernel_rfl) (by kernel_rfl) (by kernel_rfl) (by kernel_rfl) (fun _ _ _ h => h) (Or.inl ⟨by rfl, ?_⟩) (by assumption) ?_
    rotate_left
    · (intro w hSw; (try dsimp only at hSw); go_simp; try with_reducible rfl)
    try simp only [Act.put, List.setIfInBounds_toArray, List.set_cons_zero, List.set_cons_succ]
    refine N_take 5 (v := ?_) rfl (by kernel_rfl) (by kernel_rfl) (by kernel_rfl) (by kernel_rfl) (by kernel_rfl) (fun _ _ _ h => h) (Or.inl ⟨by rfl, ?_⟩) (by assumption) ?_
    rotate_left
    · (intro w hSw; (try dsimp only at hSw); go_simp; try with_reducible rfl)
    try simp only [Act.put, List.setIfInBounds_toArray, List.set_cons_zero, List.set_cons_succ]
    refine N_take 6 (v := ?_) rfl (by kernel_rfl) (by kernel_rfl) (by kernel_rfl) (by kernel_rfl) (by kernel_rfl) (fun _ _ _ h => h) (Or.inl ⟨by rfl, ?_⟩) (by assumption) ?_
    rotate_left
    · (intro w hSw; (try dsimp only at hSw); go_simp; try with_reducible rfl)
    try simp only [Act.put, List.setIfInBounds_toArray, List.set_cons_zero, List.set_cons_succ]
    refine N_take 7 (v := ?_) rfl (by kernel_rfl) (by kernel_rfl) (by kernel_rfl) (by kernel_rfl) (by kernel_rfl) (fun _ _ _ h => h) (Or.inl ⟨by rfl, ?_⟩) (by assumption) ?_
    rotate_left
    · (intro w hSw; (try dsimp only at hSw); go_simp; try with_reducible rfl)
    try simp only [Act.put, List.setIfInBounds_toArray, List.set_cons_zero, List.set_cons_succ]
    refine N_take 8 (v := ?_) rfl (by kernel_rfl) (by kernel_rfl) (by kernel_rfl) (by kernel_rfl) (by kernel_rfl) (fun _ _ _ h => h) (Or.inl ⟨by rfl, ?_⟩) (by assumption) ?_
    rotate_left
    · (intro w hSw; (try dsimp only at hSw); go_simp; try with_reducible rfl)
    try simp only [Act.put, List.setIfInBounds_toArray, List.set_cons_zero, List.set_cons_succ]
    refine N_take 9 (v := ?_) rfl (by kernel_rfl) (by kernel_rfl) (by kernel_rfl) (by kernel_rfl) (by kernel_rfl) (fun _ _ _ h => h) (Or.inl ⟨by rfl, ?_⟩) (by assumption) ?_
    rotate_left
    · (intro w hSw; (try dsimp only at hSw); go_simp; try with_reducible rfl)
    try simp only [Act.put, List.setIfInBounds_toArray, List.set_cons_zero, List.set_cons_succ]
    refine N_take 14 (v := ?_) rfl (by kernel_rfl) (by kernel_rfl) (by kernel_rfl) (by kernel_rfl) (by kernel_rfl) (fun _ _ _ h => h) (Or.inl ⟨by rfl, ?_⟩) (by assumption) ?_
    rotate_left
    · (intro w hSw; (try dsimp only at hSw); go_simp; try with_reducible rfl)
    try simp only [Act.put, List.setIfInBounds_toArray, List.set_cons_zero, List.set_cons_succ]
    refine N_take 18 (v := ?_) rfl (by kernel_rfl) (by kernel_rfl) (by kernel_rfl) (by kernel_rfl) (by kernel_rfl) (fun _ _ _ h => h) (Or.inl ⟨by rfl, ?_⟩) (by assumption) ?_
    rotate_left
    · (intro w hSw; (try dsimp only at hSw); go_simp; try with_reducible rfl)
    try simp only [Act.put, List.setIfInBounds_toArray, List.set_cons_zero, List.set_cons_succ]
    have CVS : Hid (Strs W.drew (.slice CA ctx.length cc) ctx) := hide ⟨.of_own (own_below HM1.out.cvOwn (Below.refl _ _).drew), HCSZ.out⟩
    have RWD : Hid (LastAt W.drew 46 9 w0.heap.size g cap fin k vs0 (.slice oA k.old.length oc') (.slice nA k.new.length nc') (.slice CA ctx.length cc) ctx) := hide (HLA.out.below (Below.refl _ _).drew)
    refine N_next 10 rfl (by kernel_rfl) (fun K hK => ?_)
    refine step_appU (by rfl) (.tmp 16) (.tmp 20) (by rfl) w0.heap.size (.slice oA k.old.length oc') k.old (by kernel_rfl) (RWD.out.rowOld.own (.slice oA k.old.length oc', k.old) (List.mem_cons_self ..)) (.slice CA ctx.length cc) ctx L1 (by kernel_rfl) CVS.out HL1.out HB1.out (show w0.heap.size ≤ W.heap.size by omega) ?_
    intro A1 k1 w2 hown1 hgr1 hat1
    have kp1 : KeepU w0 U W.drew w2 := (KeepU.start HM1.out.drew).grown hlo hgr1 (fun g' hg' => own_ge (HLA.out.rowOld.own (.slice oA k.old.length oc', k.old) (List.mem_cons_self ..)) g' hg')
    have r1 := hide ((RWD.out.rowOld.write hgr1 hown1 hat1).perm (.swap ..))
    have ne1 : ∀ q, (Value.slice oA k.old.length oc').ownBlock = some q → q ≠ g := fun q hq => by
      obtain ⟨ds, hd⟩ := own_type' (RWD.out.rowOld.own (.slice oA k.old.length oc', k.old) (List.mem_cons_self ..)) hq
      obtain ⟨cs', hc⟩ := RWD.out.block
      exact two_types hd hc (by decide)
    have ne2 : ∀ q, (Value.slice nA k.new.length nc').ownBlock = some q → q ≠ g := fun q hq => by
      obtain ⟨ds, hd⟩ := own_type' (RWD.out.rowNew.own (.slice nA k.new.length nc', k.new) (List.mem_cons_self ..)) hq
      obtain ⟨cs', hc⟩ := RWD.out.block
      exact two_types hd hc (by decide)
    have hgW : g < W.drew.heap.size := hg2
    have far1 : ∀ j, w2.cell? ⟨g, j, none⟩ = W.drew.cell? ⟨g, j, none⟩ := fun j => grown_cell (p := ⟨g, j, none⟩) hgr1 hgW (fun e => ne1 g e rfl)
    have farU : w2.cell? ⟨U, 8, none⟩ = W.drew.cell? ⟨U, 8, none⟩ := World.cell?_of_block (w := W.drew) kp1.box
    have fz2 : w2.frozen? ⟨g, fin.length * 4 + 2, none⟩ = false := (grown_frozen (p := ⟨g, fin.length * 4 + 2, none⟩) hgr1 hgW (fun e => ne1 g e rfl)).trans y2
    have fz3 : w2.frozen? ⟨g, fin.length * 4 + 3, none⟩ = false := (grown_frozen (p := ⟨g, fin.length * 4 + 3, none⟩) hgr1 hgW (fun e => ne1 g e rfl)).trans y3
    refine hK.out _ _ (fun _ => ?_) (fun hHeld1 => ?_)
    · obtain ⟨q1, q2, q3⟩ := hHeld
      exact ⟨(far1 _).trans q1, (far1 _).trans q2, farU.trans q3⟩
    clear hK K hHeld
    have hHeld := hHeld1 (by decide)
    clear hHeld1
    try simp only [Act.put, List.setIfInBounds_toArray, List.set_cons_zero, List.set_cons_succ]
    have hgw2 : g < w2.heap.size := Nat.lt_of_lt_of_le hgW hgr1.size
    have hUw2 : w0.heap.size ≤ w2.heap.size := kp1.bel.size
    have CVS2 : Hid (Strs w2 (.slice CA ctx.length cc) ctx) := hide ⟨.of_own (r1.out.own (.slice CA ctx.length cc, ctx) (by simp)), HCSZ.out⟩
    refine N_next 19 rfl (by kernel_rfl) (fun K hK => ?_)
    refine step_appU (by rfl) (.tmp 25) (.tmp 29) (by rfl) w0.heap.size (.slice nA k.new.length nc') k.new (by kernel_rfl) (r1.out.own (.slice nA k.new.length nc', k.new) (List.mem_cons_self ..)) (.slice CA ctx.length cc) ctx L2 (by kernel_rfl) CVS2.out HL2.out HB2.out hUw2 ?_
    intro A2 k2 w3 hown2 hgr2 hat2
    have kp2 : KeepU w0 U W.drew w3 := kp1.grown hlo hgr2 (fun g' hg' => own_ge (r1.out.own (.slice nA k.new.length nc', k.new) (List.mem_cons_self ..)) g' hg')
    have far2 : ∀ j, w3.cell? ⟨g, j, none⟩ = w2.cell? ⟨g, j, none⟩ := fun j => grown_cell (p := ⟨g, j, none⟩) hgr2 hgw2 (fun e => ne2 g e rfl)
    have farU2 : w3.cell? ⟨U, 8, none⟩ = w2.cell? ⟨U, 8, none⟩ := World.cell?_of_block (w := w2) (kp2.box.trans kp1.box.symm)
    have fz2' : w3.frozen? ⟨g, fin.length * 4 + 2, none⟩ = false := (grown_frozen (p := ⟨g, fin.length * 4 + 2, none⟩) hgr2 hgw2 (fun e => ne2 g e rfl)).trans fz2
    have fz3' : w3.frozen? ⟨g, fin.length * 4 + 3, none⟩ = false := (grown_frozen (p := ⟨g, fin.length * 4 + 3, none⟩) hgr2 hgw2 (fun e => ne2 g e rfl)).trans fz3
    refine hK.out _ _ (fun _ => ?_) (fun hHeld1 => ?_)
    · obtain ⟨q1, q2, q3⟩ := hHeld
      exact ⟨(far2 _).trans q1, (far2 _).trans q2, farU2.trans q3⟩
    clear hK K hHeld
    have hHeld := hHeld1 (by decide)
    clear hHeld1
    try simp only [Act.put, List.setIfInBounds_toArray, List.set_cons_zero, List.set_cons_succ]
    have LB := RWD.out.setBoth (by decide) hgr1 hown1 hat1 hgr2 hown2 hat2
    have kp3 := (kp2.set hlo (g := g) (by omega) (4 * fin.length + 2) (.slice A1 L1.length k1)).set hlo (g := g) (by omega) (4 * fin.length + 3) (.slice A2 L2.length k2)
    have M3 := HM1.out.drew.reLast (h := k) (hs' := []) kp3 LB
    rw [Nat.mul_comm 4 fin.length] at M3
    have HM3 := hide M3
    obtain ⟨q1, q2, q3⟩ := hHeld
    have s1 : ∀ x, (w3.setCell ⟨g, fin.length * 4 + 2, none⟩ x).cell? ⟨g, fin.length * 4 + 3, none⟩ = some (.slice nA k.new.length nc') := fun x => (World.cell?_setCell_other _ _ _ _ (by simp <;> omega)).trans q2
    have s2 : ∀ x, (w3.setCell ⟨g, fin.length * 4 + 2, none⟩ x).frozen? ⟨g, fin.length * 4 + 3, none⟩ = false := fun x => by rw [World.frozen?_setCell]; exact fz3'
    clear LB kp3 M3 hgr1 hgr2 hown1 hown2 hat1 hat2 far1 far2 farU farU2 kp1 kp2 ne1 ne2 q3 d2 d3
    refine N_takeW 20 (v := ?_) rfl (by kernel_rfl) (by kernel_rfl) (by kernel_rfl) (by kernel_rfl) (fun _ _ _ h => h) (Or.inl ⟨by rfl, ?_⟩) ?_
    rotate_left
    · (intro w hSw; go_simp; try with_reducible rfl)
    try simp only [Act.put, List.setIfInBounds_toArray, List.set_cons_zero, List.set_cons_succ]
    refine N_takeW 21 (v := ?_) rfl (by kernel_rfl) (by kernel_rfl) (by kernel_rfl) (by kernel_rfl) (fun _ _ _ h => h) (Or.inl ⟨by rfl, ?_⟩) ?_
    rotate_left
    · (intro w hSw; go_simp; try with_reducible rfl)
    try simp only [Act.put, List.setIfInBounds_toArray, List.set_cons_zero, List.set_cons_succ]
    refine N_next 22 rfl (by kernel_rfl) (fun K hK => ?_)
    go_simp
    refine hK.out _ _ (fun h => absurd h (by decide)) (fun _ => ?_)
    clear hK K
    try simp only [Act.put, List.setIfInBounds_toArray, List.set_cons_zero, List.set_cons_succ]
    refine N_takeW 23 (v := ?_) rfl (by kernel_rfl) (by kernel_rfl) (by kernel_rfl) (by kernel_rfl) (fun _ _ _ h => h) (Or.inl ⟨by rfl, ?_⟩) ?_
    rotate_left
    · (intro w hSw; go_simp; try with_reducible rfl)
    try simp only [Act.put, List.setIfInBounds_toArray, List.set_cons_zero, List.set_cons_succ]
    refine N_takeW 24 (v := ?_) rfl (by kernel_rfl) (by kernel_rfl) (by kernel_rfl) (by kernel_rfl) (fun _ _ _ h => h) (Or.inl ⟨by rfl, ?_⟩) ?_
    rotate_left
    · (intro w hSw; go_simp; try with_reducible rfl)
    try simp only [Act.put, List.setIfInBounds_toArray, List.set_cons_zero, List.set_cons_succ]
    refine N_next 25 rfl (by kernel_rfl) (fun K hK => ?_)
    go_simp
    refine hK.out _ _ (fun h => absurd h (by decide)) (fun _ => ?_)
    clear hK K
    refine N_done (by kernel_rfl) ?_ _
    clear s1 s2 q1 q2 fz2 fz3 fz2' fz3' y2 y3 c7 c8
    generalize (w3.setCell ⟨g, fin.length * 4 + 2, none⟩ (.slice A1 L1.length k1)).setCell ⟨g, fin.length * 4 + 3, none⟩ (.slice A2 L2.length k2) = w4 at *
    obtain ⟨x7, d7'⟩ : ∃ x, w4.cell? ⟨U, 7, none⟩ = some x := ⟨_, UnMem.cell HM3.out 7 (by rw [← HCS.out]; rfl)⟩
    obtain ⟨x8, d8'⟩ : ∃ x, w4.cell? ⟨U, 8, none⟩ = some x := ⟨_, UnMem.cell HM3.out 8 (by rw [← HCS.out]; rfl)⟩
    have d7 : w4.frozen? ⟨U, 7, none⟩ = false := UnMem.frozen HM3.out 7
    have d8 : w4.frozen? ⟨U, 8, none⟩ = false := UnMem.frozen HM3.out 8
    go_wp2_with fail
    go_end0
    have hfin := ((HM3.out.set 7 (.pointer none)).set 8 (.slice none 0 0)).drop
    rw [← HCS.out, ← HL1.out, ← HL2.out] at hfin
    have e1 : Un.all (Un.shut ⟨fin, some k, oa, oc, na, nc, oe, de, ctx, long⟩) = fin ++ [{ k with old := k.old ++ ctx, new := k.new ++ ctx }] := by simp [Un.all, Un.shut, shutH]
    have e2 : (unCells (Un.shut ⟨fin, some k, oa, oc, na, nc, oe, de, ctx, long⟩) (.slice (some ⟨g, 0, none⟩) (fin.length + 1) cap) (.slice none 0 0)) = ((unCells ⟨fin, some k, oa, oc, na, nc, oe, de, ctx, long⟩ (.slice (some ⟨g, 0, none⟩) (fin.length + 1) cap) (.slice CA ctx.length cc)).setIfInBounds 7 (.pointer none)).setIfInBounds 8 (.slice none 0 0) := rfl
    rw [← e1, ← e2] at hfin
    exact ⟨rfl, _, _, _, hfin⟩
end Go.Proofs.YtinpgnekjebipaaDoor
