/- (*delta.patcher).put. -/
import Derived.Test.YtfjbdbdjhkmifaaPtB
import Derived.Test.YtfjbdbdjhkmifaaPtQ
import Derived.Test.YtfjbdbdjhkmifaaPtK
import Derived.Laws.ResultCell
import Derived.Laws.Rows
set_option linter.unusedVariables false
set_option linter.unusedSimpArgs false
namespace Go.Proofs.Ytfjbdbdjhkmifaa
open Go.RowKit Go.Pw
theorem own_type' {w : World} {base e size n : Nat} {v : Value} {xs : List Value} (h : w.ownsRow base e size v n xs) {k : Nat} {cs : Array Value} {t : TypeId} {z : Nat × Nat} (hk : w.heap[k]? = some (.cells cs t z)) (ht : t ≠ e) : v.ownBlock ≠ some k := by
  intro he
  rcases h.2 with ⟨rfl, _⟩ | ⟨g, cap, cur, rfl, _, hh, _⟩
  · simp [Value.ownBlock] at he
  · simp [Value.ownBlock] at he
    subst he
    rw [hh] at hk
    injection hk with hk
    injection hk with _ hk
    exact ht hk.symm
/-- blocks of other types than strings are as they were, but one -/
def OffS (w w' : World) (pb : Nat) : Prop := ∀ (k : Nat) (cs : Array Value) (t : TypeId) (z : Nat × Nat), k ≠ pb → w.heap[k]? = some (.cells cs t z) → t ≠ 9 → w'.heap[k]? = w.heap[k]?
theorem OffS.refl (w : World) (M : Nat) : OffS w w M := fun _ _ _ _ _ _ _ => rfl
theorem OffS.trans {w w1 w2 : World} {M : Nat} (h1 : OffS w w1 M) (h2 : OffS w1 w2 M) : OffS w w2 M := fun k cs t z hk hh ht => (h2 k cs t z hk ((h1 k cs t z hk hh ht).trans hh) ht).trans (h1 k cs t z hk hh ht)
theorem OffS.of_below {w w' : World} {M : Nat} (h : Below w.heap.size w w') : OffS w w' M := fun k cs t z _ hh _ => h.block k (Array.getElem?_eq_some_iff.1 hh).1

def PlAt (w : World) (b : Nat) (a0 a1 a2 a3 a4 : Value) : Prop := w.heap[b]? = some (.cells #[a0, a1, a2, a3, a4] 50 (0, 0))
theorem PlAt.set {w : World} {b : Nat} {a0 a1 a2 a3 a4 : Value} (h : PlAt w b a0 a1 a2 a3 a4) (b0 b1 b2 b3 b4 : Value) : PlAt (((((w.setCell ⟨b, 0, none⟩ b0).setCell ⟨b, 1, none⟩ b1).setCell ⟨b, 2, none⟩ b2).setCell ⟨b, 3, none⟩ b3).setCell ⟨b, 4, none⟩ b4) b b0 b1 b2 b3 b4 := by
  unfold PlAt at h ⊢
  simp [World.setCell, Array.getElem?_modify, h]
theorem PlAt.set_below {w0 w : World} {N b : Nat} (hb : Below N w0 w) (hN : N ≤ b) (b0 b1 b2 b3 b4 : Value) : Below N w0 (((((w.setCell ⟨b, 0, none⟩ b0).setCell ⟨b, 1, none⟩ b1).setCell ⟨b, 2, none⟩ b2).setCell ⟨b, 3, none⟩ b3).setCell ⟨b, 4, none⟩ b4) := ((((hb.setCell (p := ⟨b, 0, none⟩) hN b0).setCell (p := ⟨b, 1, none⟩) hN b1).setCell (p := ⟨b, 2, none⟩) hN b2).setCell (p := ⟨b, 3, none⟩) hN b3).setCell (p := ⟨b, 4, none⟩) hN b4
theorem PlAt.frozen {w : World} {b : Nat} {a0 a1 a2 a3 a4 : Value} (h : PlAt w b a0 a1 a2 a3 a4) (j : Nat) : w.frozen? ⟨b, j, none⟩ = false := by
  unfold PlAt at h
  simp [World.frozen?, h]
theorem PlAt.cells {w : World} {b : Nat} {a0 a1 a2 a3 a4 : Value} (h : PlAt w b a0 a1 a2 a3 a4) : w.cell? ⟨b, 0, none⟩ = some a0 ∧ w.cell? ⟨b, 1, none⟩ = some a1 ∧ w.cell? ⟨b, 2, none⟩ = some a2 ∧ w.cell? ⟨b, 3, none⟩ = some a3 ∧ w.cell? ⟨b, 4, none⟩ = some a4 := by
  unfold PlAt at h
  simp [World.cell?, h]
theorem own_shape {w : World} {base e size n : Nat} {v : Value} {xs : List Value} (h : w.ownsRow base e size v n xs) : ∃ A c, v = .slice A n c := by
  rcases h.2 with ⟨rfl, rfl⟩ | ⟨g, cap, cur, rfl, _⟩
  · exact ⟨_, _, rfl⟩
  · exact ⟨_, _, rfl⟩
theorem PatAt.set {w : World} {pb : Nat} {v : Value} {del off fin : Int} (h : PatAt w pb v del off fin) (v' : Value) (d o f : Int) : PatAt ((((w.setCell ⟨pb, 0, none⟩ v').setCell ⟨pb, 1, none⟩ (.int .i64 d)).setCell ⟨pb, 2, none⟩ (.int .i64 o)).setCell ⟨pb, 3, none⟩ (.int .i64 f)) pb v' d o f := by
  unfold PatAt at h ⊢
  simp [World.setCell, Array.getElem?_modify, h]
theorem PatAt.frozen {w : World} {pb : Nat} {v : Value} {del off fin : Int} (h : PatAt w pb v del off fin) (j : Nat) : w.frozen? ⟨pb, j, none⟩ = false := by
  unfold PatAt at h
  simp [World.frozen?, h]
theorem PatAt.set_below {w0 w : World} {N b : Nat} (hb : Below N w0 w) (hN : N ≤ b) (b0 b1 b2 b3 : Value) : Below N w0 ((((w.setCell ⟨b, 0, none⟩ b0).setCell ⟨b, 1, none⟩ b1).setCell ⟨b, 2, none⟩ b2).setCell ⟨b, 3, none⟩ b3) := (((hb.setCell (p := ⟨b, 0, none⟩) hN b0).setCell (p := ⟨b, 1, none⟩) hN b1).setCell (p := ⟨b, 2, none⟩) hN b2).setCell (p := ⟨b, 3, none⟩) hN b3
theorem heap_set4 (w : World) (b k : Nat) (b0 b1 b2 b3 : Value) (h : k ≠ b) : ((((w.setCell ⟨b, 0, none⟩ b0).setCell ⟨b, 1, none⟩ b1).setCell ⟨b, 2, none⟩ b2).setCell ⟨b, 3, none⟩ b3).heap[k]? = w.heap[k]? := by
  have h' : b ≠ k := fun e => h e.symm
  simp [World.setCell, Array.getElem?_modify, h']
theorem heap_set5 (w : World) (b k : Nat) (b0 b1 b2 b3 b4 : Value) (h : k ≠ b) : (((((w.setCell ⟨b, 0, none⟩ b0).setCell ⟨b, 1, none⟩ b1).setCell ⟨b, 2, none⟩ b2).setCell ⟨b, 3, none⟩ b3).setCell ⟨b, 4, none⟩ b4).heap[k]? = w.heap[k]? := by
  have h' : b ≠ k := fun e => h e.symm
  simp [World.setCell, Array.getElem?_modify, h']
theorem info_place : (Try.prog.info? 50).map (·.size) = some 5 := by kernel_rfl
theorem results_pl {fn : Func} {p u : Tmp} (h : fn.results = #[.cell p 50, .tmp u]) (tmps : Array Value) (w : World) (g : Nat) (a0 a1 a2 a3 a4 : Value)
    (hp : tmps.getD p undef = .pointer (some ⟨g, 0, none⟩)) (hg : PlAt w g a0 a1 a2 a3 a4) : (results fn tmps).run Try.prog w = .ok (.tuple #[.agg #[a0, a1, a2, a3, a4], tmps.getD u undef]) w := by
  rw [results_cell_tmp h, hp]
  simp [asAddr, run_loadVar_row w g 50 50 #[a0, a1, a2, a3, a4] (0, 0) _ hg Try.underlying50 rfl info_place, Result.andThen]
def putOk (pb base : Nat) (h : Hk) (f : Nat) (s : Pt) (w : World) (e : Ending) (w' : World) : Prop :=
  match putP h f s with
  | none => e = .returned (.tuple #[.agg #[.int .i64 0, .int .i64 0, .int .i64 0, .int .i64 0, .bool false], .bool false]) ∧ Below w.heap.size w w'
  | some k => ∃ A ca, e = .returned (.tuple #[.agg #[.int .i64 0, .int .i64 (k : Int), .int .i64 ((k : Int) - Pw.due h f s), .int .i64 (f : Int), .bool true], .bool true]) ∧
      PatAt w' pb (.slice A (putAt h f s k).lst.length ca) (putAt h f s k).del (putAt h f s k).off (putAt h f s k).fin ∧ w'.ownsRow base 9 1 (.slice A (putAt h f s k).lst.length ca) (putAt h f s k).lst.length ((putAt h f s k).lst.map Value.string) ∧
      Below base w w' ∧ OffS w w' pb
set_option maxHeartbeats 4000000 in
set_option maxRecDepth 100000 in
theorem put_any (pb base : Nat) (A : Option Addr) (ca : Nat) (s : Pt) (h : Hk) (A1 A2 : Option Addr) (c1 c2 : Nat) (f : Nat) (w : World) (hp : PatAt w pb (.slice A s.lst.length ca) s.del s.off s.fin) (hpb : base ≤ pb)
    (ho : w.ownsRow base 9 1 (.slice A s.lst.length ca) s.lst.length (s.lst.map Value.string)) (hs1 : Strs w (.slice A1 h.old.length c1) h.old) (hs2 : Strs w (.slice A2 h.new.length c2) h.new)
    (hd2 : 0 < h.new.length → ∀ g, (Value.slice A2 h.new.length c2).ownBlock = some g → g < base) (hsz : ∀ x ∈ s.lst, x.size ≤ maxLen)
    (ho1 : h.old.length ≤ 1000) (ho2 : h.new.length ≤ 1000) (hf1 : 0 ≤ h.frm) (hf2 : h.frm ≤ 1000000) (hf : f ≤ 10) (hl : s.lst.length ≤ 50000000) (hfin : s.fin ≤ 50000000) (hdl : -50000000 ≤ s.del ∧ s.del ≤ 50000000) (hof : -200000000 ≤ s.off ∧ s.off ≤ 200000000) :
    Calls Try.prog 48 #[.pointer (some ⟨pb, 0, none⟩), .agg #[.int .i64 h.frm, .int .i64 h.to_, .slice A1 h.old.length c1, .slice A2 h.new.length c2], .int .i64 (f : Int)] w (putOk pb base h f s w) := by
  have HS1 := hide hs1
  have HS2 := hide hs2
  have HO := hide ho
  have HP := hide hp
  have hb1 : Below w.heap.size w (w.alloc (.cells #[.int .i64 h.frm, .int .i64 h.to_, .slice A1 h.old.length c1, .slice A2 h.new.length c2] 43)) := (Below.refl _ _).alloc (Nat.le_refl _) _
  go_enter Try.func48, Try.ntmps48
  go_wp2_with fail
  obtain ⟨W0, hW0⟩ : ∃ W0, W0 = (w.alloc (.cells #[.int .i64 h.frm, .int .i64 h.to_, .slice A1 h.old.length c1, .slice A2 h.new.length c2] 43)).alloc (.cells #[.int .i64 0, .int .i64 0, .int .i64 0, .int .i64 0, .bool false] 50) := ⟨_, rfl⟩
  rw [← hW0]
  have hbW : Below w.heap.size w W0 := by rw [hW0]; exact hb1.alloc (by simp) _
  have hz0 : W0.heap.size = w.heap.size + 2 := by rw [hW0]; simp
  have hbx : W0.heap[w.heap.size]? = some (.cells #[.int .i64 h.frm, .int .i64 h.to_, .slice A1 h.old.length c1, .slice A2 h.new.length c2] 43 (0, 0)) := by rw [hW0]; exact (heap_alloc_old _ _ (by simp)).trans (heap_alloc_new _ _)
  have hpl : W0.heap[w.heap.size + 1]? = some (.cells #[.int .i64 0, .int .i64 0, .int .i64 0, .int .i64 0, .bool false] 50 (0, 0)) := by rw [hW0]; simpa using heap_alloc_new (w.alloc (.cells #[.int .i64 h.frm, .int .i64 h.to_, .slice A1 h.old.length c1, .slice A2 h.new.length c2] 43)) (.cells #[.int .i64 0, .int .i64 0, .int .i64 0, .int .i64 0, .bool false] 50)
  clear hW0 hb1
  have HBX := hide hbx
  have HPL := hide hpl
  refine (same_any _ _ h.old h.new W0 (HS1.out.below hbW) (HS2.out.below hbW) (by omega) (by omega)).mono ?_
  rintro e w1 ⟨rfl, q, rfl⟩
  obtain ⟨w1, hw1⟩ : ∃ w1, w1 = W0.drewN q := ⟨_, rfl⟩
  rw [← hw1]
  have hbw1 : Below w.heap.size w w1 := by rw [hw1]; exact below_drewN hbW q
  have hz1 : w1.heap.size = w.heap.size + 2 := by rw [hw1]; exact hz0
  have hbx1 : w1.heap[w.heap.size]? = some (.cells #[.int .i64 h.frm, .int .i64 h.to_, .slice A1 h.old.length c1, .slice A2 h.new.length c2] 43 (0, 0)) := by rw [hw1]; exact hbx
  have hpl1 : w1.heap[w.heap.size + 1]? = some (.cells #[.int .i64 0, .int .i64 0, .int .i64 0, .int .i64 0, .bool false] 50 (0, 0)) := by rw [hw1]; exact hpl
  clear hw1 hbW hbx hpl HBX HPL hz0
  have x0 : w1.cell? ⟨w.heap.size, 0, none⟩ = some (.int .i64 h.frm) := by rw [Lib.cell_of_heap hbx1]; rfl
  have x2 : w1.cell? ⟨w.heap.size, 2, none⟩ = some (.slice A1 h.old.length c1) := by rw [Lib.cell_of_heap hbx1]; rfl
  have x3 : w1.cell? ⟨w.heap.size, 3, none⟩ = some (.slice A2 h.new.length c2) := by rw [Lib.cell_of_heap hbx1]; rfl
  obtain ⟨p, hpdef⟩ : ∃ p, pre h.old h.new = p := ⟨_, rfl⟩
  have hpl2 := pre_le h.old h.new
  rw [hpdef] at hpl2 ⊢
  have HPD := hide hpdef
  clear hpdef
  obtain ⟨va, hva, hsa⟩ := cut_from (HS1.out.below hbw1) (k := p) hpl2.1
  obtain ⟨vb, hvb, hsb⟩ := cut_from (HS2.out.below hbw1) (k := p) hpl2.2
  have hfs := fz_sum h f
  obtain ⟨H, hH⟩ : ∃ H, fzH h f = H := ⟨_, rfl⟩
  obtain ⟨F, hF⟩ : ∃ F, fzF h f = F := ⟨_, rfl⟩
  have hmH : min (p : Int) (f : Int) = (H : Int) := by rw [← hH, ← HPD.out]; unfold fzH; omega
  have hmF : min ((pre (h.old.drop p).reverse (h.new.drop p).reverse : Nat) : Int) (f : Int) = (F : Int) := by rw [← hF, ← HPD.out]; unfold fzF; omega
  rw [hH, hF] at hfs
  have hLO := fzO_length h f
  have hLN := fzN_length h f
  have hLO' : (fzO h f).length ≤ 1000 := by omega
  have hLN' : (fzN h f).length ≤ 1000 := by omega
  have hLN0 : 0 < (fzN h f).length → 0 < h.new.length := by omega
  clear hLO hLN
  have cut : ∀ (X : Option Addr) (cx : Nat) (l : List ByteArray), Strs w1 (.slice X l.length cx) l → H + F ≤ l.length → ∃ Y n cy, (∀ W, (Instr.slice 22 (.slice X l.length cx) (some (.int .i64 (H : Int))) (some (.int .i64 ((l.length : Int) - (F : Int)))) none).run Try.prog W = .ok (.slice Y n cy) W) ∧ Strs w1 (.slice Y n cy) ((l.drop H).take (l.length - F - H)) ∧ ∀ g, (Value.slice Y n cy).ownBlock = some g → (Value.slice X l.length cx).ownBlock = some g := by
    intro X cx l hl hle
    have hk2 := hl.sliced (lo := H) (hi := l.length - F) (by omega) (by omega)
    have hc : l.length ≤ cx := by obtain ⟨⟨_, _, _, hv, hc, _⟩, _⟩ := hl; injection hv with _ _ e; omega
    have i1 : (H : Int) ≤ (l.length : Int) - (F : Int) := by omega
    have i2 : (l.length : Int) - (F : Int) ≤ (cx : Int) := by omega
    have i3 : ((l.length : Int) - (F : Int)).toNat = l.length - F := by omega
    refine ⟨_, _, _, fun W => ?_, hk2, fun g hg => ?_⟩
    · simp [go_sem, i1, i2, i3]
    · cases X with
      | none => split at hg <;> simp [Value.ownBlock] at hg
      | some a =>
        split at hg
        · exact hg
        · simp only [Value.ownBlock, Option.map_some, Addr.add] at hg ⊢
          split at hg <;> exact hg
  obtain ⟨YO, nO, cO, hcO, hsO, _⟩ := cut A1 c1 h.old (HS1.out.below hbw1) hfs.1
  obtain ⟨YN, nN, cN, hcN, hsN, hbN0⟩ := cut A2 c2 h.new (HS2.out.below hbw1) hfs.2
  have hfO : (h.old.drop H).take (h.old.length - F - H) = fzO h f := by unfold fzO; rw [hH, hF]
  have hfN : (h.new.drop H).take (h.new.length - F - H) = fzN h f := by unfold fzN; rw [hH, hF]
  have hbN : 0 < (fzN h f).length → ∀ g, (Value.slice YN nN cN).ownBlock = some g → g < base := fun hpos g hg => hd2 (hLN0 hpos) g (hbN0 g hg)
  rw [hfO] at hsO
  rw [hfN] at hsN
  obtain rfl := hsO.len
  obtain rfl := hsN.len
  have HSO := hide hsO
  have HSN := hide hsN
  obtain ⟨D, hD⟩ : ∃ D, h.frm + (H : Int) + s.del = D := ⟨_, rfl⟩
  have hDue : Hid (Pw.due h f s = D) := by show _ = _; rw [← hD, ← hH]; rfl
  have hw1' : IntKind.i64.wrap (h.frm + (H : Int)) = h.frm + (H : Int) := by rw [IntKind.wrap_i64]; omega
  have hw2' : IntKind.i64.wrap (h.frm + (H : Int) + s.del) = h.frm + (H : Int) + s.del := by rw [IntKind.wrap_i64]; omega
  have hDb : -50000000 ≤ D ∧ D ≤ 52000000 := by omega
  have HFS := hide hfs
  clear hbN0 cut hfO hfN hsO hsN hfs hH hF
  have HT := hide (tail_any va vb (h.old.drop p) (h.new.drop p) w1.drew (hsa.drewN 1) (hsb.drewN 1) (by rw [List.length_drop]; omega) (by rw [List.length_drop]; omega))
  clear hsa hsb
  go_wp2_with fail
  go_region_law (go_simp; go_at_call 74; (with_reducible refine (HT.out).mono ?_); rintro e wc ⟨rfl, hbc⟩; go_wp2_with fail)
  all_goals
    have hbc1 : Below w1.heap.size w1 wc := ⟨hbc.os, hbc.tape, hbc.output, hbc.size, hbc.block⟩
    have hbxc : wc.heap[w.heap.size]? = some (.cells #[.int .i64 h.frm, .int .i64 h.to_, .slice A1 h.old.length c1, .slice A2 h.new.length c2] 43 (0, 0)) := (hbc1.block _ (by omega)).trans hbx1
    have hplc : wc.heap[w.heap.size + 1]? = some (.cells #[.int .i64 0, .int .i64 0, .int .i64 0, .int .i64 0, .bool false] 50 (0, 0)) := (hbc1.block _ (by omega)).trans hpl1
    have y0 : wc.cell? ⟨w.heap.size, 0, none⟩ = some (.int .i64 h.frm) := by rw [Lib.cell_of_heap hbxc]; rfl
    have y2 : wc.cell? ⟨w.heap.size, 2, none⟩ = some (.slice A1 h.old.length c1) := by rw [Lib.cell_of_heap hbxc]; rfl
    have y3 : wc.cell? ⟨w.heap.size, 3, none⟩ = some (.slice A2 h.new.length c2) := by rw [Lib.cell_of_heap hbxc]; rfl
    have hbwc : Below w.heap.size w wc := hbw1.trans (hbc1.mono (by omega))
    have hpc := HP.out.below hbwc
    have q1 := hpc.c1
    have q2 := hpc.c2
    have HPC := hide hpc
    have HBW := hide hbwc
    have HPLC := hide hplc
    clear hbx1 hpl1 x0 x2 x3 hbc hbxc hplc hpc hbwc
    have hzc : w.heap.size + 2 ≤ wc.heap.size := by have := hbc1.size; omega
    go_wp2_with fail
    go_quiet (fail)
    revert nq
    intro nq1
    go_wp2_with fail
    go_quiet (fail)
    obtain ⟨w5, hw5⟩ : ∃ w5, w5 = (wc.drewN nq1).drewN nq := ⟨_, rfl⟩
    have hb5 : Below w.heap.size w w5 := by rw [hw5]; exact below_drewN (below_drewN HBW.out nq1) nq
    have hb15 : Below w1.heap.size w1 w5 := by rw [hw5]; exact below_drewN (below_drewN hbc1 nq1) nq
    have hp5 : PatAt w5 pb (.slice A s.lst.length ca) s.del s.off s.fin := by rw [hw5]; exact HPC.out
    have hz5 : w.heap.size + 2 ≤ w5.heap.size := by rw [hw5]; exact hzc
    have hpl5 : w5.heap[w.heap.size + 1]? = some (.cells #[.int .i64 0, .int .i64 0, .int .i64 0, .int .i64 0, .bool false] 50 (0, 0)) := by rw [hw5]; exact HPLC.out
    rw [← hw5]
    clear hw5 hbc1 HBW HPC HPLC y0 y2 y3 q1 q2
    have q3 := hp5.c2
    have HP5 := hide hp5
    have HPL5 := hide hpl5
    have HB5 := hide hb5
    have hw3' : IntKind.i64.wrap (D + s.off) = D + s.off := by rw [IntKind.wrap_i64]; omega
    have hpla := place_any pb A ca s.lst (.slice YO (fzO h f).length cO) (fzO h f) (D + s.off) s.del s.off s.fin w5 hp5 ((own_strs HO.out hsz).below hb5) (HSO.out.below hb15) (by omega) (by omega) (by omega) (by omega) (by omega)
    have hput : putP h f s = plc s.lst (fzO h f) (D + s.off) s.fin := by unfold putP; rw [hDue.out]
    have HSN5 := hide (HSN.out.below hb15)
    clear hpl5 hb5 hb15
    cases hpp : plc s.lst (fzO h f) (D + s.off) s.fin with
    | none =>
      rw [hpp] at hpla hput
      have HPA := hide hpla
      have HPUT := hide hput
      clear hpla hput hpp hp5
      go_wp2_with fail
      refine HPA.out.mono ?_
      rintro e w6 ⟨rfl, hb6⟩
      have hpl6 := (hb6.block _ (by omega)).trans HPL5.out
      have HPL6 := hide hpl6
      obtain ⟨z0, z1, z2, z3, z4⟩ := PlAt.cells hpl6
      have zf := fun j => PlAt.frozen hpl6 j
      have zf0 := zf 0
      have zf1 := zf 1
      have zf2 := zf 2
      have zf3 := zf 3
      have zf4 := zf 4
      have hz6 : w.heap.size + 1 < w6.heap.size := by have := hb6.size; omega
      clear hpl6 zf
      go_wp2_with fail
      refine bodyPost_ret (results_pl rfl _ _ (w.heap.size + 1) _ _ _ _ _ rfl (PlAt.set HPL6.out _ _ _ _ _)) rfl ?_
      show putOk pb base h f s w _ _
      unfold putOk
      rw [HPUT.out]
      exact ⟨rfl, PlAt.set_below (HB5.out.trans (hb6.mono (by omega))) (by omega) _ _ _ _ _⟩
    | some k =>
      rw [hpp] at hpla hput
      obtain ⟨hfk, hfit⟩ := plc_near hpp
      have hfit1 := hfit.1
      have HPA := hide hpla
      have HPUT := hide hput
      have HFIT := hide hfit
      have HO5 := hide (own_below HO.out HB5.out)
      clear hpla hput hpp hp5 hfit
      go_wp2_with fail
      refine HPA.out.mono ?_
      rintro e w6 ⟨rfl, hb6⟩
      have hp6 := HP5.out.below hb6
      have u0 := hp6.c0
      have ho6 := own_below HO5.out hb6
      have hbb : base ≤ w6.heap.size := by have := hp6.lt; omega
      have hrep := replace_any A ca s.lst k (k + (fzO h f).length) (.slice YN (fzN h f).length cN) (fzN h f) base w6 ho6 (HSN5.out.below hb6) (fun hpos g hg e => by have := hbN hpos g hg; have := own_ge ho6 g e; omega) (by omega) (by omega) (by omega) (by omega) hbb hsz
      simp only [Int.natCast_add] at hrep
      have HREP := hide hrep
      have HP6 := hide hp6
      have HPL6 := hide ((hb6.block (w.heap.size + 1) (by omega)).trans HPL5.out)
      have hz6 : w.heap.size + 1 < w6.heap.size := by have := hb6.size; omega
      have hw4' : IntKind.i64.wrap ((k : Int) + ((fzO h f).length : Int)) = (k : Int) + ((fzO h f).length : Int) := by rw [IntKind.wrap_i64]; omega
      clear hrep hp6 ho6 q3
      simp only [getP, Option.getD_some, Option.isSome_some]
      go_wp2_with fail
      refine HREP.out.mono ?_
      rintro e w7 ⟨v7, rfl, ho7, hg7⟩
      obtain ⟨R, hR⟩ : ∃ R, s.lst.take k ++ (fzN h f ++ s.lst.drop (k + (fzO h f).length)) = R := ⟨_, rfl⟩
      rw [hR] at ho7
      have HR := hide hR
      clear hR
      obtain ⟨A7, c7, rfl⟩ := own_shape ho7
      have hp7 : PatAt w7 pb (.slice A s.lst.length ca) s.del s.off s.fin := (hg7.block pb HP6.out.lt (own_type' (own_below HO5.out hb6) HP6.out (by decide)).symm).trans HP6.out
      have hpl7 : w7.heap[w.heap.size + 1]? = _ := (hg7.block _ (by omega) (own_type' (own_below HO5.out hb6) HPL6.out (by decide)).symm).trans HPL6.out
      have hz7 : w.heap.size + 1 < w7.heap.size := by have := hg7.size; omega
      have v0 := hp7.c0
      have v1 := hp7.c1
      have v2 := hp7.c2
      have v3 := hp7.c3
      have vf0 := hp7.frozen 0
      have vf1 := hp7.frozen 1
      have vf2 := hp7.frozen 2
      have vf3 := hp7.frozen 3
      obtain ⟨z0, z1, z2, z3, z4⟩ := PlAt.cells hpl7
      have zf0 := PlAt.frozen hpl7 0
      have zf1 := PlAt.frozen hpl7 1
      have zf2 := PlAt.frozen hpl7 2
      have zf3 := PlAt.frozen hpl7 3
      have zf4 := PlAt.frozen hpl7 4
      have hpbw := hp.lt
      have hne1 : ¬ (pb = w.heap.size + 1) := by omega
      have hne2 : ¬ (w.heap.size + 1 = pb) := by omega
      have hw5' : IntKind.i64.wrap (s.del + (((fzN h f).length : Int) - ((fzO h f).length : Int))) = s.del + (((fzN h f).length : Int) - ((fzO h f).length : Int)) := by rw [IntKind.wrap_i64]; omega
      have hw6' : IntKind.i64.wrap ((k : Int) - D) = (k : Int) - D := by rw [IntKind.wrap_i64]; omega
      have hw7' : IntKind.i64.wrap ((k : Int) + ((fzN h f).length : Int)) = (k : Int) + ((fzN h f).length : Int) := by rw [IntKind.wrap_i64]; omega
      have HP7 := hide hp7
      have HPL7 := hide hpl7
      have HO7 := hide ho7
      have HG7 := hide hg7
      clear hp7 hpl7 ho7 hg7 u0
      go_wp2_with fail
      refine bodyPost_ret (results_pl rfl _ _ (w.heap.size + 1) _ _ _ _ _ rfl (PlAt.set ((heap_set4 _ pb _ _ _ _ _ hne2).trans HPL7.out) _ _ _ _ _)) rfl ?_
      show putOk pb base h f s w _ _
      have eR : (putAt h f s k).lst = R := HR.out
      unfold putOk
      rw [HPUT.out]
      dsimp only
      rw [eR, hDue.out]
      refine ⟨A7, c7, rfl, ?_, ?_, ?_, ?_⟩
      · exact (heap_set5 _ (w.heap.size + 1) pb _ _ _ _ _ hne1).trans (by
          have := HP7.out.set (.slice A7 R.length c7) (s.del + (((fzN h f).length : Int) - ((fzO h f).length : Int))) ((k : Int) - D) ((k : Int) + ((fzN h f).length : Int))
          unfold putAt
          dsimp only
          rw [hDue.out, Int.natCast_add]
          exact this)
      · exact own_off HO7.out fun g hg => (heap_set5 _ (w.heap.size + 1) g _ _ _ _ _ (fun e => own_type' HO7.out HPL7.out (by decide) (by rw [hg, e]))).trans (heap_set4 _ pb g _ _ _ _ (fun e => own_type' HO7.out HP7.out (by decide) (by rw [hg, e])))
      · have b6 : Below base w w6 := (HB5.out.mono (by omega)).trans (hb6.mono (by omega))
        exact PlAt.set_below (PatAt.set_below (b6.grown HG7.out hbb (fun g hg => own_ge (own_below HO5.out hb6) g hg)) hpb _ _ _ _) (by omega) _ _ _ _ _
      · intro i cs t z hi hh ht
        have hlt := (Array.getElem?_eq_some_iff.1 hh).1
        have h6 : w6.heap[i]? = w.heap[i]? := (hb6.block i (by omega)).trans (HB5.out.block i hlt)
        have h7 := HG7.out.block i (by omega) (own_type' (own_below HO5.out hb6) (h6.trans hh) ht).symm
        exact (heap_set5 _ (w.heap.size + 1) i _ _ _ _ _ (by omega)).trans ((heap_set4 _ pb i _ _ _ _ hi).trans (h7.trans h6))
end Go.Proofs.Ytfjbdbdjhkmifaa
