/- The reference's Patched. -/
import Derived.Test.YtfjbdbdjhkmifaaPtN
import Derived.Test.YtfjbdbdjhkmifaaAppend
import Derived.Deep.RegionLaw
import Derived.Deep.DeepCutAuto
set_option linter.unusedVariables false
set_option linter.unusedSimpArgs false
namespace Go.Pw
theorem tryP_off (h : Hk) (i : Nat) (s : Pt) : ∀ (n f : Nat), ((tryP h i s f n).2.done = true → (tryP h i s f n).1.off = (tryP h i s f n).2.off) ∧ ((tryP h i s f n).2.done = false → (tryP h i s f n).1 = s)
  | 0, f => ⟨fun h => (by cases h), fun _ => rfl⟩
  | n + 1, f => by
    rw [tryP]
    split
    · exact ⟨fun _ => rfl, fun h => (by cases h)⟩
    · exact tryP_off h i s n (f + 1)
/-- what is seen of one fuzz, up to the distance dd, and of that the first j -/
def SkAt (h : Hk) (s : Pt) (f dd j : Nat) (s' : Pt) (b1 b2 b3 : Int) (d : Bool) : Prop :=
  (d = false ∧ s' = s ∧ b1 = 0 ∧ b2 = 0 ∧ b3 = 0 ∧ Nf s.lst (fzO h f) (due h f s + s.off) s.fin dd j) ∨
    (d = true ∧ ∃ kk, putP h f s = some kk ∧ s' = putAt h f s kk ∧ b1 = kk ∧ b2 = kk - due h f s ∧ b3 = f)
theorem SkAt.start (h : Hk) (s : Pt) (f : Nat) : SkAt h s f 0 0 s 0 0 0 false := .inl ⟨rfl, rfl, rfl, rfl, rfl, nf_start _ _ _ _⟩
theorem SkAt.done {h : Hk} {s s' : Pt} {f dd j dd' j' : Nat} {b1 b2 b3 : Int} (hs : SkAt h s f dd j s' b1 b2 b3 true) : SkAt h s f dd' j' s' b1 b2 b3 true := by
  rcases hs with ⟨e, _⟩ | hs
  · cases e
  · exact .inr hs
theorem SkAt.same {h : Hk} {s s' : Pt} {f dd j : Nat} {b1 b2 b3 : Int} (hs : SkAt h s f dd j s' b1 b2 b3 false) : s' = s ∧ b1 = 0 ∧ b2 = 0 ∧ b3 = 0 ∧ Nf s.lst (fzO h f) (due h f s + s.off) s.fin dd j := by
  rcases hs with ⟨_, hs⟩ | ⟨e, _⟩
  · exact hs
  · cases e
theorem SkAt.next {h : Hk} {s s' : Pt} {f dd : Nat} {b1 b2 b3 : Int} {d : Bool} (hs : SkAt h s f dd 2 s' b1 b2 b3 d) : SkAt h s f (dd + 1) 0 s' b1 b2 b3 d := by
  rcases hs with ⟨e, e1, e2, e3, e4, hs⟩ | hs
  · exact .inl ⟨e, e1, e2, e3, e4, nf_next hs⟩
  · exact .inr hs
theorem SkAt.miss {h : Hk} {s s' : Pt} {f dd j : Nat} {b1 b2 b3 : Int} (hs : SkAt h s f dd j s' b1 b2 b3 false) (hj : j < 2) {x : Int} (hx : j = 0 ∧ x = due h f s + s.off + dd ∨ j = 1 ∧ x = due h f s + s.off - dd) (hn : ∀ k : Nat, (k : Int) = x → s.fin ≤ k → ¬ Fits s.lst (fzO h f) k) : SkAt h s f dd (j + 1) s 0 0 0 false := by
  obtain ⟨rfl, rfl, rfl, rfl, hf⟩ := hs.same
  refine .inl ⟨rfl, rfl, rfl, rfl, rfl, ?_⟩
  rcases hx with ⟨rfl, rfl⟩ | ⟨rfl, rfl⟩
  · exact nf_one hf hn
  · exact nf_two hf hn
theorem SkAt.hit {h : Hk} {s s' : Pt} {f dd j kk : Nat} {b1 b2 b3 : Int} (hs : SkAt h s f dd j s' b1 b2 b3 false) (hx : j = 0 ∧ (kk : Int) = due h f s + s.off + dd ∨ j = 1 ∧ (kk : Int) = due h f s + s.off - dd) (h1 : s.fin ≤ kk) (h2 : Fits s.lst (fzO h f) kk) (j' : Nat) : SkAt h s f dd j' (putAt h f s kk) kk (kk - due h f s) f true := by
  obtain ⟨rfl, rfl, rfl, rfl, hf⟩ := hs.same
  exact .inr ⟨rfl, kk, nf_hit hf h1 h2 hx, rfl, rfl, rfl, rfl⟩
theorem pre_take : ∀ (o m : List ByteArray), o.length ≤ m.length → (pre o m = o.length ↔ m.take o.length = o)
  | [], m, _ => by simp [pre]
  | x :: o, [], h => by simp at h
  | x :: o, y :: m, h => by
    have ih := pre_take o m (by simpa using h)
    rw [pre]
    split
    · rename_i e
      subst e
      simp only [List.length_cons, List.take_succ_cons, List.cons.injEq, true_and]
      rw [← ih]; omega
    · rename_i e
      simp only [List.length_cons, List.take_succ_cons, List.cons.injEq]
      constructor
      · intro h; omega
      · intro h; exact absurd h.1.symm e
theorem fits_pre {l o : List ByteArray} {k : Nat} (h : k + o.length ≤ l.length) : Fits l o k ↔ ¬ (pre o (l.drop k) < o.length) := by
  have h1 := pre_take o (l.drop k) (by rw [List.length_drop]; omega)
  have h2 := (pre_le o (l.drop k)).1
  unfold Fits
  rw [← h1]
  constructor
  · intro h3; omega
  · intro h3; exact ⟨h, by omega⟩
end Go.Pw
namespace Go.Proofs.Ytfjbdbdjhkmifaa
open Go.RowKit Go.Pw
theorem SkAt.out {h : Hk} {i : Nat} {s s0 s' : Pt} {fz f dd : Nat} {a1 a2 a3 b1 b2 b3 : Int} {d : Bool} (hs : SkAt h s f dd 0 s' b1 b2 b3 d) (ht : TryAt h i s fz f s0 a1 a2 a3 false) (hf : f ≤ fz) {e : Int} (hd : Due s e) (he : e ≤ h.frm) (hfz : fz ≤ 10) (hx : d = true ∨ 2000 + (s.lst.length : Int) + h.frm < dd) : TryAt h i s fz (f + 1) s' b1 b2 b3 d := by
  rcases hs with ⟨rfl, rfl, rfl, rfl, rfl, hn⟩ | ⟨rfl, kk, hp, rfl, rfl, rfl, rfl⟩
  · rcases hx with hx | hx
    · cases hx
    · refine ht.miss hf ?_
      obtain ⟨d1, d2, d3⟩ := hd
      have hD : Pw.due h f s' = h.frm + fzH h f + s'.del := rfl
      have hH : fzH h f ≤ f := by unfold fzH; omega
      exact nf_end hn (by rw [hD]; omega) (by rw [hD]; omega) (by omega)
  · exact ht.hit hf hp
/-- a part of a slice between H and its length less F -/
theorem cut_hf {w : World} (X : Option Addr) (cx : Nat) (l : List ByteArray) (H F : Nat) (hl : Strs w (.slice X l.length cx) l) (hle : H + F ≤ l.length) : ∃ Y n cy, (∀ W, (Instr.slice 22 (.slice X l.length cx) (some (.int .i64 (H : Int))) (some (.int .i64 ((l.length : Int) - (F : Int)))) none).run Try.prog W = .ok (.slice Y n cy) W) ∧ Strs w (.slice Y n cy) ((l.drop H).take (l.length - F - H)) := by
  obtain ⟨vk, hk1, hk2⟩ := cut_both hl (lo := H) (hi := l.length - F) (by omega) (by omega)
  obtain ⟨Y, n, cy, rfl⟩ := strs_form hk2
  rw [show ((l.length - F : Nat) : Int) = (l.length : Int) - (F : Int) by omega] at hk1
  exact ⟨Y, n, cy, hk1, hk2⟩
/-- the memory of the reference within one hunk -/
structure RfAt (w wj : World) (N k : Nat) (hc : Array Value) (pl : List Pl) (pv : Value) (A : Option Addr) (c : Nat) (s' : Pt) (b1 b2 b3 : Int) (d : Bool) : Prop where
  own : wj.ownsRow w.heap.size 9 1 (.slice A s'.lst.length c) s'.lst.length (s'.lst.map Value.string)
  row : wj.ownsRow w.heap.size 50 5 pv k (plCells pl)
  box : wj.heap[N]? = some (.cells hc 43 (0, 0))
  pla : PlAt wj (N + 1) (.int .i64 (k : Int)) (.int .i64 b1) (.int .i64 b2) (.int .i64 b3) (.bool d)
  bel : Below w.heap.size w wj
  siz : N + 2 ≤ wj.heap.size
  bas : w.heap.size ≤ N
  low : ∀ g, pv.ownBlock = some g → g < N
theorem RfAt.below {w wj w' : World} {N k : Nat} {hc : Array Value} {pl : List Pl} {pv : Value} {A : Option Addr} {c : Nat} {s' : Pt} {b1 b2 b3 : Int} {d : Bool} (h : RfAt w wj N k hc pl pv A c s' b1 b2 b3 d) (hb : Below wj.heap.size wj w') : RfAt w w' N k hc pl pv A c s' b1 b2 b3 d :=
  ⟨own_below h.own hb, own_below h.row hb, (hb.block N (by have := h.siz; omega)).trans h.box, (hb.block (N + 1) (by have := h.siz; omega)).trans h.pla, h.bel.trans (hb.mono h.bel.size), Nat.le_trans h.siz hb.size, h.bas, h.low⟩
/-- the world with a place stored -/
abbrev setPl (w : World) (b : Nat) (b0 b1 b2 b3 : Int) (d : Bool) : World := ((((w.setCell ⟨b, 0, none⟩ (.int .i64 b0)).setCell ⟨b, 1, none⟩ (.int .i64 b1)).setCell ⟨b, 2, none⟩ (.int .i64 b2)).setCell ⟨b, 3, none⟩ (.int .i64 b3)).setCell ⟨b, 4, none⟩ (.bool d)
theorem RfAt.found {w wj w8 : World} {N k : Nat} {hc : Array Value} {pl : List Pl} {pv : Value} {A A8 : Option Addr} {c c8 : Nat} {s s' : Pt} {b1 b2 b3 x1 x2 x3 : Int} {d : Bool} (h : RfAt w wj N k hc pl pv A c s b1 b2 b3 d)
    (hb : Below (setPl wj (N + 1) (k : Int) x1 x2 x3 true).heap.size (setPl wj (N + 1) (k : Int) x1 x2 x3 true) w8) (ho : w8.ownsRow (setPl wj (N + 1) (k : Int) x1 x2 x3 true).heap.size 9 1 (.slice A8 s'.lst.length c8) s'.lst.length (s'.lst.map Value.string)) :
    RfAt w w8 N k hc pl pv A8 c8 s' x1 x2 x3 true := by
  have hz : (setPl wj (N + 1) (k : Int) x1 x2 x3 true).heap.size = wj.heap.size := by simp [World.setCell]
  have h1 := h.siz
  have h2 := h.bel.size
  have h3 := h.bas
  refine ⟨own_mono ho (by omega), own_below (own_offA h.row (fun g hg => heap_set5 _ (N + 1) g _ _ _ _ _ (by have := h.low g hg; omega))) hb, (hb.block N (by omega)).trans ((heap_set5 _ (N + 1) N _ _ _ _ _ (by omega)).trans h.box), (hb.block (N + 1) (by omega)).trans (PlAt.set h.pla _ _ _ _ _), (PlAt.set_below h.bel (by omega) _ _ _ _ _).trans (hb.mono (by omega)), by have := hb.size; omega, h.bas, h.low⟩
/-- l[:k], under one name -/
theorem cut_to {w : World} {A : Option Addr} {cap k : Nat} {l : List ByteArray} (h : Strs w (.slice A l.length cap) l) (hk : k ≤ l.length) :
    ∃ vk, (∀ W, (Instr.slice 22 (.slice A l.length cap) none (some (.int .i64 (k : Int))) none).run Try.prog W = .ok vk W) ∧ Strs w vk (l.take k) := by
  have h2 := h.sliced (lo := 0) (hi := k) (Nat.zero_le _) hk
  rw [List.drop_zero, Nat.sub_zero] at h2
  refine ⟨_, fun W => ?_, h2⟩
  have hc : l.length ≤ cap := by obtain ⟨⟨_, _, _, hv, hc, _⟩, _⟩ := h; injection hv with _ _ e; omega
  have h2' : (k : Int) ≤ (cap : Int) := by omega
  simp [go_sem, h2']
theorem SkAt.ok {h : Hk} {s s' : Pt} {f dd j n : Nat} {b1 b2 b3 : Int} {d : Bool} (hs : SkAt h s f dd j s' b1 b2 b3 d) (hp : PtOk s n) (hh : HkOk h) (hn : n ≤ 1000) : PtOk s' (n + 1) := by
  rcases hs with ⟨_, rfl, _⟩ | ⟨_, kk, hk, rfl, _⟩
  · exact hp.more
  · exact hp.put hh hn hk
/-- the memory at the start of the appends -/
theorem RfAt.set_own {w wj : World} {N k : Nat} {hc : Array Value} {pl : List Pl} {pv : Value} {A : Option Addr} {c : Nat} {s : Pt} {b1 b2 b3 x1 x2 x3 : Int} {d : Bool} (h : RfAt w wj N k hc pl pv A c s b1 b2 b3 d) :
    (setPl wj (N + 1) (k : Int) x1 x2 x3 true).ownsRow w.heap.size 9 1 (.slice A s.lst.length c) s.lst.length (s.lst.map Value.string) :=
  own_off h.own fun g hg => heap_set5 _ (N + 1) g _ _ _ _ _ (fun e => own_type' h.own h.pla (by decide) (by rw [hg, e]))
/-- a place is told: the row of places grows -/
theorem RfAt.told {w wj w5 : World} {N k : Nat} {hc : Array Value} {pl : List Pl} {pv : Value} {A : Option Addr} {c : Nat} {s : Pt} {b1 b2 b3 : Int} {d : Bool} {ob : Obj} (h : RfAt w wj N k hc pl pv A c s b1 b2 b3 d) (hg : (wj.alloc ob).grownBy w5 pv.ownBlock) :
    w5.ownsRow w.heap.size 9 1 (.slice A s.lst.length c) s.lst.length (s.lst.map Value.string) ∧ Below w.heap.size w w5 := by
  have hz := h.bel.size
  refine ⟨own_off (h.own.alloc ob) fun g hgb => hg.block g (by have := own_lt h.own g hgb; simp; omega) (fun e => ?_), (h.bel.alloc hz ob).grown hg (by simp; omega) (fun g hgb => own_ge h.row g hgb)⟩
  obtain ⟨_, h0 | ⟨g', c1, cur, hv, _, hh, _⟩⟩ := h.own
  · rw [h0.1] at hgb; cases hgb
  · rw [hv] at hgb
    injection hgb with hgb
    subst hgb
    exact own_type' h.row hh (by decide) e.symm
theorem info_placeR : (Try.prog.info? 50).map (fun i => (i.zero, i.size, i.bytes)) = some (some (.agg #[.int .i64 0, .int .i64 0, .int .i64 0, .int .i64 0, .bool false]), 5, 40) := info_placeF
end Go.Proofs.Ytfjbdbdjhkmifaa
