/- slices.Chunk of a row of rows: the closure. -/
import Derived.Test.YtkikbejpgfhfoaaDoorZRuns
import Derived.RangeFuncNested
import Derived.RangeFuncBound
import Derived.RangeFuncCalls
import Derived.RangeFuncLeaves
import Derived.Shelf.Abstract
import Derived.Shelf.RegionOpen
import Derived.OwnWalkIn
import Derived.TacticsInMore
import Derived.LoopNIn
import Derived.LoopIn
import Derived.Test.YtkikbejpgfhfoaaDoorRunsP
import Derived.Test.YtkikbejpgfhfoaaDoorTextW
import Derived.Test.YtkikbejpgfhfoaaDoorRefL
import Derived.Test.YtkikbejpgfhfoaaDoorHunk
import Derived.Test.YtkikbejpgfhfoaaDoorMgd
import Derived.Lib.Walk
import Derived.Lib.SliceRun
import Derived.Lib.AppendZerosOnto
import Derived.Laws.AppendOwnNone
import Derived.Deep.AppendLies
import Derived.RangeFuncRecord
/- Chunk -/
set_option linter.unusedVariables false
namespace Go.Proofs.YtkikbejpgfhfoaaDoor
open Go.RowKit Go.Pw
set_option maxHeartbeats 2000000 in
set_option maxRecDepth 100000 in
theorem chunk_any (v : Value) (n : Int) (w : World) (hv : v.oneCell' = true) (hn : 1 ≤ n) (hn2 : n ≤ 1000000) :
    Calls Tryd.prog 82 #[v, .int .i64 n] w fun e w' => e = .returned (.func (.func 123) #[] #[.pointer (some ⟨w.heap.size, 0, none⟩), .pointer (some ⟨w.heap.size + 1, 0, none⟩)]) ∧ w' = (w.alloc (.cells #[v] 82)).alloc (.cells #[.int .i64 n] 3) := by
  have hd : ¬ (n < 1) := by omega
  go_enter Tryd.func82, Tryd.ntmps82
  go_wp2_with fail
  go_ret
  exact ⟨rfl, rfl⟩
end Go.Proofs.YtkikbejpgfhfoaaDoor

/- ChunkI -/
set_option linter.unusedVariables false
set_option linter.unusedSimpArgs false
namespace Go.Pw
/-- the numbers of the chunks -/
abbrev Chk (len n : Nat) : Type := { j : Nat // j * n < len }
def chkV (g len n : Nat) (x : Chk len n) : Value := .slice (some ⟨g, x.1 * n, none⟩) (min n (len - x.1 * n)) (min n (len - x.1 * n))
end Go.Pw
namespace Go.Proofs.YtkikbejpgfhfoaaDoor
open Go.RowKit Go.Pw Go.Shelf
attribute [local go_sem] Oper.semAt_some
set_option maxRecDepth 100000 in
set_option maxHeartbeats 2000000 in
theorem chunk1_in (F : Fence) (n' : Nat) (hf : F.fn 123) (hro : F.round = none) (hn' : 1 ≤ n') (l Bs Bn n₀ X g len cap n : Nat) (hreach : len ≤ 1000000) (hn : 1 ≤ n) (hn2 : n ≤ 1000000) (hcap : len ≤ cap) (hcap2 : cap ≤ 9223372036854775807) (hBs : Bs < n₀) (hBn : Bn < n₀) (hXs : Bs ≠ X) (hXn : Bn ≠ X)
    (J Jx : List (Chk len n) → World → Prop)
    (hJab : ∀ (s : List (Chk len n)) (A B : World) (row : Option Nat), J s A → A.grownBy B row → (∀ r, row = some r → False) → J s B)
    (hY : ∀ pre x W, J pre W → pre.length < len → YieldAt F (n' - 1) Tryd.prog l #[chkV g len n x] W fun e W' =>
      (e = .returned (.bool true) ∧ J (pre ++ [x]) W' ∧ But n₀ X W W') ∨ (e = .returned (.bool false) ∧ Jx (pre ++ [x]) W'))
    (W : World) (h1 : W.cell? ⟨Bs, 0, none⟩ = some (.slice (some ⟨g, 0, none⟩) len cap)) (h2 : W.cell? ⟨Bn, 0, none⟩ = some (.int .i64 (n : Int))) (h0 : J [] W) :
    CallsIn F n' Tryd.prog 123 #[.func (.yield l) #[] #[], .pointer (some ⟨Bs, 0, none⟩), .pointer (some ⟨Bn, 0, none⟩)] W fun e W' => (∃ v, e = .returned v) ∧
      ((∃ ys : List (Chk len n), (∃ c, len ≤ c * n ∧ ys.map Subtype.val = List.range c) ∧ J ys W') ∨ (∃ pre, True ∧ Jx pre W')) := by
  refine callsIn_of_wp Tryd.func123 rfl hf ?_ hro
  simp only [Tryd.ntmps123, List.size_toArray, List.length_cons, List.length_nil, Nat.reduceAdd, Nat.reduceSub, Array.replicate_succ, Array.replicate_zero, List.push_toArray, List.append_toArray, List.nil_append, List.cons_append]
  gi_wp2
  gi_loopw [4] (fun i wr => ∃ (k : Nat) (pre : List (Chk len n)), pre.map Subtype.val = List.range k ∧ (k = 0 ∨ (k - 1) * n < len) ∧ i = .int .i64 ((k * n : Nat) : Int) ∧ J pre wr ∧ But n₀ X W wr) (fun i _ => len - (intOf i).toNat)
  case atStart => exact ⟨0, [], rfl, .inl rfl, by simp, h0, But.refl _ _ _⟩
  case round =>
    obtain ⟨k, pre, hp, hk, rfl, hJs, hnx⟩ := hrel
    have c1 := (hnx.cell (p := ⟨Bs, 0, none⟩) hBs hXs).trans h1
    have c2 := (hnx.cell (p := ⟨Bn, 0, none⟩) hBn hXn).trans h2
    have hpl : pre.length = k := by have := congrArg List.length hp; simpa using this
    have hkn : k * n ≤ 2000000 := by
      rcases hk with rfl | hk
      · omega
      · cases k with
        | zero => omega
        | succ k => rw [Nat.add_sub_cancel] at hk; rw [Nat.add_mul]; omega
    have hkk : k ≤ k * n := Nat.le_mul_of_pos_right k hn
    have hs : (k + 1) * n = k * n + n := by rw [Nat.add_mul, Nat.one_mul]
    by_cases hlt : k * n < len
    · have HP := hide hp
      have HS := hide hs
      have HJ2 := hide (hJab pre wr wr.drew none hJs ⟨rfl, rfl, rfl, Nat.le_refl _, fun _ _ _ => rfl⟩ (fun r e => by cases e))
      have HYY := hide (hY pre ⟨k, hlt⟩ wr.drew HJ2.out (by omega))
      obtain ⟨x, hx⟩ : ∃ x : Chk len n, x = ⟨k, hlt⟩ := ⟨_, rfl⟩
      rw [← hx] at HYY
      have HXV : Hid (x.1 = k) := hide (by rw [hx])
      have hy0 : chkV g len n x = .slice (some ⟨g, k * n, none⟩) (min n (len - k * n)) (min n (len - k * n)) := by unfold chkV; rw [HXV.out]
      rw [hy0] at HYY
      clear hx hy0 hJs
      obtain ⟨i, hi⟩ : ∃ i, k * n = i := ⟨_, rfl⟩
      have HI := hide hi
      rw [hi] at hlt hkn hkk HYY HS ⊢
      obtain ⟨e, he⟩ : ∃ e, min n (len - i) = e := ⟨_, rfl⟩
      rw [he] at HYY
      have hme : min (n : Int) ((len - i : Nat) : Int) = (e : Int) := by omega
      have he1 : 1 ≤ e := by omega
      have he2 : i + e ≤ len := by omega
      have he3 : e ≤ n := by omega
      have HE := hide he
      clear hi hs hp he hk
      have g1 : (i : Int) < (len : Int) := by omega
      have g2 : ¬ ((len : Int) < (i : Int)) := by omega
      have g3 : (i : Int) ≤ (cap : Int) := by omega
      have g4 : (i : Int) ≤ (len : Int) := by omega
      gi_wp2
      gi_region
      all_goals (try go_bits)
      all_goals
        try rw [hme]
        have hb2 : But n₀ X W wr.drew := hnx.drew
        have d1 := (hb2.cell (p := ⟨Bs, 0, none⟩) hBs hXs).trans h1
        have d2 := (hb2.cell (p := ⟨Bn, 0, none⟩) hBn hXn).trans h2
        obtain ⟨wd, hwd⟩ : ∃ wd, wr.drew = wd := ⟨_, rfl⟩
        rw [hwd] at hb2 d1 d2 HYY ⊢
        obtain ⟨fn, tmps, assign, body, hy, hR⟩ := HYY.out
        have k1 : (i : Int) ≤ (i : Int) + (e : Int) := by omega
        have k2 : (i : Int) + (e : Int) ≤ (cap : Int) := by omega
        have k3 : ((i : Int) + (e : Int)).toNat = i + e := by omega
        have k4 : i + e - i = e := by omega
        clear hwd c1 c2
        gi_wp2
      all_goals
        refine hR.mono ?_
        rintro e3 W3 (⟨rfl, hJ3, hk3⟩ | ⟨rfl, hJx3⟩)
        · have f1 := (hk3.cell (p := ⟨Bs, 0, none⟩) hBs hXs).trans d1
          have f2 := (hk3.cell (p := ⟨Bn, 0, none⟩) hBn hXn).trans d2
          have hwr : IntKind.i64.wrap ((i : Int) + (n : Int)) = (i : Int) + (n : Int) := IntWalk.i64_in _ (by omega)
          clear hR hy d1 d2
          gi_wp2
          go_roundw
          case rel => exact ⟨k + 1, pre ++ [x], by rw [List.map_append, HP.out, List.range_succ]; simp [HXV.out], .inr (by rw [Nat.add_sub_cancel, HI.out]; exact hlt), by rw [HS.out]; rfl, hJ3, hb2.trans hk3⟩
          case measure => simp [intOf]; omega
        · clear hR hy d1 d2
          gi_wp2
          refine bodyPost_ret (results_none rfl _ _ _) rfl ?_
          exact ⟨⟨_, rfl⟩, .inr ⟨_, trivial, hJx3⟩⟩
    · gi_wp2
      go_end0
      exact ⟨⟨_, rfl⟩, .inl ⟨pre, ⟨k, by omega, hp⟩, hJs⟩⟩
/-- what slices.Chunk returns, as an iterator: all chunks, in order -/
theorem chunk_stops (F : Fence) (n' : Nat) (hf : F.fn 123) (hro : F.round = none) (hn' : 1 ≤ n') (Bs Bn n₀ X g len cap n : Nat) (hreach : len ≤ 1000000) (hn : 1 ≤ n) (hn2 : n ≤ 1000000) (hcap : len ≤ cap) (hcap2 : cap ≤ 9223372036854775807) (hBs : Bs < n₀) (hBn : Bn < n₀) (hXs : Bs ≠ X) (hXn : Bn ≠ X)
    (w : World) (hn₀ : n₀ ≤ w.heap.size) (h1 : w.cell? ⟨Bs, 0, none⟩ = some (.slice (some ⟨g, 0, none⟩) len cap)) (h2 : w.cell? ⟨Bn, 0, none⟩ = some (.int .i64 (n : Int))) :
    SeqStopsK F n' Tryd.prog 123 #[.pointer (some ⟨Bs, 0, none⟩), .pointer (some ⟨Bn, 0, none⟩)] (fun x : Chk len n => #[chkV g len n x]) (But n₀ X) (fun ys => ∃ c, len ≤ c * n ∧ ys.map Subtype.val = List.range c) (fun _ => True) len w := fun l J Jx W hW hJ _ hY h0 => by
  refine (chunk1_in F n' hf hro hn' l Bs Bn n₀ X g len cap n hreach hn hn2 hcap hcap2 hBs hBn hXs hXn J Jx (fun s A B row h1 h2 h3 => hJ s A B row h1 h2 (fun r e => (h3 r e).elim)) hY W ((hW.cell (p := ⟨Bs, 0, none⟩) (by show Bs < _; omega)).trans h1) ((hW.cell (p := ⟨Bn, 0, none⟩) (by show Bn < _; omega)).trans h2) h0).mono ?_
  rintro e W' ⟨he, ⟨ys, hs, hj⟩ | ⟨pre, _, hj⟩⟩
  · exact ⟨he, .inl ⟨ys, hs, hj⟩⟩
  · exact ⟨he, .inr ⟨pre, trivial, hj⟩⟩
end Go.Proofs.YtkikbejpgfhfoaaDoor

/- ChunkP -/
set_option linter.unusedVariables false
namespace Go.Pw
theorem chk_range {α : Type} {n : Nat} (hn : 0 < n) : ∀ (k : Nat) (l : List α) (c : Nat), l.length ≤ k → l.length ≤ c * n → (∀ j, j < c → j * n < l.length) → chk n k l = (List.range c).map fun j => (l.drop (j * n)).take n
  | 0, l, c, h1, h2, h3 => by
    have hc : c = 0 := by
      rcases Nat.eq_zero_or_pos c with h | h
      · exact h
      · have := h3 0 h; omega
    subst hc; rfl
  | k + 1, l, c, h1, h2, h3 => by
    rw [chk]
    split
    · rename_i h0
      have hc : c = 0 := by
        rcases Nat.eq_zero_or_pos c with h | h
        · exact h
        · have := h3 0 h; omega
      subst hc; rfl
    · rename_i h0
      obtain ⟨c', rfl⟩ : ∃ c', c = c' + 1 := ⟨c - 1, by
        rcases Nat.eq_zero_or_pos c with h | h
        · subst h; rw [Nat.zero_mul] at h2; omega
        · omega⟩
      have e : ∀ j, (j + 1) * n = j * n + n := fun j => by rw [Nat.add_mul, Nat.one_mul]
      have h4 := e c'
      rw [chk_range hn k (l.drop n) c' (by rw [List.length_drop]; omega) (by rw [List.length_drop]; omega) (fun j hj => by
        have := h3 (j + 1) (by omega)
        rw [e j] at this
        rw [List.length_drop]; omega), List.range_succ_eq_map, List.map_cons, List.map_map]
      congr 1
      · rw [Nat.zero_mul, List.drop_zero]
      · refine List.map_congr_left fun j _ => ?_
        simp only [Function.comp]
        rw [List.drop_drop]
        congr 2
        have := e j
        show n + j * n = (j + 1) * n
        omega
/-- all chunks have come: the pass -/
theorem passL_chunks {α : Type} {lt : α → α → Bool} {n : Nat} (hn : 0 < n) (rs : List (List α)) {c : Nat} (h2 : rs.length ≤ c * n) (h3 : ∀ j, j < c → j * n < rs.length) :
    passL lt n rs = (List.range c).map fun j => mrgs lt ((rs.drop (j * n)).take n) := by
  unfold passL
  rw [chk_range hn _ rs c (Nat.le_refl _) h2 h3, List.map_map]; rfl
end Go.Pw

/- CloneSS -/
set_option linter.unusedVariables false
set_option linter.unusedSimpArgs false
namespace Go.Proofs.YtkikbejpgfhfoaaDoor
open Go.RowKit Go.Pw
set_option maxHeartbeats 2000000 in
set_option maxRecDepth 100000 in
theorem cloneSS_any (b off n c : Nat) (vs : List Value) (w : World) (hl : vs.length = n) (hn2 : n ≤ 1000000) (hc : ∀ (j : Nat) u, vs[j]? = some u → w.cell? ⟨b, off + j, none⟩ = some u) (hb : b < w.heap.size) (h1 : ∀ u ∈ vs, u.oneCell' = true) :
    Calls Tryd.prog 84 #[.slice (some ⟨b, off, none⟩) n c] w fun e w' => ∃ v', e = .returned v' ∧ w'.ownsRow w.heap.size 40 1 v' n vs ∧ Below w.heap.size w w' := by
  obtain ⟨jp, hjp, hjz, hjs, hjb⟩ := info_parts info_strs
  have hown : (w.alloc (.cells #[] 40)).ownsRow w.heap.size 40 1 (.slice (some ⟨w.heap.size, 0, none⟩) 0 0) 0 [] :=
    ⟨rfl, .inr ⟨w.heap.size, 0, #[], rfl, Nat.le_refl _, heap_alloc_new _ _, Nat.le_refl _, Nat.zero_le _, rfl, rfl⟩⟩
  have q22 : ∀ (w : World) (a : Option Addr) (n c n' c' : Nat), (binOp .eql 82 (.slice a n c) (.slice none n' c')).run Tryd.prog w = .ok (.bool a.isNone) w := fun w a n c n' c' => Lib.run_eql_slice_nil w _ _ a n c n' c' Tryd.underlying82
  have HC := hide hc
  clear hc
  go_enter Tryd.func84, Tryd.ntmps84
  go_wp2_with (at_builtin; refine wpList_append_own _ rfl _ _ 82 rfl w.heap.size 40 jp _ 1 24 Tryd.underlying82 hjp hjz hjs hjb rfl (by decide) _ _ _ rfl hown ⟨b, off, none⟩ n c vs rfl (by omega) (fun j u hu => ?_) h1 ?_ ?_ ?_ ?_)
  all_goals (try (unfold maxLen; omega))
  all_goals (try (simp; omega))
  all_goals (try omega)
  all_goals (try (simp; done))
  · have e : (⟨b, off, none⟩ : Addr).add j = ⟨b, off + j, none⟩ := by
      simp only [Addr.add]
      split
      · rename_i h0; rw [h0]; rfl
      · rfl
    rw [e]
    exact ((alloc_below w _).cell (p := ⟨b, off + j, none⟩) hb).trans (HC.out j u hu)
  · intro v' w2 hown2 hgrow _
    have hB : Below w.heap.size w w2 := by
      have h2 := hgrow.size
      simp at h2
      exact ⟨hgrow.os, hgrow.tape, hgrow.output, by omega, fun k hk => (hgrow.block k (by simp; omega) (fun e => by injection (show some w.heap.size = some k from e.symm ▸ rfl) with e; omega)).trans ((alloc_below w _).block k hk)⟩
    go_wp2_with fail
    go_ret
    exact ⟨_, rfl, hown2, hB⟩
end Go.Proofs.YtkikbejpgfhfoaaDoor

/- RowsM -/
set_option linter.unusedVariables false
set_option linter.unusedSimpArgs false
namespace Go.Pw
open Go.RowKit
structure RowsR (tSS : TypeId) (w : World) (base : Nat) (v : Value) (vs : List Value) (rs : List (List ByteArray)) : Prop where
  len : vs.length = rs.length
  own : w.ownsRow base tSS 1 v rs.length vs
  el : ∀ (i : Nat) (u : Value) (l : List ByteArray), vs[i]? = some u → rs[i]? = some l → Strs w u l ∧ Lies w u ∧ ∀ q, u.ownBlock = some q → v.ownBlock ≠ some q
theorem alloc_under (w : World) (o : Obj) : Below w.heap.size w (w.alloc o) := (Below.refl _ _).alloc (Nat.le_refl _) o
variable {tSS : TypeId} {w w' : World} {base : Nat} {v : Value} {vs : List Value} {rs : List (List ByteArray)}
theorem RowsR.nil (tSS : TypeId) (w : World) (base : Nat) : RowsR tSS w base (.slice none 0 0) [] [] := ⟨rfl, World.ownsRow_nil _ _ _ _, fun i u l h => by simp at h⟩
theorem RowsR.below (h : RowsR tSS w base v vs rs) (hb : Below w.heap.size w w') : RowsR tSS w' base v vs rs :=
  ⟨h.len, own_below h.own hb, fun i u l hu hl => ⟨(h.el i u l hu hl).1.below hb, fun q hq => Nat.lt_of_lt_of_le ((h.el i u l hu hl).2.1 q hq) hb.size, (h.el i u l hu hl).2.2⟩⟩
theorem RowsR.drewN (h : RowsR tSS w base v vs rs) (n : Nat) : RowsR tSS (w.drewN n) base v vs rs := ⟨h.len, h.own, h.el⟩
theorem RowsR.push {g cap : Nat} {ob : Obj} {u : Value} {l : List ByteArray} (h : RowsR tSS w base v vs rs) (hu : Strs w u l) (hli : Lies w u) (hne : ∀ q, u.ownBlock = some q → v.ownBlock ≠ some q)
    (hown' : w'.ownsRow base tSS 1 (.slice (some ⟨g, 0, none⟩) (rs.length + 1) cap) (rs.length + 1) (vs ++ [u])) (hgrow : (w.alloc ob).grownBy w' v.ownBlock)
    (hat : v.ownBlock = some g ∨ g = w.heap.size + 1) : RowsR tSS w' base (.slice (some ⟨g, 0, none⟩) (rs.length + 1) cap) (vs ++ [u]) (rs ++ [l]) := by
  have key : ∀ (x : Value) (m : List ByteArray), Strs w x m → Lies w x → (∀ q, x.ownBlock = some q → v.ownBlock ≠ some q) → Strs w' x m ∧ Lies w' x ∧ ∀ q, x.ownBlock = some q → (Value.slice (some ⟨g, 0, none⟩) (rs.length + 1) cap).ownBlock ≠ some q := by
    intro x m hx hl hn
    have hz : w.heap.size + 1 ≤ w'.heap.size := by have := hgrow.size; simpa using this
    refine ⟨(hx.alloc ob).grown hgrow hn, fun q hq => by have := hl q hq; omega, fun q hq e => ?_⟩
    injection (show some g = some q from e) with e
    subst e
    rcases hat with hat | hat
    · exact hn g hq hat
    · have := hl g hq; omega
  refine ⟨by simp [h.len], by rw [List.length_append]; exact hown', fun i x m hx hm => ?_⟩
  by_cases hi : i < rs.length
  · rw [List.getElem?_append_left hi] at hm
    rw [List.getElem?_append_left (by rw [h.len]; exact hi)] at hx
    obtain ⟨a, b, c⟩ := h.el i x m hx hm
    exact key x m a b c
  · have hi2 : i = rs.length := by
      have := (List.getElem?_eq_some_iff.1 hm).1
      simp at this; omega
    subst hi2
    rw [List.getElem?_append_right (Nat.le_refl _)] at hm
    rw [List.getElem?_append_right (by rw [h.len]; exact Nat.le_refl _), h.len] at hx
    simp at hm hx
    subst hm; subst hx
    exact key u l hu hli hne
theorem RowsR.cell {g n cap i : Nat} {u : Value} (h : RowsR tSS w base (.slice (some ⟨g, 0, none⟩) n cap) vs rs) (hn : rs.length = n) (hu : vs[i]? = some u) : w.cell? ⟨g, i, none⟩ = some u ∧ w.frozen? ⟨g, i, none⟩ = false := by
  subst hn
  have hi := (List.getElem?_eq_some_iff.1 hu).1
  rw [h.len] at hi
  exact ⟨by rw [World.ownsRow.cellAt h.own i (by omega), hu], World.ownsRow.frozenAt h.own i⟩
theorem linesRes_lies {t : TypeId} {w w' : World} {l : List ByteArray} {v : Value} (h : LinesRes t w l v w') : Lies w' v ∧ ∀ q, v.ownBlock = some q → w.heap.size ≤ q := by
  rcases h with ⟨rfl, rfl, rfl⟩ | ⟨h0, rfl, rfl⟩
  · exact ⟨fun q hq => by simp [Value.ownBlock] at hq, fun q hq => by simp [Value.ownBlock] at hq⟩
  · refine ⟨fun q hq => ?_, fun q hq => ?_⟩
    · injection (show some w.heap.size = some q from hq) with e
      subst e; simp
    · injection (show some w.heap.size = some q from hq) with e
      omega
end Go.Pw

/- RowsMg -/
set_option linter.unusedVariables false
set_option linter.unusedSimpArgs false
namespace Go.Pw
open Go.RowKit
variable {tSS : TypeId} {w w' : World} {base : Nat} {v : Value} {vs : List Value} {rs : List (List ByteArray)}
theorem RowsR.runs {g n cap : Nat} (h : RowsR tSS w base (.slice (some ⟨g, 0, none⟩) n cap) vs rs) (hn : rs.length = n) : RunsAt w w g vs rs :=
  ⟨h.len, fun i u hu => h.cell hn hu, fun i u l hu hl => ⟨(h.el i u l hu hl).1, fun e => (h.el i u l hu hl).2.2 g e rfl⟩⟩
end Go.Pw

/- Grow -/
set_option linter.unusedVariables false
set_option linter.unusedSimpArgs false
namespace Go.Proofs.YtkikbejpgfhfoaaDoor
open Go.RowKit Go.Pw
set_option maxHeartbeats 2000000 in
set_option maxRecDepth 100000 in
theorem grow_any (n : Nat) (w : World) (hn0 : 0 < n) (hn : n ≤ 1000000) :
    Calls Tryd.prog 124 #[.slice none 0 0, .int .i64 (n : Int)] w fun e w' => ∃ v, e = .returned v ∧ w'.ownsRow w.heap.size 9 1 v 0 [] ∧ Below w.heap.size w w' := by
  obtain ⟨ip, hip, hpz, hps, hpb⟩ := info_parts info_str
  have h1 : ¬ ((n : Int) < 0) := by omega
  have h4 : (0 : Int) < (n : Int) := by omega
  have hwn : IntKind.i64.wrap ((n : Int)) = (n : Int) := IntWalk.i64_in _ (by omega)
  have hrz : ∀ ty, (Builtin.append_ #[40, 3] ty #[.slice none 0 0, .int .i64 (n : Int)]).run Tryd.prog w =
      .ok (.slice (some ⟨w.heap.size, 0, none⟩) n (grownCap w n 0 9)) (w.drew.alloc (.cells (#[] ++ Builtin.zeroCells (Value.string ⟨#[]⟩).cells n ++ Builtin.zeroCells (Value.string ⟨#[]⟩).cells (grownCap w n 0 9 - n)) 9)) := fun ty => by
    have h := Lib.run_append_grow_zeros w 40 3 ty 9 ip (.string ⟨#[]⟩) .i64 .i64 Tryd.underlying40 Tryd.underlying3 hip hpz none 0 0 [] (run_firstCells_none w.drew ip.size 0 0 0) n hn0 (by omega) (by omega) (by omega) (by rw [hpb]; omega)
      (by rw [Nat.zero_add]; exact growslice_fits (by omega) (by rw [hpb]; omega))
    rw [Nat.zero_add] at h
    exact h
  have hGn : n ≤ grownCap w n 0 9 := grownCap_ge w _ _ _
  have hG63 := grownCap_le_maxLen w n 0 9 (by unfold maxLen; omega)
  obtain ⟨G, hG⟩ : ∃ G, G = grownCap w n 0 9 := ⟨_, rfl⟩
  rw [← hG] at hrz hGn hG63
  have hG64 : G ≤ 9223372036854775807 := by unfold maxLen at hG63; omega
  clear hG
  go_enter Tryd.func124, Tryd.ntmps124
  go_wp2_with (at_builtin; refine Lib.wpList_append_run _ rfl _ _ _ _ rfl _ _ rfl rfl _ _ (hrz _) ?_)
  all_goals go_ret
  have hsz : (Value.string ⟨#[]⟩).cells.size = 1 := rfl
  refine ⟨_, rfl, ⟨rfl, .inr ⟨w.heap.size, G, _, rfl, Nat.le_refl _, heap_alloc_new w.drew _, Nat.zero_le _, hG63, ?_, by simp⟩⟩, ?_⟩
  · simp [size_zeroCells]
    omega
  · exact (show Below w.heap.size w w.drew from ⟨rfl, rfl, rfl, Nat.le_refl _, fun _ _ => rfl⟩).alloc (Nat.le_refl _) _
end Go.Proofs.YtkikbejpgfhfoaaDoor

/- AppS -/
set_option linter.unusedSimpArgs false
set_option linter.unusedVariables false
namespace Go.Proofs.YtkikbejpgfhfoaaDoor
open Go.RowKit Go.Pw

theorem run_append_none_any {P : Program} {w : World} (base : Nat) (t ty e : TypeId) (i : TypeInfo) (size c : Nat) (ht : P.underlying t = some (.slice e)) (hi : P.info? e = some i)
    (v : Value) (n : Nat) (xs : List Value) (hown : w.ownsRow base e size v n xs) :
    (Builtin.append_ #[t, t] ty #[v, .slice none 0 c]).run P w = .ok v w := by
  rcases hown.2 with ⟨rfl, rfl⟩ | ⟨g, cap, cur, rfl, _, _, hnc, _⟩
  · simp [Builtin.append_, run_underlying ht, sizeOf, typeInfo, hi, Builtin.lenOf, Builtin.firstCells]
  · simp [Builtin.append_, run_underlying ht, sizeOf, typeInfo, hi, Builtin.lenOf, Builtin.firstCells, hnc, storeCells]
theorem grownBy_refl (w : World) (row : Option Nat) : w.grownBy w row := ⟨rfl, rfl, rfl, Nat.le_refl _, fun _ _ _ => rfl⟩
theorem add_at (a : Addr) (j : Nat) (h : a.spot = none) : a.add j = ⟨a.block, a.off + j, none⟩ := by
  obtain ⟨b, o, s⟩ := a
  simp only at h
  subst h
  unfold Addr.add
  split
  · rename_i e; subst e; rfl
  · rfl

/-- append(v, u...) of strings: v nil or the call's own, u any slice that reads as m -/
theorem run_app_strs (w : World) (base : Nat) (ty : TypeId) (v : Value) (l : List ByteArray) (hown : w.ownsRow base 9 1 v l.length (l.map Value.string)) (u : Value) (m : List ByteArray) (hu : Strs w u m)
    (hb : l.length + m.length ≤ 1000000000000) (hbase : base ≤ w.heap.size) :
    ∃ v' w', (Builtin.append_ #[40, 40] ty #[v, u]).run Tryd.prog w = .ok v' w' ∧ w'.ownsRow base 9 1 v' (l ++ m).length ((l ++ m).map Value.string) ∧ w.grownBy w' v.ownBlock := by
  obtain ⟨ip, hip, hpz, hps, hpb⟩ := info_parts info_str
  obtain ⟨⟨hl, A, cap, rfl, _, _, hx⟩, hz⟩ := hu
  by_cases h0 : m.length = 0
  · have hm : m = [] := List.eq_nil_of_length_eq_zero h0
    subst hm
    cases A with
    | none =>
      refine ⟨v, w, ?_, by simpa using hown, grownBy_refl _ _⟩
      exact run_append_none_any base _ ty 9 ip 1 cap Tryd.underlying40 hip v _ _ hown
    | some a =>
      obtain ⟨v', w', h1, h2, h3, _⟩ := run_append_own (P := Tryd.prog) w base 40 ty 9 ip _ 1 16 Tryd.underlying40 hip hpz hps hpb rfl (by decide) v l.length _ hown a 0 cap [] rfl (by simp) (by simp) (by unfold maxLen; simp at hb ⊢; omega) (by simp at hb ⊢; omega) hbase
      exact ⟨v', w', h1, by simpa using h2, h3⟩
  · obtain ⟨b, o, rfl, hbb, hj⟩ := hx (by omega)
    obtain ⟨v', w', h1, h2, h3, _⟩ := run_append_own (P := Tryd.prog) w base 40 ty 9 ip _ 1 16 Tryd.underlying40 hip hpz hps hpb rfl (by decide) v l.length _ hown ⟨b, o, none⟩ m.length cap (m.map Value.string) (by simp) (fun j u hu => by rw [add_at _ _ rfl]; exact hj j u hu) (by intro u hu; simp at hu; obtain ⟨s, _, rfl⟩ := hu; rfl) (by unfold maxLen; omega) (by omega) hbase
    exact ⟨v', w', h1, by rw [List.length_append, List.map_append]; exact h2, h3⟩

theorem wp_app_strs {w : World} {o : Oper} {a : Act} {K : Act → World → Prop} {Q : Exit → Act → World → Prop} (s x : Operand)
    (ho : o.op = .call { callee := .builtin .append, args := #[s, x], argTypes := #[40, 40] }) (base : Nat) (v : Value) (l : List ByteArray) (hs : a.eval s = v)
    (hown : w.ownsRow base 9 1 v l.length (l.map Value.string)) (u : Value) (m : List ByteArray) (hx : a.eval x = u) (hu : Strs w u m) (hb : l.length + m.length ≤ 1000000000000) (hbase : base ≤ w.heap.size)
    (h : ∀ v' w', w'.ownsRow base 9 1 v' (l ++ m).length ((l ++ m).map Value.string) → w.grownBy w' v.ownBlock → K (a.put o.dst v') w') : o.wp Tryd.prog a w K Q := by
  obtain ⟨v', w', hr, h2, h3⟩ := run_app_strs w base o.type v l hown u m hu hb hbase
  unfold Oper.wp execOp
  simp only [ho, resolve, invoke, builtin, Sem.run_bind, Sem.run_pure, Result.andThen_ok, List.map_toArray, List.map_cons, List.map_nil, hs, hx, hr]
  exact h v' w' h2 h3
theorem wpList_app_strs {w : World} {ops : Array Oper} {rest : List Oper} {o : Oper} {a : Act} {Q : Exit → Act → World → Prop} (hgd : o.guard = none) (s x : Operand)
    (ho : o.op = .call { callee := .builtin .append, args := #[s, x], argTypes := #[40, 40] }) (base : Nat) (v : Value) (l : List ByteArray) (hs : a.eval s = v)
    (hown : w.ownsRow base 9 1 v l.length (l.map Value.string)) (u : Value) (m : List ByteArray) (hx : a.eval x = u) (hu : Strs w u m) (hb : l.length + m.length ≤ 1000000000000) (hbase : base ≤ w.heap.size)
    (h : ∀ v' w', w'.ownsRow base 9 1 v' (l ++ m).length ((l ++ m).map Value.string) → w.grownBy w' v.ownBlock → wpList Tryd.prog ops Q rest (a.put o.dst v') w') : wpList Tryd.prog ops Q (o :: rest) a w :=
  wpList_plain hgd fun _ hK => wp_app_strs s x ho base v l hs hown u m hx hu hb hbase fun v' w' h2 h3 => hK _ _ (h v' w' h2 h3)
theorem step_app_strs {w : World} {ops : Array Oper} {o : Oper} {a : Act} {K : Act → World → Prop} {Q : Exit → Act → World → Prop} {E : Prop} (hgd : o.guard = none) (s x : Operand)
    (ho : o.op = .call { callee := .builtin .append, args := #[s, x], argTypes := #[40, 40] }) (base : Nat) (v : Value) (l : List ByteArray) (hs : a.eval s = v)
    (hown : w.ownsRow base 9 1 v l.length (l.map Value.string)) (u : Value) (m : List ByteArray) (hx : a.eval x = u) (hu : Strs w u m) (hb : l.length + m.length ≤ 1000000000000) (hbase : base ≤ w.heap.size)
    (h : ∀ v' w', w'.ownsRow base 9 1 v' (l ++ m).length ((l ++ m).map Value.string) → w.grownBy w' v.ownBlock → K (a.put o.dst v') w') :
    if Region.wanted o (yielded ops a.tmps) = true then Oper.wp Tryd.prog o a w K Q else E := by
  have hw : Region.wanted o (yielded ops a.tmps) = true := by simp [Region.wanted, hgd]
  rw [if_pos hw]
  exact wp_app_strs s x ho base v l hs hown u m hx hu hb hbase h
end Go.Proofs.YtkikbejpgfhfoaaDoor

/- Concat -/
set_option linter.unusedVariables false
set_option linter.unusedSimpArgs false
namespace Go.Pw
theorem flat_take {α : Type} (rs : List (List α)) (k : Nat) (h : k < rs.length) : (rs.take (k + 1)).flatten = (rs.take k).flatten ++ rs[k] := by
  rw [List.take_succ_eq_append_getElem h, List.flatten_append]; simp
theorem flat_take_le {α : Type} (rs : List (List α)) (k : Nat) : (rs.take k).flatten.length ≤ rs.flatten.length := by
  have : rs.flatten = (rs.take k).flatten ++ (rs.drop k).flatten := by rw [← List.flatten_append, List.take_append_drop]
  rw [this, List.length_append]; omega
end Go.Pw
namespace Go.Proofs.YtkikbejpgfhfoaaDoor
open Go.RowKit Go.Pw
set_option maxHeartbeats 2000000 in
set_option maxRecDepth 100000 in
theorem concat_any (v : Value) (vs : List Value) (rs : List (List ByteArray)) (w : World) (hl : vs.length = rs.length) (hv : Rd w 1 v rs.length vs) (hel : ∀ (i : Nat) u r, vs[i]? = some u → rs[i]? = some r → Strs w u r) (h0 : 0 < rs.flatten.length) (hlen : rs.flatten.length ≤ 1000000) (hn : rs.length ≤ 1000000) :
    Calls Tryd.prog 85 #[v] w fun e w' => ∃ v', e = .returned v' ∧ OwnS 9 w' w.heap.size v' rs.flatten ∧ Below w.heap.size w w' := by
  obtain ⟨_, A, cap, rfl, hcap, hmax, hx⟩ := hv
  have HX := hide hx
  have HE := hide hel
  clear hx hel
  go_enter Tryd.func85, Tryd.ntmps85
  go_wp2_with fail
  go_loopw [3, 11] (fun sz i wr => ∃ k : Nat, k ≤ rs.length ∧ i = .int .i64 (k : Int) ∧ sz = .int .i64 ((rs.take k).flatten.length : Int) ∧ w = wr) (fun _ i _ => rs.length - (intOf i).toNat)
  case atStart => exact ⟨0, Nat.zero_le _, rfl, rfl, rfl⟩
  case round =>
    obtain ⟨k, hk, rfl, rfl, rfl⟩ := hrel
    by_cases hlt : k < rs.length
    · obtain ⟨bb, ob, rfl, hbb, hj⟩ := HX.out (by omega)
      have hu : vs[k]? = some (vs[k]'(by omega)) := List.getElem?_eq_getElem _
      have c1 := hj k _ hu
      have hst := HE.out k _ rs[k] hu (List.getElem?_eq_getElem hlt)
      have e1 := congrArg List.length (flat_take rs k hlt)
      rw [List.length_append] at e1
      have e2 := flat_take_le rs (k + 1)
      obtain ⟨⟨_, UA, uc, eu, _⟩, _⟩ := hst
      rw [eu] at c1
      have hd : (k : Int) < (rs.length : Int) := by omega
      have HT := hide e1
      obtain ⟨S, hS⟩ : ∃ S, (rs.take k).flatten.length = S := ⟨_, rfl⟩
      obtain ⟨R, hR⟩ : ∃ R, (rs[k]).length = R := ⟨_, rfl⟩
      rw [hS, hR] at HT e1
      rw [hS]
      rw [hR] at c1
      have hw1 : IntKind.i64.wrap ((S : Int) + (R : Int)) = (S : Int) + (R : Int) := IntWalk.i64_in _ (by omega)
      have hw2 : ¬ ((S : Int) + (R : Int) < 0) := by omega
      clear hj hu eu hS hR
      go_wp2_with fail
      go_roundw
      case rel => exact ⟨k + 1, by omega, by go_num, by rw [HT.out]; go_num, by first | trivial | rfl⟩
      case measure => simp [intOf]; omega
    · obtain rfl : k = rs.length := by omega
      have hd : ¬ ((rs.length : Int) < (rs.length : Int)) := by omega
      rw [List.take_length]
      have HGR := hide (grow_any rs.flatten.length w h0 hlen)
      obtain ⟨F, hF⟩ : ∃ F, rs.flatten.length = F := ⟨_, rfl⟩
      rw [hF] at HGR ⊢
      have HFF := hide hF
      have hF2 : ¬ ((F : Int) < 0) := by omega
      clear hF
      go_wp2_with fail
      refine HGR.out.mono ?_
      rintro e w1 ⟨v1, rfl, hown1, hb1⟩
      have HO : Hid (OwnS 9 w1 w.heap.size v1 (rs.take 0).flatten) := hide hown1
      have HB := hide hb1
      clear hown1 hb1
      go_wp2_with fail
      go_loopw [6, 27] (fun ov i wr => ∃ k : Nat, k ≤ rs.length ∧ i = .int .i64 (k : Int) ∧ Hid (OwnS 9 wr w.heap.size ov (rs.take k).flatten) ∧ Below w.heap.size w wr) (fun _ i _ => rs.length - (intOf i).toNat)
      case atStart => exact ⟨0, Nat.zero_le _, rfl, HO, HB.out⟩
      case round =>
        clear HO HB
        obtain ⟨k, hk, rfl, HO, hb⟩ := hrel
        by_cases hlt : k < rs.length
        · obtain ⟨bb, ob, rfl, hbb, hj⟩ := HX.out (by omega)
          have hu : vs[k]? = some (vs[k]'(by omega)) := List.getElem?_eq_getElem _
          have c1 : wr.cell? ⟨bb, ob + k, none⟩ = some (vs[k]'(by omega)) := (hb.cell (p := ⟨bb, ob + k, none⟩) hbb).trans (hj k _ hu)
          have hst := (HE.out k _ rs[k] hu (List.getElem?_eq_getElem hlt)).below hb
          have HN := hide (flat_take rs k hlt)
          have e1 := congrArg List.length HN.out
          rw [List.length_append] at e1
          have e2 := flat_take_le rs (k + 1)
          have hff := HFF.out
          have hsz := hb.size
          obtain ⟨UA, uc, eu⟩ : ∃ A c, vs[k]'(by omega) = .slice A rs[k].length c := by
            obtain ⟨⟨_, UA, uc, eu, _⟩, _⟩ := hst
            exact ⟨UA, uc, eu⟩
          rw [eu] at c1 hst
          obtain ⟨r, hr⟩ : ∃ r, rs[k] = r := ⟨_, rfl⟩
          rw [hr] at c1 hst HN e1
          obtain ⟨D, hD⟩ : ∃ D, (rs.take k).flatten = D := ⟨_, rfl⟩
          rw [hD] at HO HN e1
          have hd : (k : Int) < (rs.length : Int) := by omega
          obtain ⟨OA, oc, rfl⟩ := own_slice HO.out
          have hown := HO.out
          unfold OwnS at hown
          have HST := hide hst
          have HE1 := hide e1
          have HE2 := hide e2
          have HBD : Hid (D.length + r.length ≤ 1000000000000) := hide (by omega)
          clear hj hu eu hr hD hst e1 e2
          go_wp2_with (at_builtin; refine wpList_app_strs rfl _ _ rfl w.heap.size _ D rfl hown _ r rfl HST.out HBD.out hsz ?_)
          intro v' w2 hown' hgrow
          have HO2 : Hid (OwnS 9 w2 w.heap.size v' (rs.take (k + 1)).flatten) := hide (by rw [HN.out]; unfold OwnS; rw [List.length_append, List.map_append]; exact hown')
          have HB2 := hide (hb.trans ((Below.refl _ _).grown hgrow hsz (own_ge hown)))
          clear hown hown' hgrow c1
          go_wp2_with fail
          go_roundw
          case rel => exact ⟨k + 1, by omega, by go_num, HO2, HB2.out⟩
          case measure => simp [intOf]; omega
        · obtain rfl : k = rs.length := by omega
          have hd : ¬ ((rs.length : Int) < (rs.length : Int)) := by omega
          rw [List.take_length] at HO
          go_wp2_with fail
          go_ret
          exact ⟨_, rfl, HO.out, hb⟩
set_option maxHeartbeats 1000000 in
theorem growNil_any (w : World) : Calls Tryd.prog 124 #[.slice none 0 0, .int .i64 0] w fun e w' => e = .returned (.slice none 0 0) ∧ w = w' := by
  go_enter Tryd.func124, Tryd.ntmps124
  go_wp2_with fail
  go_ret
  exact ⟨rfl, rfl⟩
set_option maxHeartbeats 1000000 in
theorem concatNil_any (w : World) : Calls Tryd.prog 85 #[.slice none 0 0] w fun e w' => e = .returned (.slice none 0 0) ∧ w = w' := by
  go_enter Tryd.func85, Tryd.ntmps85
  go_wp2_with fail
  go_loop [3, 11] (fun a i => a = .int .i64 0 ∧ i = .int .i64 0) (fun _ _ => 0)
  case atStart => exact ⟨rfl, rfl⟩
  case round =>
    obtain ⟨rfl, rfl⟩ := hrel
    go_wp2_with fail
    refine (growNil_any _).mono ?_
    rintro e w' ⟨rfl, rfl⟩
    go_wp2_with fail
    go_loop [6, 27] (fun a i => a = .slice none 0 0 ∧ i = .int .i64 0) (fun _ _ => 0)
    case atStart => exact ⟨rfl, rfl⟩
    case round =>
      obtain ⟨rfl, rfl⟩ := hrel
      go_wp2_with fail
      go_ret
      exact ⟨rfl, rfl⟩
end Go.Proofs.YtkikbejpgfhfoaaDoor

/- RunsL -/
set_option linter.unusedVariables false
set_option linter.unusedSimpArgs false
namespace Go.Pw
open Go.RowKit
/-- a row of runs, in a block from its first cell on -/
structure RunsL (w : World) (A : Option Addr) (cap : Nat) (vs : List Value) (rs : List (List ByteArray)) : Prop where
  len : vs.length = rs.length
  cap1 : rs.length ≤ cap
  cap2 : cap ≤ maxLen
  at_ : 0 < rs.length → ∃ g, A = some ⟨g, 0, none⟩ ∧ g < w.heap.size ∧ ∀ (j : Nat) u, vs[j]? = some u → w.cell? ⟨g, j, none⟩ = some u
  el : ∀ (i : Nat) (u : Value) (r : List ByteArray), vs[i]? = some u → rs[i]? = some r → Strs w u r ∧ Lies w u
theorem RunsL.below {w w' : World} {A : Option Addr} {cap : Nat} {vs : List Value} {rs : List (List ByteArray)} (h : RunsL w A cap vs rs) (hb : Below w.heap.size w w') : RunsL w' A cap vs rs :=
  ⟨h.len, h.cap1, h.cap2, fun h0 => by obtain ⟨g, e, hg, hj⟩ := h.at_ h0; exact ⟨g, e, Nat.lt_of_lt_of_le hg hb.size, fun j u hu => (hb.cell (p := ⟨g, j, none⟩) hg).trans (hj j u hu)⟩,
    fun i u r hu hr => ⟨(h.el i u r hu hr).1.below hb, fun q hq => Nat.lt_of_lt_of_le ((h.el i u r hu hr).2 q hq) hb.size⟩⟩
theorem RunsL.of_own {w : World} {base : Nat} {tSS : TypeId} {v : Value} {vs : List Value} {rs : List (List ByteArray)} (h : w.ownsRow base tSS 1 v rs.length vs) (hel : ∀ (i : Nat) u r, vs[i]? = some u → rs[i]? = some r → Strs w u r ∧ Lies w u) :
    ∃ A cap, v = .slice A rs.length cap ∧ RunsL w A cap vs rs := by
  obtain ⟨hl, A, cap, rfl, h1, h2, _⟩ := Rd.of_own h
  refine ⟨A, cap, rfl, ⟨by simpa using hl, h1, h2, fun h0 => ?_, hel⟩⟩
  obtain ⟨g, c, e, _, hg⟩ := World.ownsRow.form h h0
  injection e with e1 e2 e3
  subst e1
  exact ⟨g, rfl, hg, fun j u hu => by rw [World.ownsRow.cellAt h j (by have := (List.getElem?_eq_some_iff.1 hu).1; rw [hl] at this; exact this), hu]⟩
theorem RunsL.of_rows {tSS : TypeId} {w : World} {base : Nat} {v : Value} {vs : List Value} {rs : List (List ByteArray)} (h : RowsR tSS w base v vs rs) : ∃ A cap, v = .slice A rs.length cap ∧ RunsL w A cap vs rs :=
  RunsL.of_own h.own fun i u r hu hr => ⟨(h.el i u r hu hr).1, (h.el i u r hu hr).2.1⟩
/-- the chunk x of the row -/
def grp {α : Type} (n : Nat) (rs : List α) (x : Nat) : List α := (rs.drop (x * n)).take n
theorem grp_len {α : Type} {n : Nat} {rs : List α} {x : Nat} : (grp n rs x).length = min n (rs.length - x * n) := by unfold grp; rw [List.length_take, List.length_drop]
theorem grp_at {α : Type} {n : Nat} {rs : List α} {x j : Nat} {u : α} (h : (grp n rs x)[j]? = some u) : rs[x * n + j]? = some u ∧ j < n := by
  unfold grp at h
  rw [List.getElem?_take] at h
  split at h
  · rename_i hj
    rw [List.getElem?_drop] at h
    exact ⟨h, hj⟩
  · cases h
theorem grp_mem {α : Type} {n : Nat} {rs : List α} {x : Nat} {u : α} (h : u ∈ grp n rs x) : u ∈ rs := List.mem_of_mem_drop (List.mem_of_mem_take h)
theorem grp_flat {α : Type} (n : Nat) (rs : List (List α)) (x : Nat) : (grp n rs x).flatten.length ≤ rs.flatten.length := by
  unfold grp
  have h1 : ∀ (l : List (List α)) k, (l.take k).flatten.length ≤ l.flatten.length := fun l k => by
    conv => rhs; rw [← List.take_append_drop k l, List.flatten_append, List.length_append]
    omega
  have h2 : ∀ (l : List (List α)) k, (l.drop k).flatten.length ≤ l.flatten.length := fun l k => by
    conv => rhs; rw [← List.take_append_drop k l, List.flatten_append, List.length_append]
    omega
  exact Nat.le_trans (h1 _ _) (h2 _ _)
/-- a clone of a chunk may be merged -/
theorem RunsL.clone {w w' : World} {tSS : TypeId} {g cap n x : Nat} {A : Option Addr} {vs : List Value} {rs : List (List ByteArray)} {c : Nat} (h : RunsL w A cap vs rs) (hb : Below w.heap.size w w') (hg : w.heap.size ≤ g)
    (ho : w'.ownsRow w.heap.size tSS 1 (.slice (some ⟨g, 0, none⟩) (grp n rs x).length c) (grp n rs x).length (grp n vs x)) : RunsAt w' w' g (grp n vs x) (grp n rs x) := by
  refine ⟨by rw [grp_len, grp_len, h.len], fun i u hu => ?_, fun i u l hu hl => ?_⟩
  · have hi : i < (grp n rs x).length := by
      have := (List.getElem?_eq_some_iff.1 hu).1
      rw [grp_len, h.len] at this
      rw [grp_len]; exact this
    exact ⟨by rw [World.ownsRow.cellAt ho i (by omega), hu], World.ownsRow.frozenAt ho i⟩
  · obtain ⟨h1, _⟩ := grp_at hu
    obtain ⟨h2, _⟩ := grp_at hl
    obtain ⟨a, b⟩ := h.el _ u l h1 h2
    exact ⟨a.below hb, fun e => by have := b g e; omega⟩
end Go.Pw
namespace Go.Proofs.YtkikbejpgfhfoaaDoor
open Go.RowKit Go.Pw
set_option maxHeartbeats 1000000 in
theorem concatEmpty_any (A : Option Addr) (cap : Nat) (w : World) : Calls Tryd.prog 85 #[.slice A 0 cap] w fun e w' => e = .returned (.slice none 0 0) ∧ w = w' := by
  go_enter Tryd.func85, Tryd.ntmps85
  go_wp2_with fail
  go_loop [3, 11] (fun a i => a = .int .i64 0 ∧ i = .int .i64 0) (fun _ _ => 0)
  case atStart => exact ⟨rfl, rfl⟩
  case round =>
    obtain ⟨rfl, rfl⟩ := hrel
    go_wp2_with fail
    refine (growNil_any _).mono ?_
    rintro e w' ⟨rfl, rfl⟩
    go_wp2_with fail
    go_loop [6, 27] (fun a i => a = .slice none 0 0 ∧ i = .int .i64 0) (fun _ _ => 0)
    case atStart => exact ⟨rfl, rfl⟩
    case round =>
      obtain ⟨rfl, rfl⟩ := hrel
      go_wp2_with fail
      go_ret
      exact ⟨rfl, rfl⟩
end Go.Proofs.YtkikbejpgfhfoaaDoor

/- RunsQ -/
set_option linter.unusedVariables false
namespace Go.Pw
open Go.RowKit
theorem grp_chk {α : Type} {n : Nat} (hn : 0 < n) : ∀ (k c : Nat) (rs : List α), rs.length ≤ k → rs.length ≤ c * n → (∀ x, x < c → x * n < rs.length) → (List.range c).map (grp n rs) = chk n k rs
  | k, 0, rs, hk, hc, hx => by
    have h0 : rs.length = 0 := by omega
    cases k with
    | zero => rfl
    | succ k => rw [chk, if_pos h0]; rfl
  | 0, c + 1, rs, hk, hc, hx => by
    have := hx 0 (by omega)
    omega
  | k + 1, c + 1, rs, hk, hc, hx => by
    have h0 := hx 0 (by omega)
    rw [chk, if_neg (by omega), List.range_succ_eq_map, List.map_cons, List.map_map]
    have hd : (rs.drop n).length = rs.length - n := List.length_drop
    have hm : (c + 1) * n = c * n + n := Nat.succ_mul c n
    rw [← grp_chk hn k c (rs.drop n) (by omega) (by omega) (fun x hx' => by
      have := hx (x + 1) (by omega)
      have hm' : (x + 1) * n = x * n + n := Nat.succ_mul x n
      omega)]
    congr 1
    · unfold grp; simp
    · apply List.map_congr_left
      intro x _
      show grp n rs (x + 1) = grp n (rs.drop n) x
      unfold grp
      rw [List.drop_drop, Nat.succ_mul, Nat.add_comm n (x * n)]
theorem rows_next {lt : ByteArray → ByteArray → Bool} (hw : Swo lt) {n : Nat} (hn : 0 < n) {rs : List (List ByteArray)} (h1 : 0 < rs.length) {c : Nat} (hc : rs.length ≤ c * n) (hx : ∀ x, x < c → x * n < rs.length) :
    c = (rs.length + n - 1) / n ∧ mrgs lt ((List.range c).map fun x => mrgs lt (grp n rs x)) = mrgs lt rs := by
  constructor
  · symm
    cases c with
    | zero => omega
    | succ c =>
      have := hx c (by omega)
      have hm : (c + 1) * n = c * n + n := Nat.succ_mul c n
      have hm2 : (c + 1 + 1) * n = (c + 1) * n + n := Nat.succ_mul (c + 1) n
      exact Nat.div_eq_of_lt_le (by omega) (by show rs.length + n - 1 < (c + 1 + 1) * n; omega)
  · have e : (List.range c).map (fun x => mrgs lt (grp n rs x)) = ((List.range c).map (grp n rs)).map (mrgs lt) := by rw [List.map_map]; rfl
    rw [e, grp_chk hn rs.length c rs (Nat.le_refl _) hc hx, mrgs_chk hw hn rs.length rs (Nat.le_refl _)]
end Go.Pw

/- Marks -/
set_option linter.unusedVariables false
namespace Go.Pw
open Go.RowKit
/-- the marks of the blocks 'Ds' -/
def marks (Ds : List Nat) : List Deferred := Ds.map fun D => { target := .collected D, args := #[] }
theorem leaves_marks {F : Fence} {n : Nat} {P : Program} {fn : Func} {tmps : Array Value} {R : Ending → World → Prop} {N : Nat} {u : FrameMode} (hu : u ≠ .run) : ∀ (Ds : List Nat) (w : World), Ds.Nodup →
    (∀ D ∈ Ds, N ≤ D ∧ w.heap[D]? = some (.deferred (some []))) → (∀ w', Below N w w' → LeavesInM F n P fn tmps R [] u w') → LeavesInM F n P fn tmps R (marks Ds) u w
  | [], w, _, _, h => h w (Below.refl _ _)
  | D :: Ds, w, hn, hd, h => by
    obtain ⟨h1, h2⟩ := hd D (by simp)
    obtain ⟨hDn, hn⟩ := List.nodup_cons.1 hn
    have hb : Below N w (w.putObj D (.deferred none)) := ⟨rfl, rfl, rfl, by simp [World.putObj], fun k hk => by simp only [World.putObj]; rw [Array.getElem?_setIfInBounds_ne (by omega)]⟩
    refine ⟨hu, Or.inl ⟨D, _, rfl, run_takeDeferred h2, leaves_marks hu Ds _ hn (fun E hE => ?_) (fun w' hw => h w' (hb.trans hw))⟩⟩
    obtain ⟨h3, h4⟩ := hd E (by simp [hE])
    refine ⟨h3, ?_⟩
    simp only [World.putObj]
    rw [Array.getElem?_setIfInBounds_ne (fun e => hDn (by rw [e]; exact hE))]
    exact h4
end Go.Pw
