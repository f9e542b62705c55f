/- text.Runs. -/
import Derived.Test.YtkikbejpgfhfoaaDoorZRunsA
import Derived.Test.YtkikbejpgfhfoaaDoorZRunsC
import Derived.Test.YtkikbejpgfhfoaaDoorPassR
import Derived.RangeFuncFrom
import Derived.RangeFuncBox
set_option linter.unusedVariables false
set_option linter.unusedSimpArgs false
namespace Go.Pw
open Go.RowKit
/-- where the passes stand -/
structure PsAt (lt : ByteArray → ByteArray → Bool) (ways : Nat) (l : List ByteArray) (n0 : Nat) (rs : List (List ByteArray)) (p : Nat) : Prop where
  m : mrgs lt rs = isrt lt l
  s : ∀ r ∈ rs, Srt lt r
  z : ∀ r ∈ rs, ∀ x ∈ r, x.size ≤ 65536
  f : rs.flatten.length = l.length
  n : rs.length ≤ 4096
  p : p + pas ways rs.length = pas ways n0
  e : l = [] → rs = []
theorem Strs.keptC {W W' : World} {row : Option Nat} {u : Value} {r : List ByteArray} (h : Strs W u r) (hg : W.grownBy W' row) (hr : ∀ q, row = some q → ∃ o : Obj, W.heap[q]? = some o ∧ o.isCells = false) : Strs W' u r := by
  obtain ⟨⟨h1, A, cap, rfl, hc, hm, hx⟩, hz⟩ := h
  refine ⟨⟨h1, A, cap, rfl, hc, hm, fun hn => ?_⟩, hz⟩
  obtain ⟨b, o, rfl, hb, hj⟩ := hx hn
  exact ⟨b, o, rfl, Nat.lt_of_lt_of_le hb hg.size, fun j u hu => cell_kept (hj j u hu) hg hr⟩
theorem RowsR.keptC {tSS : TypeId} {W W' : World} {row : Option Nat} {base : Nat} {v : Value} {vs : List Value} {rs : List (List ByteArray)} (h : RowsR tSS W base v vs rs) (hg : W.grownBy W' row) (hr : ∀ q, row = some q → ∃ o : Obj, W.heap[q]? = some o ∧ o.isCells = false) : RowsR tSS W' base v vs rs := by
  refine ⟨h.len, World.ownsRow.kept h.own hg ?_, fun i u l hu hl => ⟨(h.el i u l hu hl).1.keptC hg hr, fun q hq => Nat.lt_of_lt_of_le ((h.el i u l hu hl).2.1 q hq) hg.size, (h.el i u l hu hl).2.2⟩⟩
  rcases h.own.2 with ⟨rfl, _⟩ | ⟨g, cap, cur, rfl, hb, hh, _⟩
  · exact .inl rfl
  · refine .inr fun e => ?_
    obtain ⟨o, ho, hc⟩ := hr g e.symm
    rw [hh] at ho
    injection ho with ho
    subst ho; cases hc
theorem KeepsOthers.of_below {W W' : World} (h : Below W.heap.size W W') : KeepsOthers W W' := ⟨h.size, fun k o hk _ => (h.block k (Array.getElem?_eq_some_iff.1 hk).1).trans hk⟩
theorem KeepsOthers.of_but {W W' : World} {g : Nat} (h : But W.heap.size g W W') {cs : Array Value} {t : TypeId} {fr : Nat × Nat} (hg : W.heap[g]? = some (.cells cs t fr)) : KeepsOthers W W' :=
  ⟨h.size, fun k o hk ho => (h.block k (Array.getElem?_eq_some_iff.1 hk).1 (fun e => by subst e; rw [hg] at hk; injection hk with hk; subst hk; cases ho)).trans hk⟩
theorem own_cells {w : World} {base g n c : Nat} {e : TypeId} {xs : List Value} (h : w.ownsRow base e 1 (.slice (some ⟨g, 0, none⟩) n c) n xs) : ∃ cs t fr, w.heap[g]? = some (.cells cs t fr) := by
  rcases h.2 with ⟨h, _⟩ | ⟨g', cap, cur, hv, _, hh, _⟩
  · cases h
  · injection hv with hv
    injection hv with hv
    injection hv with hv _ _
    subst hv
    exact ⟨_, _, _, hh⟩
theorem RowsR.setBox {tSS : TypeId} {W : World} {X N : Nat} {v : Value} {vs : List Value} {rs : List (List ByteArray)} (hXN : X < N) (h : RowsR tSS W N v vs rs) (hlow : ∀ u ∈ vs, ∀ q, u.ownBlock = some q → N ≤ q) (y : Value) : RowsR tSS (W.setCell ⟨X, 0, none⟩ y) N v vs rs := by
  refine ⟨h.len, ownsRow_setCell_below h.own (by simpa using hXN) y, fun i u l hu hl => ?_⟩
  obtain ⟨a, b, c⟩ := h.el i u l hu hl
  exact ⟨a.set_low (hlow u (List.mem_of_getElem? hu)) (by simpa using hXN) y, fun q hq => by have := b q hq; simpa [World.setCell] using this, c⟩
theorem But.putObj {N X : Nat} {W : World} {l : Nat} {o' : Obj} (hl : N ≤ l) : But N X W (W.putObj l o') :=
  ⟨rfl, rfl, rfl, by simp [World.putObj], fun k hk _ => by simp only [World.putObj]; rw [Array.getElem?_setIfInBounds_ne (by omega)]⟩
theorem runs_start {lt : ByteArray → ByteArray → Bool} (hw : Swo lt) {w : World} {base : Nat} {tSS : TypeId} {v : Value} {vs : List Value} {l : List ByteArray} (mem : Int) (hls : ∀ x ∈ l, x.size ≤ 65536) (hln : l.length ≤ 4096)
    (ho : w.ownsRow base tSS 1 v (dvd ByteArray.size mem l).1.length vs) (hel : ∀ (i : Nat) u r, vs[i]? = some u → (dvd ByteArray.size mem l).1[i]? = some r → Strs w u (isrt lt r)) :
    ∃ A cap, v = .slice A ((dvd ByteArray.size mem l).1.map (isrt lt)).length cap ∧ RunsL w A cap vs ((dvd ByteArray.size mem l).1.map (isrt lt)) ∧ ∀ ways, PsAt lt ways l (dvd ByteArray.size mem l).1.length ((dvd ByteArray.size mem l).1.map (isrt lt)) 0 := by
  obtain ⟨A, cap, e, h⟩ := RunsL.of_own (rs := (dvd ByteArray.size mem l).1.map (isrt lt)) (by rw [List.length_map]; exact ho) (fun i u r hu hr => by
    rw [List.getElem?_map, Option.map_eq_some_iff] at hr
    obtain ⟨q, hq, rfl⟩ := hr
    have h1 := hel i u q hu hq
    refine ⟨h1, h1.1.lt ?_⟩
    rw [isrt_len]
    exact List.length_pos_iff.2 (dvd_ne ByteArray.size mem l q (List.mem_of_getElem? hq)))
  refine ⟨A, cap, e, h, fun ways => ⟨?_, ?_, ?_, ?_, ?_, ?_, ?_⟩⟩
  · rw [mrgs_isrt hw, dvd_flat]
  · intro r hr
    obtain ⟨q, _, rfl⟩ := List.mem_map.1 hr
    exact isrt_srt hw q
  · intro r hr x hx
    obtain ⟨q, hq, rfl⟩ := List.mem_map.1 hr
    exact hls x (dvd_mem _ _ _ hq (isrt_mem _ hx))
  · have := congrArg List.length (mrgs_isrt (lt := lt) hw (dvd ByteArray.size mem l).1)
    rw [mrgs_len, isrt_len, dvd_flat] at this
    exact this
  · rw [List.length_map]
    have := dvd_len ByteArray.size mem l
    omega
  · rw [List.length_map, Nat.zero_add]
  · rintro rfl
    rfl
theorem PsAt.next {lt : ByteArray → ByteArray → Bool} (hw : Swo lt) {ways n0 p c : Nat} {l : List ByteArray} {rs : List (List ByteArray)} (h : PsAt lt ways l n0 rs p) (hw2 : 2 ≤ ways) (h1 : 1 < rs.length) (xs : List (Chk rs.length ways)) (hc : rs.length ≤ c * ways) (hxs : xs.map Subtype.val = List.range c) :
    PsAt lt ways l n0 (xs.map fun x => mrgs lt (grp ways rs x.1)) (p + 1) := by
  have e : (xs.map fun x => mrgs lt (grp ways rs x.1)) = (List.range c).map fun x => mrgs lt (grp ways rs x) := by rw [← hxs, List.map_map]; rfl
  have hx : ∀ x, x < c → x * ways < rs.length := fun x hx => by
    have hm : x ∈ xs.map Subtype.val := by rw [hxs]; exact List.mem_range.2 hx
    obtain ⟨y, _, rfl⟩ := List.mem_map.1 hm
    exact y.2
  obtain ⟨hcc, hmm⟩ := rows_next (lt := lt) hw (n := ways) (by omega) (by omega) hc hx
  have hll : ((List.range c).map fun x => mrgs lt (grp ways rs x)).length = c := by simp
  have hM := hmm.trans h.m
  rw [e]
  refine ⟨hM, ?_, ?_, ?_, ?_, ?_, fun e0 => ?_⟩
  · intro r hr
    obtain ⟨x, _, rfl⟩ := List.mem_map.1 hr
    exact mrgs_srt hw fun q hq => h.s q (grp_mem hq)
  · intro r hr y hy
    obtain ⟨x, _, rfl⟩ := List.mem_map.1 hr
    obtain ⟨q, hq, hyq⟩ := mrgs_mem hy
    exact h.z q (grp_mem hq) y hyq
  · have a := congrArg List.length hmm
    rw [mrgs_len, mrgs_len] at a
    rw [a]; exact h.f
  · rw [hll, hcc]
    have := less_div hw2 h1
    have := h.n
    omega
  · rw [hll, hcc]
    have a := pas_step hw2 h1
    have b := h.p
    omega
  · have := h.e e0
    rw [this] at h1
    simp at h1
theorem chk_less {lt : ByteArray → ByteArray → Bool} (hw : Swo lt) {ways c : Nat} {rs : List (List ByteArray)} (hw2 : 2 ≤ ways) (h1 : 1 < rs.length) (xs : List (Chk rs.length ways)) (hc : rs.length ≤ c * ways) (hxs : xs.map Subtype.val = List.range c) :
    (xs.map fun x => mrgs lt (grp ways rs x.1)).length < rs.length := by
  have hx : ∀ x, x < c → x * ways < rs.length := fun x hx => by
    have hm : x ∈ xs.map Subtype.val := by rw [hxs]; exact List.mem_range.2 hx
    obtain ⟨y, _, rfl⟩ := List.mem_map.1 hm
    exact y.2
  obtain ⟨hcc, _⟩ := rows_next (lt := lt) hw (n := ways) (by omega) (by omega) hc hx
  have hl : xs.length = c := by have := congrArg List.length hxs; simpa using this
  rw [List.length_map, hl, hcc]
  exact less_div hw2 h1
end Go.Pw
namespace Go.Proofs.YtkikbejpgfhfoaaDoor
open Go.RowKit Go.Pw Go.Shelf
attribute [local go_sem] Oper.semAt_some
theorem merge_step (o : Sp) (A0 : Option Addr) (cap0 g2 c8 ways x : Nat) (W w8 w : World) {A : Option Addr} {cap n0 pn : Nat} {vs : List Value} {rs : List (List ByteArray)} {l : List ByteArray} (hr : RunsL W A cap vs rs) (hp : PsAt (ltOf (ordCmp o)) ways l n0 rs pn) (hx : x * ways < rs.length)
    (hb8 : Below W.heap.size W w8) (hg2 : W.heap.size ≤ g2) (ho8 : w8.ownsRow W.heap.size 40 1 (.slice (some ⟨g2, 0, none⟩) (min ways (rs.length - x * ways)) c8) (min ways (rs.length - x * ways)) (grp ways vs x)) (hk : KeysIn w (.slice A0 o.keys.length cap0) o.keys) (hgd : ∀ k ∈ o.keys, k.good) (hw : Below w.heap.size w W) (hln : l.length ≤ 4096) (hways : ways ≤ 16) :
    Calls Tryd.prog 83 #[.agg #[.string o.sep, .slice A0 o.keys.length cap0, .bool o.reverse, .bool o.stable, .bool o.unique], .slice (some ⟨g2, 0, none⟩) (min ways (rs.length - x * ways)) c8] w8 fun e w' => ∃ v', e = .returned v' ∧ OwnS 9 w' (w8.heap.size + 1) v' (mrgs (ltOf (ordCmp o)) (grp ways rs x)) ∧ But w8.heap.size g2 w8 w' := by
  have hgl : (grp ways rs x).length = min ways (rs.length - x * ways) := grp_len
  have hgl2 : g2 < w8.heap.size := own_lt ho8 g2 rfl
  have ho8' := ho8
  rw [← hgl] at ho8'
  have hw8 := hb8.size
  have hww := hw.size
  refine merged_any o (.slice A0 o.keys.length cap0) g2 (min ways (rs.length - x * ways)) c8 (grp ways rs x) w8 hgl2 hgl (by omega) ⟨_, hr.clone hb8 hg2 ho8'⟩ ?_ (fun r hr => hp.s r (grp_mem hr)) (fun r hr => hp.z r (grp_mem hr)) ?_
  · intro a b w5 z1 z2 hb5
    refine compare_any o (.slice A0 o.keys.length cap0) a b w5 (Rd.keep hk ?_ fun p hp => ?_) hgd (by omega) (by omega)
    · exact Nat.le_trans hww (Nat.le_trans hw8 hb5.size)
    · exact (hb5.cell (by omega) (by omega)).trans ((hb8.cell (by omega)).trans (hw.cell hp))
  · have h1 := grp_flat ways rs x
    have h2 := hp.f
    omega
/-- the merged chunk is appended to the box's row -/
theorem push_box {T : TypeId} {W w8 w9 : World} {X N g2 : Nat} {nv : Value} {nvs : List Value} {R : List (List ByteArray)} {A9 : Option Addr} {c9 : Nat} {m : List ByteArray} {lc : Nat} (hXN : X < N) (hNW : N ≤ W.heap.size)
    (hbx : Boxed W X 82 nv) (hrow : RowsR 40 W N nv nvs R) (hlow : ∀ u ∈ nvs, ∀ q, u.ownBlock = some q → N ≤ q) (hb8 : Below W.heap.size W w8) (hg2 : W.heap.size ≤ g2)
    (ho9 : OwnS 9 w9 (w8.heap.size + 1) (.slice A9 lc c9) m) (hb9 : But w8.heap.size g2 w8 w9) (hcg : ∃ cs t fr, w8.heap[g2]? = some (.cells cs t fr)) (hn : R.length ≤ 1000000) (hsz : ∀ s ∈ m, s.size ≤ maxLen) :
    ∃ g10 c10 w10, (Builtin.append_ #[82, 82] 82 #[nv, .slice (some ⟨w9.heap.size, 0, none⟩) 1 1]).run Tryd.prog (w9.alloc (.cells #[.slice A9 lc c9] T)) = .ok (.slice (some ⟨g10, 0, none⟩) (R.length + 1) c10) w10
      ∧ w10.cell? ⟨X, 0, none⟩ = some nv ∧ w10.frozen? ⟨X, 0, none⟩ = false ∧ w9.cell? ⟨X, 0, none⟩ = some nv
      ∧ (Boxed (w10.setCell ⟨X, 0, none⟩ (.slice (some ⟨g10, 0, none⟩) (R.length + 1) c10)) X 82 (.slice (some ⟨g10, 0, none⟩) (R.length + 1) c10)
        ∧ RowsR 40 (w10.setCell ⟨X, 0, none⟩ (.slice (some ⟨g10, 0, none⟩) (R.length + 1) c10)) N (.slice (some ⟨g10, 0, none⟩) (R.length + 1) c10) (nvs ++ [.slice A9 lc c9]) (R ++ [m])
        ∧ (∀ u ∈ nvs ++ [Value.slice A9 lc c9], ∀ q, u.ownBlock = some q → N ≤ q)
        ∧ Below X W (w10.setCell ⟨X, 0, none⟩ (.slice (some ⟨g10, 0, none⟩) (R.length + 1) c10))
        ∧ But N X W (w10.setCell ⟨X, 0, none⟩ (.slice (some ⟨g10, 0, none⟩) (R.length + 1) c10))
        ∧ KeepsOthers W (w10.setCell ⟨X, 0, none⟩ (.slice (some ⟨g10, 0, none⟩) (R.length + 1) c10))) := by
  obtain ⟨jp, hjp, hjz, hjs, hjb⟩ := info_parts info_strs
  have h8 := hb8.size
  have h9 := hb9.size
  have hbw9 : Below W.heap.size W w9 := hb8.trans (hb9.below h8 hg2)
  have hb9x : Boxed w9 X 82 nv := (hbw9.block X (by omega)).trans hbx
  have hr9 := hrow.below hbw9
  obtain ⟨g10, c10, w10, hrun, hown10, hgrow10, hat10, hlt10⟩ := run_append_lies (P := Tryd.prog) (w9.alloc (.cells #[.slice A9 lc c9] T)) 82 82 N 40 jp _ 1 24 Tryd.underlying82 hjp hjz hjs hjb rfl (by decide) nv _ _ (own_below hr9.own (alloc_under w9 _)) ⟨w9.heap.size, 0, none⟩ 1 1 [.slice A9 lc c9] rfl (one_new _ _ _) (by intro x hx; simp at hx; subst hx; rfl) (by omega) (by unfold maxLen; omega) (by omega) (by simp; omega) (w9.heap.size + 1) (by simp)
  have hst := OwnS.strs ho9 hsz
  have hli : Lies w9 (.slice A9 lc c9) := fun q hq => own_lt ho9 q hq
  have hge := own_ge ho9
  have hne : ∀ q, (Value.slice A9 lc c9).ownBlock = some q → nv.ownBlock ≠ some q := fun q hq e => by
    have h1 := hge q hq
    have h2 := own_lt hrow.own q e
    omega
  have hpush := hr9.push hst hli hne hown10 hgrow10 hat10
  have hlow' : ∀ u ∈ nvs ++ [Value.slice A9 lc c9], ∀ q, u.ownBlock = some q → N ≤ q := fun u hu q hq => by
    rcases List.mem_append.1 hu with hu | hu
    · exact hlow u hu q hq
    · simp at hu
      subst hu
      have := hge q hq
      omega
  have hba : Below N w9 w10 := below_append hr9.own (by omega) hgrow10
  have hb10 : Boxed w10 X 82 nv := (hba.block X hXN).trans hb9x
  refine ⟨g10, c10, w10, hrun, hb10.cell, hb10.frozen, hb9x.cell, hb10.set _, hpush.setBox hXN hlow' _, hlow', ?_, ?_, ?_⟩
  · exact ((hbw9.mono (show X ≤ W.heap.size by omega)).trans (hba.mono (show X ≤ N by omega))).setCell (p := ⟨X, 0, none⟩) (Nat.le_refl _) _
  · exact ((But.of_below hbw9 hNW).trans (But.of_below hba (Nat.le_refl _))).setCell 0 _
  · obtain ⟨cs, t, fr, hcg⟩ := hcg
    refine (((KeepsOthers.of_below hb8).trans (KeepsOthers.of_but hb9 hcg)).trans ((KeepsOthers.alloc w9 _).trans (KeepsOthers.of_grownBy hgrow10 fun j ob ej hj => ?_))).trans (KeepsOthers.setCell _ _ _)
    rcases (hr9.own.alloc (.cells #[.slice A9 lc c9] T)).2 with ⟨rfl, _⟩ | ⟨g', cap', cur, rfl, _, hgb, _⟩
    · simp [Value.ownBlock] at ej
    · obtain rfl : g' = j := by simpa [Value.ownBlock] using ej
      rw [hgb] at hj; cases hj; rfl
theorem concat_drew {lt : ByteArray → ByteArray → Bool} {ways n0 pn : Nat} {l : List ByteArray} {wr : World} {A : Option Addr} {cap : Nat} {vs : List Value} {rs : List (List ByteArray)} (hr : RunsL wr A cap vs rs) (hp : PsAt lt ways l n0 rs pn) (h1 : rs.length ≤ 1) (hln : l.length ≤ 4096) :
    Calls Tryd.prog 85 #[.slice A rs.length cap] wr.drew fun e w' => ∃ v', e = .returned v' ∧ Strs w' v' rs.flatten ∧ Below wr.heap.size wr w' := by
  by_cases h0 : rs.length = 0
  · have e0 : rs = [] := List.eq_nil_of_length_eq_zero h0
    subst e0
    refine (concatEmpty_any A cap wr.drew).mono ?_
    rintro e w' ⟨rfl, rfl⟩
    exact ⟨_, rfl, ⟨⟨rfl, none, 0, rfl, Nat.le_refl _, by unfold maxLen; omega, fun h => absurd h (by simp)⟩, fun s hs => by cases hs⟩, ⟨rfl, rfl, rfl, Nat.le_refl _, fun _ _ => rfl⟩⟩
  · have hf := hp.f
    have hfl : 0 < rs.flatten.length := by
      rcases Nat.eq_zero_or_pos rs.flatten.length with h | h
      · exact absurd (by rw [hp.e (List.eq_nil_of_length_eq_zero (by omega))]; rfl) h0
      · exact h
    refine (concat_any (.slice A rs.length cap) vs rs wr.drew hr.len ⟨by rw [Nat.mul_one]; exact hr.len, A, cap, rfl, hr.cap1, hr.cap2, fun _ => ?_⟩ (fun i u r hu hr' => ?_) hfl (by omega) (by omega)).mono ?_
    · obtain ⟨g, e, hg, hj⟩ := hr.at_ (by omega)
      exact ⟨g, 0, e, hg, fun j u hu => by rw [Nat.zero_add]; exact hj j u hu⟩
    · exact (hr.el i u r hu hr').1.below (show Below wr.heap.size wr wr.drew from ⟨rfl, rfl, rfl, Nat.le_refl _, fun _ _ => rfl⟩)
    · rintro e w' ⟨v', rfl, ho, hb⟩
      refine ⟨v', rfl, ho.strs (fun x hx => ?_), ⟨hb.os, hb.tape, hb.output, hb.size, hb.block⟩⟩
      obtain ⟨r, hr1, hx1⟩ := List.mem_flatten.1 hx
      have := hp.z r hr1 x hx1
      unfold maxLen; omega
/-- append, as a whole -/
def appAll (ts : Array TypeId) (t : TypeId) (vs : Array Value) : Sem Value := Builtin.append_ ts t vs
theorem appAll_eq (ts : Array TypeId) (t : TypeId) (vs : Array Value) : Builtin.append_ ts t vs = appAll ts t vs := rfl
attribute [local go_sem ↓] appAll_eq
set_option maxHeartbeats 4000000 in
set_option maxRecDepth 100000 in
theorem textRuns_good (o : Sp) (kv : Value) (s : ByteArray) (mem : Int) (ways : Nat) (w : World) (hk : KeysIn w kv o.keys) (he : ordErr o = 0) (hb : bigB s = false) (hm1 : 1 ≤ mem) (hm2 : mem ≤ 65536) (hw1 : 2 ≤ ways) (hw2 : ways ≤ 16) :
    Calls Tryd.prog 41 #[spV o kv, .string s, .int .i64 mem, .int .i64 (ways : Int)] w fun e w' => e = .returned (.tuple #[.string (mkB (resL (sortL o s))), .int .i64 (pas ways (dvd ByteArray.size mem (linesOf s)).1.length : Int), .int .i64 0]) ∧ Below w.heap.size w w' := by
  obtain ⟨A0, cap0, rfl⟩ : ∃ A cap, kv = .slice A o.keys.length cap := by
    obtain ⟨_, A, cap, h, _⟩ := hk
    exact ⟨A, cap, h⟩
  obtain ⟨hsz, hln, hls⟩ := bigB_false hb
  have hB0 := ((Below.refl w.heap.size w).alloc (Nat.le_refl _) (.cells #[.string o.sep, (.slice A0 o.keys.length cap0), .bool o.reverse, .bool o.stable, .bool o.unique] 24))
  have HN0 : Hid (SpIn (w.alloc (.cells #[.string o.sep, (.slice A0 o.keys.length cap0), .bool o.reverse, .bool o.stable, .bool o.unique] 24)) w.heap.size 24 o (.slice A0 o.keys.length cap0)) := hide (heap_alloc_new _ _)
  have HV := hide (valid_any o (.slice A0 o.keys.length cap0) _ (hk.below hB0) (sep_size he))
  have HGD := hide (good_of_valid he)
  have HK := hide hk
  have HB0 := hide hB0
  rw [he] at HV
  have HLG := hide (fun W => large_any s W (by omega))
  simp only [hb] at HLG
  have HWM : Hid (∀ W, Calls Tryd.prog 66 #[.int .i64 mem, .int .i64 1, .int .i64 65536] W fun e w' => e = .returned (.bool true) ∧ W = w') := hide (fun W => (within_any mem 1 65536 W).mono fun e w' ⟨h1, h2⟩ => ⟨by rw [h1]; simp [hm1, hm2], h2⟩)
  have HWW : Hid (∀ W, Calls Tryd.prog 66 #[.int .i64 (ways : Int), .int .i64 2, .int .i64 16] W fun e w' => e = .returned (.bool true) ∧ W = w') := hide (fun W => (within_any (ways : Int) 2 16 W).mono fun e w' ⟨h1, h2⟩ => ⟨by rw [h1]; simp; omega, h2⟩)
  have HLS := hide hls
  have HLN := hide hln
  have HRN : Hid (∀ (v : Value) (W : World), Strs W v (linesOf s) → Below w.heap.size w W → Calls Tryd.prog 81 #[.agg #[.string o.sep, .slice A0 o.keys.length cap0, .bool o.reverse, .bool o.stable, .bool o.unique], v, .int .i64 mem] W fun e w' => ∃ v', e = .returned v' ∧ ∃ vs, w'.ownsRow (W.heap.size + 1) 40 1 v' (dvd ByteArray.size mem (linesOf s)).1.length vs ∧ (∀ (i : Nat) u r, vs[i]? = some u → (dvd ByteArray.size mem (linesOf s)).1[i]? = some r → Strs w' u (isrt (ltOf (ordCmp o)) r)) ∧ Below W.heap.size W w') := hide (fun v W h1 h2 =>
    runs_any o (.slice A0 o.keys.length cap0) v (linesOf s) mem W (HK.out.below h2) HGD.out h1 HLS.out (by omega) hm1 hm2)
  clear hk hB0 he hb hls
  unfold spV at HV ⊢
  refine (callsIn_wide (n := 8)).1 ?_
  refine callsIn_of_wp_marks Tryd.func41 rfl trivial ?_ rfl
  simp only [Tryd.ntmps41, List.size_toArray, List.length_cons, List.length_nil, Nat.reduceAdd, Nat.reduceSub, Array.replicate_succ, Array.replicate_zero, List.push_toArray, List.append_toArray, List.nil_append, List.cons_append]
  refine wpIn_wide.2 ?_
  go_wp2_with fail
  obtain ⟨W1, hW1⟩ : ∃ W1, w.alloc (.cells #[.string o.sep, (.slice A0 o.keys.length cap0), .bool o.reverse, .bool o.stable, .bool o.unique] 24) = W1 := ⟨_, rfl⟩
  have hz1 : W1.heap.size = w.heap.size + 1 := by rw [← hW1]; simp
  rw [hW1] at HV HB0 HN0 ⊢
  have HZ1 := hide hz1
  clear hW1 hz1
  refine HV.out.mono ?_
  rintro e w1 ⟨rfl, hb1⟩
  have n1 := HN0.out.below hb1 (by rw [HZ1.out]; omega)
  have HB1 := hide (HB0.out.trans (hb1.mono (by rw [HZ1.out]; omega)))
  have HN1 := hide n1
  clear hb1 n1 HV
  go_wp2_with fail
  refine (HWM.out _).mono ?_
  rintro e w' ⟨rfl, rfl⟩
  go_wp2_with fail
  refine (HWW.out _).mono ?_
  rintro e w' ⟨rfl, rfl⟩
  go_wp2_with fail
  refine (HLG.out _).mono ?_
  rintro e w2 ⟨rfl, hb2⟩
  have n2 := HN1.out.below hb2 HN1.out.lt
  obtain ⟨c0, c1, c2, c3, c4⟩ := n2.cells
  have HB2 := hide (HB1.out.trans (hb2.mono HB1.out.size))
  clear hb2 n2 HLG HWM HWW
  have HN3 : Hid (SpIn (w2.alloc (.cells #[.string o.sep, (.slice A0 o.keys.length cap0), .bool o.reverse, .bool o.stable, .bool o.unique] 90)) w2.heap.size 90 o (.slice A0 o.keys.length cap0)) := hide (heap_alloc_new _ _)
  have HB3 := hide (HB2.out.alloc HB2.out.size (.cells #[.string o.sep, (.slice A0 o.keys.length cap0), .bool o.reverse, .bool o.stable, .bool o.unique] 90))
  go_wp2_with fail
  obtain ⟨W3, hW3⟩ : ∃ W3, w2.alloc (.cells #[.string o.sep, (.slice A0 o.keys.length cap0), .bool o.reverse, .bool o.stable, .bool o.unique] 90) = W3 := ⟨_, rfl⟩
  have hz3 : W3.heap.size = w2.heap.size + 1 := by rw [← hW3]; simp
  rw [hW3] at HN3 HB3 ⊢
  clear hW3 c0 c1 c2 c3 c4
  obtain ⟨c0, c1, c2, c3, c4⟩ := HN3.out.cells
  have hlt3 : w2.heap.size < W3.heap.size := by omega
  have hww : w.heap.size ≤ W3.heap.size := HB3.out.size
  go_region_held3 (fun w' => w'.cell? ⟨w2.heap.size, 0, none⟩ = some (.string o.sep) ∧ w'.cell? ⟨w2.heap.size, 1, none⟩ = some (.slice A0 o.keys.length cap0) ∧ w'.cell? ⟨w2.heap.size, 2, none⟩ = some (.bool o.reverse) ∧ w'.cell? ⟨w2.heap.size, 3, none⟩ = some (.bool o.stable) ∧ w'.cell? ⟨w2.heap.size, 4, none⟩ = some (.bool o.unique)) (go_keep) (first
    | (go_at_call 60; (with_reducible refine (lines_any s W3.drew (by omega)).mono ?_); rintro e w4 ⟨v, rfl, hr⟩; have hbl := linesRes_below hr; have hbl' : Below W3.heap.size W3 w4 := ⟨hbl.os, hbl.tape, hbl.output, hbl.size, hbl.block⟩; have HST4 := hide (linesRes_strs hr (fun x hx => by have := HLS.out x hx; unfold maxLen; omega) (by unfold maxLen; omega)); have hn4 := HN3.out.below hbl' hlt3; obtain ⟨e0, e1, e2, e3, e4⟩ := hn4.cells; have HB4 := hide (HB3.out.trans (hbl'.mono hww)))
    | (go_at_call 81; (with_reducible refine (HRN.out _ _ HST4.out HB4.out).mono ?_); rintro e w5 ⟨v5, rfl, vs5, hown5, hel5, hbl2⟩; have hbl3 := hbl2; have hn5 := hn4.below hbl2 hn4.lt; obtain ⟨g0, g1, g2, g3, g4⟩ := hn5.cells))
  have HB5 := hide (HB4.out.trans (hbl3.mono HB4.out.size))
  have HN5 := hide hn5
  have HOW := hide hown5
  have HEL := hide hel5
  clear hbl hbl' hbl2 hbl3 hn4 e0 e1 e2 e3 e4 g0 g1 g2 g3 g4 c0 c1 c2 c3 c4 hr hn5 hown5 hel5
  have HST := hide (runs_start (lt := ltOf (ordCmp o)) (ordCmp_cmp3 o).swo mem HLS.out HLN.out HOW.out HEL.out)
  obtain ⟨RA, rc, hv5, hrl, hps⟩ := HST.out
  obtain ⟨n0, hn0⟩ : ∃ n0, (dvd ByteArray.size mem (linesOf s)).1.length = n0 := ⟨_, rfl⟩
  obtain ⟨rs0, hrs0⟩ : ∃ rs0, (dvd ByteArray.size mem (linesOf s)).1.map (isrt (ltOf (ordCmp o))) = rs0 := ⟨_, rfl⟩
  rw [hrs0] at hrl hps hv5
  have hps0 := hps ways
  rw [hn0] at hps0
  have HN0' := hide hn0
  have HPS := hide hps0
  have HRL := hide hrl
  subst hv5
  clear HST HOW HEL hrl hps hps0 hrs0 hn0 HN0 HN1 HN3 HB0 HB1 HB2 HB3 HB4 HST4 HRN
  go_wp2_with fail
  refine wp_loop (fun a' w' => ∃ (u13 u14 u15 u16 u41 u42 u43 u44 u45 u46 u47 u48 u49 u50 u51 u52 u53 u54 u55 u56 u57 : Value) (A : Option Addr) (cap : Nat) (vs : List Value) (rs : List (List ByteArray)) (pn : Nat) (Ds : List Nat), (u13 = .slice A rs.length cap ∧ u14 = .int .i64 (pn : Int) ∧ Hid (RunsL w' A cap vs rs) ∧ Hid (PsAt (ltOf (ordCmp o)) ways (linesOf s) n0 rs pn) ∧ Hid (SpIn w' w2.heap.size 90 o (.slice A0 o.keys.length cap0)) ∧ Hid (Below w.heap.size w w') ∧ Hid (Ds.Nodup ∧ ∀ D ∈ Ds, w.heap.size ≤ D ∧ w'.heap[D]? = some (.deferred (some [])))) ∧
      a' = ⟨#[Value.agg #[Value.string o.sep, Value.slice A0 o.keys.length cap0, Value.bool o.reverse, Value.bool o.stable, Value.bool o.unique], Value.string s, Value.int .i64 mem, Value.int .i64 (ways : Int), Value.pointer (some ⟨w.heap.size, 0, none⟩), undef, undef, undef, Value.string ⟨#[]⟩, Value.int .i64 0, Value.int .i64 0, Value.int .i64 0, Value.pointer (some ⟨w2.heap.size, 0, none⟩), u13, u14, u15, u16, Value.agg #[Value.string o.sep, Value.slice A0 o.keys.length cap0, Value.bool o.reverse, Value.bool o.stable, Value.bool o.unique], Value.int .i64 0, Value.int .i64 0, Value.bool false, undef, Value.bool false, Value.int .i64 mem, Value.bool true, Value.bool false, Value.bool false, Value.int .i64 (ways : Int), Value.bool true, Value.bool false, Value.bool false, Value.bool false, Value.string s, Value.bool false, Value.agg #[Value.string o.sep, Value.slice A0 o.keys.length cap0, Value.bool o.reverse, Value.bool o.stable, Value.bool o.unique], Value.agg #[Value.string o.sep, Value.slice A0 o.keys.length cap0, Value.bool o.reverse, Value.bool o.stable, Value.bool o.unique], Value.agg #[Value.string o.sep, Value.slice A0 o.keys.length cap0, Value.bool o.reverse, Value.bool o.stable, Value.bool o.unique], Value.string s, v, Value.int .i64 mem, Value.slice RA rs0.length rc, u41, u42, u43, u44, u45, u46, u47, u48, u49, u50, u51, u52, u53, u54, u55, u56, u57, undef, undef, undef, undef, undef], marks Ds⟩) (fun a' _ => slLen (a'.tmps.getD 13 undef)) ?_ ?_
  · exact ⟨_, _, _, _, _, _, _, _, _, _, _, _, _, _, _, _, _, _, _, _, _, RA, rc, vs5, rs0, 0, [], ⟨rfl, rfl, HRL, HPS, HN5, HB5, hide ⟨List.nodup_nil, fun _ h => by cases h⟩⟩, rfl⟩
  · clear HRL HPS HN5 HB5
    rintro _ wr ⟨u13, u14, u15, u16, u41, u42, u43, u44, u45, u46, u47, u48, u49, u50, u51, u52, u53, u54, u55, u56, u57, RA, rc, vs, rs, pn, Ds, ⟨rfl, rfl, HRL, HPS, HN, HB, HDS⟩, rfl⟩
    try dsimp only
    have hpb : pn ≤ 4096 := by
      have a1 := HPS.out.p
      have a2 := pas_le hw1 n0 n0 (Nat.le_refl _)
      have a3 := dvd_len ByteArray.size mem (linesOf s)
      have a4 := HN0'.out
      have a5 := HLN.out
      omega
    by_cases h1 : 1 < rs.length
    · have hd : (1 : Int) < (rs.length : Int) := by omega
      obtain ⟨g, rfl, hg, hcell⟩ := HRL.out.at_ (by omega)
      have hnl := HPS.out.n
      have HCELL := hide hcell
      clear hcell
      have HCK := hide (fun W => chunk_any (.slice (some ⟨g, 0, none⟩) rs.length rc) (ways : Int) W rfl (by omega) (by omega))
      go_wp2_with fail
      refine (HCK.out _).mono ?_
      rintro e w7 ⟨rfl, rfl⟩
      clear HCK
      obtain ⟨w6, hw6⟩ : ∃ w6, w6 = wr := ⟨_, rfl⟩
      subst hw6
      obtain ⟨Wl, hWl⟩ : ∃ Wl, ((w6.alloc (.cells #[.slice none 0 0] 82)).alloc (.cells #[.slice (some ⟨g, 0, none⟩) rs.length rc] 82)).alloc (.cells #[.int .i64 (ways : Int)] 3) = Wl := ⟨_, rfl⟩
      have hzl : Wl.heap.size = w6.heap.size + 3 := by rw [← hWl]; simp
      have hbl : Below w6.heap.size w6 Wl := by rw [← hWl]; exact (((Below.refl _ _).alloc (Nat.le_refl _) _).alloc (by simp) _).alloc (by simp; omega) _
      have hbx : Boxed Wl w6.heap.size 82 (.slice none 0 0) := by rw [← hWl]; exact ((Boxed.new _ _ _).alloc _).alloc _
      have hb1 : Wl.cell? ⟨w6.heap.size + 1, 0, none⟩ = some (.slice (some ⟨g, 0, none⟩) rs.length rc) := by
        rw [← hWl]
        have := ((Boxed.new (w6.alloc (.cells #[.slice none 0 0] 82)) 82 (.slice (some ⟨g, 0, none⟩) rs.length rc)).alloc (.cells #[.int .i64 (ways : Int)] 3)).cell
        rw [World.size_alloc] at this; exact this
      have hb2 : Wl.cell? ⟨w6.heap.size + 2, 0, none⟩ = some (.int .i64 (ways : Int)) := by
        rw [← hWl]
        have := (Boxed.new ((w6.alloc (.cells #[.slice none 0 0] 82)).alloc (.cells #[.slice (some ⟨g, 0, none⟩) rs.length rc] 82)) 3 (.int .i64 (ways : Int))).cell
        rw [World.size_alloc, World.size_alloc] at this; exact this
      go_wp2_with fail
      try simp only [World.size_alloc]
      try rw [hWl]
      refine (wpIn_wide (n := 8)).1 ?_
      refine wpIn_rangeFunc_ownF (F := Fence.wide) (α := Chk rs.length ways) rfl (by omega) (gf := 123) (lb := #[.pointer (some ⟨w6.heap.size + 1, 0, none⟩), .pointer (some ⟨w6.heap.size + 2, 0, none⟩)]) rfl trivial (enters_of Tryd.func123 (by kernel_rfl) rfl)
        (chunk_stops Fence.wide (8 - 1) trivial rfl (by omega) (w6.heap.size + 1) (w6.heap.size + 2) Wl.heap.size w6.heap.size g rs.length rc ways (by omega) (by omega) (by omega) HRL.out.cap1 HRL.out.cap2 (by omega) (by omega) (by omega) (by omega) Wl (Nat.le_refl _) hb1 hb2)
        (fun h1 h2 => But.trans h1 h2) (fun W l o o' hl h _ _ => But.putObj hl) (Below.refl _ _) (fun _ => rfl)
        (fun pre W => ∃ nv nvs, Boxed W w6.heap.size 82 nv ∧ RowsR 40 W Wl.heap.size nv nvs (pre.map fun x => mrgs (ltOf (ordCmp o)) (grp ways rs x.1)) ∧ (∀ u ∈ nvs, ∀ q, u.ownBlock = some q → Wl.heap.size ≤ q) ∧ Wl.heap.size ≤ W.heap.size ∧ Below w6.heap.size w6 W)
        (fun _ _ _ => False) ?hI (fun _ _ _ _ _ hs _ _ => hs) ⟨_, [], hbx, RowsR.nil _ _ _, (fun u hu => by cases hu), Nat.le_refl _, hbl⟩ ?a1 ?assign ?body ?done ?stop
      case assign =>
        intro l x W K hK
        gi_wp2
        exact hK
      case stop =>
        rintro D c pre W _ _ h _
        exact h.elim
      case hI =>
        rintro pre W W' row ⟨nv, nvs, h1, h2, h4, h5, h3⟩ hg hr
        exact ⟨nv, nvs, (boxed_own w6.heap.size 82 (fun _ : Unit => nv)) () W W' row h1 hg (fun q e => (hr q e).2), h2.keptC hg (fun q e => (hr q e).2), h4, Nat.le_trans h5 hg.size, h3.grown hg (Nat.le_trans (by omega) h3.size) (fun q e => by have := (hr q e).1; omega)⟩
      case body =>
        rintro l pre x W ⟨nv, nvs, hbx, hrow, hlow, hlW, hbw⟩ hlen
        have hxl := x.2
        obtain ⟨R, hR⟩ : ∃ R, (pre.map fun x => mrgs (ltOf (ordCmp o)) (grp ways rs x.1)) = R := ⟨_, rfl⟩
        rw [hR] at hrow
        have HR := hide hR
        have h1000 : R.length ≤ 1000000 := by rw [← hR, List.length_map]; omega
        clear hR
        obtain ⟨NA, nc, rfl⟩ := own_slice hrow.own
        have HRW := hide (HRL.out.below hbw)
        have HNW := hide (HN.out.below hbw HN.out.lt)
        obtain ⟨c0, c1, c2, c3, c4⟩ := HNW.out.cells
        have cb := hbx.cell
        have fb := hbx.frozen
        have hgl : (grp ways rs x.1).length = min ways (rs.length - x.1 * ways) := grp_len
        have hvl : (grp ways vs x.1).length = min ways (rs.length - x.1 * ways) := by rw [grp_len, HRL.out.len]
        have HCL := hide (cloneSS_any g (x.1 * ways) (min ways (rs.length - x.1 * ways)) (min ways (rs.length - x.1 * ways)) (grp ways vs x.1) W.drew hvl (by omega)
          (fun j u hu => by
            obtain ⟨h1, _⟩ := grp_at hu
            obtain ⟨g', e, _, hj⟩ := HRW.out.at_ (by omega)
            injection e with e
            injection e with e _ _
            subst e
            exact hj _ u h1)
          (by obtain ⟨g', e, hg', _⟩ := HRW.out.at_ (by omega); injection e with e; injection e with e _ _; subst e; exact hg')
          (fun u hu => by
            obtain ⟨j, hj⟩ := List.getElem?_of_mem hu
            obtain ⟨h1, _⟩ := grp_at hj
            have hlt := (List.getElem?_eq_some_iff.1 h1).1
            rw [HRL.out.len] at hlt
            obtain ⟨⟨⟨_, A', c', e, _⟩, _⟩, _⟩ := HRL.out.el _ u _ h1 (List.getElem?_eq_getElem hlt)
            rw [e]; rfl))
        have hmx : Tryd.prog.follows .mixedOrders = true := by kernel_rfl
        have hn1 : 1 ≤ 8 - 1 - 1 := by omega
        dsimp only [chkV]
        have hX : w6.heap.size < W.heap.size := hbx.lt
        have hkz : w.heap.size ≤ w6.heap.size := HB.out.size
        have hspn : w2.heap.size < w6.heap.size := HN.out.lt
        have HPX := hide HPS.out
        have HXL := hide hxl
        have HMZ : Hid (∀ y ∈ mrgs (ltOf (ordCmp o)) (grp ways rs x.1), y.size ≤ maxLen) := hide (fun y hy => by
          obtain ⟨r, hr, hyr⟩ := mrgs_mem hy
          have := HPX.out.z r (grp_mem hr) y hyr
          unfold maxLen; omega)
        have HPBF := hide (fun (w8 w9 : World) (g2 : Nat) (A9 : Option Addr) (c9 : Nat) (hb8 : Below W.heap.size W w8) (hg2 : W.heap.size ≤ g2) (ho9 : OwnS 9 w9 (w8.heap.size + 1) (.slice A9 (mrgs (ltOf (ordCmp o)) (grp ways rs x.1)).length c9) (mrgs (ltOf (ordCmp o)) (grp ways rs x.1))) (hb9 : But w8.heap.size g2 w8 w9) (hcg : ∃ cs t fr, w8.heap[g2]? = some (.cells cs t fr)) =>
          push_box (T := 40) (show w6.heap.size < Wl.heap.size by omega) hlW hbx hrow hlow hb8 hg2 ho9 hb9 hcg h1000 HMZ.out)
        gi_wp2
        gi_region_with_o (first
          | (refine ⟨trivial, ?_⟩
             gi_at_call 84
             refine (CallsIn.inRound l (callsIn_wide.2 HCL.out)).mono ?_
             rintro e8 w8 ⟨v8, rfl, ho8, hb8⟩
             have HB8 : Below W.heap.size W w8 := ⟨hb8.os, hb8.tape, hb8.output, hb8.size, hb8.block⟩
             obtain ⟨g2, c8, ev8, hg2, hg2l⟩ := World.ownsRow.form ho8 (by omega)
             subst ev8
             have hcg8 := own_cells ho8
             have cb8 : w8.cell? ⟨w6.heap.size, 0, none⟩ = some (.slice NA R.length nc) := (HB8.cell (p := ⟨w6.heap.size, 0, none⟩) hX).trans cb
             have HN8 := HNW.out.below HB8 HNW.out.lt
             obtain ⟨s0, s1, s2, s3, s4⟩ := HN8.cells
             have HMG := hide (merge_step o A0 cap0 g2 c8 ways x.1 W w8 w HRW.out HPX.out HXL.out HB8 hg2 ho8 HK.out HGD.out (HB.out.trans (hbw.mono hkz)) HLN.out (by omega)))
          | (refine ⟨trivial, ?_⟩
             gi_at_call 83
             refine (CallsIn.inRound l (callsIn_wide.2 HMG.out)).mono ?_
             rintro e9 w9 ⟨v9, rfl, ho9, hb9⟩
             obtain ⟨A9, c9, ev9⟩ := own_slice ho9
             subst ev9
             have HPB := HPBF.out w8 w9 g2 A9 c9 HB8 hg2 ho9 hb9 hcg8
             obtain ⟨g10, c10, w10, hrun, hcell10, hfr10, cb9, hrest⟩ := HPB
             rw [appAll_eq] at hrun
             have HREST := hide hrest
             clear hrest
             have hX9 : w6.heap.size < w9.heap.size := World.block_lt_of_cell? w9 ⟨w6.heap.size, 0, none⟩ cb9))
        all_goals gi_wp2
        all_goals
          obtain ⟨z1, z2, z3, z4, z5, z6⟩ := HREST.out
          refine ⟨z6, z5, _, nvs ++ [_], z1, ?_, z3, ?_, hbw.trans z4⟩
        all_goals first
          | (rw [List.map_append, HR.out]; exact z2)
          | (have := z5.size; omega)
      case done =>
        rintro D xs W hWD ⟨c, hcc, hxs⟩ ⟨nv, nvs, hbx, hrow, hlow, hlW, hbw⟩ hD
        have cb := hbx.cell
        obtain ⟨NA, nc, rfl, hnl⟩ := RunsL.of_rows hrow
        have HPN := hide (HPS.out.next (ordCmp_cmp3 o).swo hw1 h1 xs hcc hxs)
        have HLE := hide (chk_less (lt := ltOf (ordCmp o)) (ordCmp_cmp3 o).swo hw1 h1 xs hcc hxs)
        have HNL := hide hnl
        have HN' := hide (HN.out.below hbw HN.out.lt)
        have HB' := hide (HB.out.trans (hbw.mono HB.out.size))
        have HD' : Hid ((D :: Ds).Nodup ∧ ∀ E ∈ D :: Ds, w.heap.size ≤ E ∧ W.heap[E]? = some (.deferred (some []))) := hide (by
          have hsz := HB.out.size
          refine ⟨List.nodup_cons.2 ⟨fun hm => ?_, HDS.out.1⟩, fun E hE => ?_⟩
          · have h1 := (HDS.out.2 D hm).2
            have := (Array.getElem?_eq_some_iff.1 h1).1
            omega
          · rcases List.mem_cons.1 hE with rfl | hE
            · exact ⟨by omega, hD⟩
            · obtain ⟨h1, h2⟩ := HDS.out.2 E hE
              exact ⟨h1, (hbw.block E (Array.getElem?_eq_some_iff.1 h2).1).trans h2⟩)
        obtain ⟨R', hR'⟩ : ∃ R', (xs.map fun x => mrgs (ltOf (ordCmp o)) (grp ways rs x.1)) = R' := ⟨_, rfl⟩
        rw [hR'] at HPN HLE HNL cb
        clear hR' hrow hlow hbx hnl hD hxs hcc
        go_wp2_with fail
        refine ⟨⟨_, _, _, _, _, _, _, _, _, _, _, _, _, _, _, _, _, _, _, _, _, NA, nc, nvs, R', pn + 1, D :: Ds, ⟨rfl, ?_, HNL, HPN, HN', HB', HD'⟩, rfl⟩, ?_⟩
        · first | rfl | simp
        · exact HLE.out
    · have hd : ¬ ((1 : Int) < (rs.length : Int)) := by omega
      have hL : rs.flatten = isrt (ltOf (ordCmp o)) (linesOf s) := by rw [← HPS.out.m, mrgs_short (by omega)]
      have hpn : pn = pas ways n0 := by
        have := HPS.out.p
        rw [pas_done (by omega)] at this
        exact this
      have HCC := hide (concat_drew (wr := wr) HRL.out HPS.out (by omega) HLN.out)
      rw [hL] at HCC
      have HTD := hide (fun v W (h1 : Strs W v (isrt (ltOf (ordCmp o)) (linesOf s))) (h2 : Below w.heap.size w W) => told_any o (.slice A0 o.keys.length cap0) v _ W (HK.out.below h2) HGD.out h1 (fun x hx => HLS.out x (isrt_mem _ hx)) (by rw [isrt_len]; omega))
      unfold spV at HTD
      have HPN : Hid (pas ways (dvd ByteArray.size mem (linesOf s)).1.length = pn) := hide (by rw [hpn, HN0'.out])
      obtain ⟨L, hLL⟩ : ∃ L, isrt (ltOf (ordCmp o)) (linesOf s) = L := ⟨_, rfl⟩
      have HSL : Hid (sortL o s = toldL o L) := hide (by unfold sortL; rw [hLL])
      rw [hLL] at HCC HTD
      clear hL hLL hpn
      obtain ⟨c0, c1, c2, c3, c4⟩ := HN.out.cells
      go_wp2_with fail
      go_region_held3 (fun w' => w'.cell? ⟨w2.heap.size, 0, none⟩ = some (.string o.sep) ∧ w'.cell? ⟨w2.heap.size, 1, none⟩ = some (.slice A0 o.keys.length cap0) ∧ w'.cell? ⟨w2.heap.size, 2, none⟩ = some (.bool o.reverse) ∧ w'.cell? ⟨w2.heap.size, 3, none⟩ = some (.bool o.stable) ∧ w'.cell? ⟨w2.heap.size, 4, none⟩ = some (.bool o.unique)) (go_keep) (first
        | (go_at_call 85; (with_reducible refine HCC.out.mono ?_); rintro e w9 ⟨v9, rfl, hs9, hb9⟩; have HST9 := hide hs9; have hn9 := HN.out.below hb9 HN.out.lt; obtain ⟨e0, e1, e2, e3, e4⟩ := hn9.cells; have HB9 := hide (HB.out.trans (hb9.mono HB.out.size)))
        | (go_at_call 62; (with_reducible refine (HTD.out _ _ HST9.out HB9.out).mono ?_); rintro e w10 ⟨rfl, hb10⟩; have hn10 := hn9.below hb10 hn9.lt; obtain ⟨g0, g1, g2, g3, g4⟩ := hn10.cells))
      all_goals
        go_wp2_with fail
        (try simp only [Exit.inBlock, Exit.then])
        have hbe := HB9.out.trans (hb10.mono HB9.out.size)
        show LeavesInM _ _ _ _ _ _ (marks Ds) FrameMode.returning _
        refine leaves_marks (N := w.heap.size) (fun h => by cases h) Ds _ HDS.out.1 (fun D hD => ?_) (fun w' hb' => ?_)
        · obtain ⟨h1, h2⟩ := HDS.out.2 D hD
          have hlt := (Array.getElem?_eq_some_iff.1 h2).1
          exact ⟨h1, (hb10.block D (Nat.lt_of_lt_of_le hlt hb9.size)).trans ((hb9.block D hlt).trans h2)⟩
        · refine ⟨_, results_tmp3 rfl _ _ _, ?_, hbe.trans hb'⟩
          rw [HSL.out, HPN.out]
          rfl
end Go.Proofs.YtkikbejpgfhfoaaDoor
