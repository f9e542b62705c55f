/- merged: many runs merged. -/
import Derived.Test.YtkikbejpgfhfoaaGreatDoorRunsP
import Derived.Test.YtkikbejpgfhfoaaGreatDoorSortedP
import Derived.Test.YtkikbejpgfhfoaaGreatDoorTell
import Derived.Test.YtkikbejpgfhfoaaGreatDoorStabS
import Derived.Test.YtkikbejpgfhfoaaGreatDoorLawK2
set_option linter.unusedVariables false
set_option linter.unusedSimpArgs false
namespace Go.Pw
open Go.RowKit
/-- a row of runs: its cells lie in block g, the runs' own cells elsewhere, as in w -/
structure RunsAt (w wr : World) (g : Nat) (vs : List Value) (rs : List (List ByteArray)) : Prop where
  len : vs.length = rs.length
  cells : ∀ (i : Nat) (u : Value), vs[i]? = some u → wr.cell? ⟨g, i, none⟩ = some u ∧ wr.frozen? ⟨g, i, none⟩ = false
  elems : ∀ (i : Nat) (u : Value) (l : List ByteArray), vs[i]? = some u → rs[i]? = some l → Strs w u l ∧ u.ownBlock ≠ some g
theorem RunsAt.run {w wr : World} {g : Nat} {vs : List Value} {rs : List (List ByteArray)} (h : RunsAt w wr g vs rs) {i : Nat} {l : List ByteArray} (hl : rs[i]? = some l) :
    ∃ A c, vs[i]? = some (.slice A l.length c) ∧ wr.cell? ⟨g, i, none⟩ = some (.slice A l.length c) ∧ wr.frozen? ⟨g, i, none⟩ = false ∧ Strs w (.slice A l.length c) l ∧ (∀ b o, A = some ⟨b, o, none⟩ → b ≠ g) := by
  have hi := (List.getElem?_eq_some_iff.1 hl).1
  have q : vs[i]? = some (vs[i]'(by rw [h.len]; exact hi)) := List.getElem?_eq_getElem _
  obtain ⟨h1, h2⟩ := h.elems i _ l q hl
  obtain ⟨h3, h4⟩ := h.cells i _ q
  have h5 := h1
  obtain ⟨⟨_, A, c, e, _⟩, _⟩ := h5
  rw [e] at q h1 h2 h3
  exact ⟨A, c, q, h3, h4, h1, fun b o ea hb => h2 (by rw [ea, ← hb]; rfl)⟩
theorem RunsAt.run1 {w wr : World} {g : Nat} {vs : List Value} {rs : List (List ByteArray)} (h : RunsAt w wr g vs rs) {i : Nat} {x : ByteArray} {t : List ByteArray} (hl : rs[i]? = some (x :: t)) :
    ∃ bb ob c, wr.cell? ⟨g, i, none⟩ = some (.slice (some ⟨bb, ob, none⟩) (t.length + 1) c) ∧ wr.frozen? ⟨g, i, none⟩ = false ∧ Strs w (.slice (some ⟨bb, ob, none⟩) (t.length + 1) c) (x :: t) ∧ bb ≠ g ∧ bb < w.heap.size ∧ w.cell? ⟨bb, ob, none⟩ = some (.string x) := by
  obtain ⟨A, c, h1, h2, h3, h4, h5⟩ := h.run hl
  have h6 := h4
  obtain ⟨⟨_, A', c', e, _, _, hx⟩, _⟩ := h6
  injection e with e1 e2 e3
  subst e1
  obtain ⟨b, o, rfl, hb, hj⟩ := hx (by simp)
  exact ⟨b, o, c, h2, h3, h4, h5 b o rfl, hb, hj 0 _ rfl⟩
theorem bst_cases {α : Type} {lt : α → α → Bool} {rs : List (List α)} {i : Nat} {b : Int} (h : Bst lt rs i b) : (b = -1) ∨ ∃ k x t, b = ((k : Nat) : Int) ∧ k < i ∧ rs[k]? = some (x :: t) := by
  rcases h with ⟨h1, _⟩ | ⟨k, x, t, h1, h2, h3, _, _⟩
  · exact .inl h1
  · exact .inr ⟨k, x, t, h1, h2, h3⟩
/-- where the merging stands -/
structure MgAt (tS tSo : TypeId) (o : Sp) (kv : Value) (g : Nat) (w wr : World) (v : Value) (out : List ByteArray) (rs : List (List ByteArray)) : Prop where
  own : OwnS tS wr (w.heap.size + 1) v out
  sp : SpIn wr w.heap.size tSo o kv
  but : But w.heap.size g w wr
  row : ∃ vs, RunsAt w wr g vs rs
theorem MgAt.below {tS tSo : TypeId} {o : Sp} {kv : Value} {g : Nat} {w wr w' : World} {v : Value} {out : List ByteArray} {rs : List (List ByteArray)} (hg : g < w.heap.size) (h : MgAt tS tSo o kv g w wr v out rs) (hb : Below wr.heap.size wr w') : MgAt tS tSo o kv g w w' v out rs := by
  obtain ⟨vs, h1, h2, h3⟩ := h.row
  have hz := h.but.size
  refine ⟨own_below h.own hb, h.sp.below hb h.sp.lt, h.but.trans (But.of_below hb hz), vs, h1, fun i u hu => ?_, h3⟩
  obtain ⟨a, b⟩ := h2 i u hu
  exact ⟨(hb.cell (p := ⟨g, i, none⟩) (by show g < _; omega)).trans a, (World.frozen?_of_block (w := wr) (hb.block g (by omega))).trans b⟩
theorem MgAt.drewN {tS tSo : TypeId} {o : Sp} {kv : Value} {g : Nat} {w wr : World} {v : Value} {out : List ByteArray} {rs : List (List ByteArray)} (h : MgAt tS tSo o kv g w wr v out rs) (n : Nat) : MgAt tS tSo o kv g w (wr.drewN n) v out rs :=
  ⟨h.own, h.sp, ⟨h.but.os, h.but.tape, h.but.output, h.but.size, h.but.block⟩, by obtain ⟨vs, a, b, c⟩ := h.row; exact ⟨vs, a, b, c⟩⟩
/-- a line more in the result -/
theorem MgAt.push {tS tSo : TypeId} {o : Sp} {kv : Value} {g : Nat} {w wr w' : World} {v v' : Value} {out : List ByteArray} {rs : List (List ByteArray)} {x : ByteArray} {ob : Obj} (hg : g < w.heap.size) (h : MgAt tS tSo o kv g w wr v out rs)
    (hown' : w'.ownsRow (w.heap.size + 1) tS 1 v' (out.length + 1) (out.map Value.string ++ [.string x])) (hgr : (wr.alloc ob).grownBy w' v.ownBlock) : MgAt tS tSo o kv g w w' v' (out ++ [x]) rs := by
  have hlt := h.sp.lt
  obtain ⟨h1, h2⟩ := OwnS.push h.own (by omega) hown' hgr
  obtain ⟨vs, a1, a2, a3⟩ := h.row
  refine ⟨h1, h.sp.below h2 (by omega), h.but.trans (But.of_below h2 (by omega)), vs, a1, fun i u hu => ?_, a3⟩
  obtain ⟨a, b⟩ := a2 i u hu
  exact ⟨(h2.cell (p := ⟨g, i, none⟩) (by show g < _; omega)).trans a, (World.frozen?_of_block (w := wr) (h2.block g (by omega))).trans b⟩
/-- a run loses its head -/
theorem MgAt.cut {tS tSo : TypeId} {o : Sp} {kv : Value} {g k : Nat} {w wr : World} {v u : Value} {out t : List ByteArray} {rs : List (List ByteArray)} (hg : g < w.heap.size) (h : MgAt tS tSo o kv g w wr v out rs) (hu : Strs w u t) (hne : u.ownBlock ≠ some g) :
    MgAt tS tSo o kv g w (wr.setCell ⟨g, k, none⟩ u) v out (rs.set k t) := by
  obtain ⟨vs, a1, a2, a3⟩ := h.row
  have hz := h.but.size
  refine ⟨ownsRow_setCell_below h.own (by show g < _; omega) u, (Below.heap_setCell _ _ _ _ (by simp; omega)).trans h.sp, h.but.setCell k u, vs.set k u, by simp [a1], fun i x hx => ?_, fun i x l hx hl => ?_⟩
  · rw [World.frozen?_setCell]
    rw [List.getElem?_set] at hx
    split at hx
    · rename_i e
      subst e
      split at hx
      · rename_i hk
        injection hx with hx
        subst hx
        obtain ⟨a, b⟩ := a2 k vs[k] (List.getElem?_eq_getElem hk)
        exact ⟨World.cell?_setCell_same' _ _ _ (by rw [a]; rfl), b⟩
      · cases hx
    · rename_i e
      obtain ⟨a, b⟩ := a2 i x hx
      refine ⟨?_, b⟩
      rw [World.cell?_setCell_other (h := show (⟨g, k, none⟩ : Addr) ≠ ⟨g, i, none⟩ from fun q => by injection q; omega)]
      exact a
  · rw [List.getElem?_set] at hx hl
    split at hx
    · rename_i e
      rw [if_pos e] at hl
      split at hx
      · split at hl
        · injection hx with hx; injection hl with hl
          subst hx; subst hl
          exact ⟨hu, hne⟩
        · cases hl
      · cases hx
    · rename_i e
      rw [if_neg e] at hl
      exact a3 i x l hx hl
end Go.Pw
namespace Go.Proofs.YtkikbejpgfhfoaaGreatDoor
open Go.RowKit Go.Pw
/-- l[1:] of a slice of strings, under one name; it lies where l lies -/
theorem cut_run {w : World} {b o : Nat} {cap : Nat} {l : List ByteArray} {s : ByteArray} (h : Strs w (.slice (some ⟨b, o, none⟩) (l.length + 1) cap) (s :: l)) :
    ∃ A' cap', (∀ W, (Instr.slice 25 (.slice (some ⟨b, o, none⟩) (l.length + 1) cap) (some (.int .i64 1)) none none).run Tryz.prog W = .ok (.slice A' l.length cap') W) ∧ Strs w (.slice A' l.length cap') l ∧ (∀ g, b ≠ g → (Value.slice A' l.length cap').ownBlock ≠ some g) := by
  have h2 := Strs.from_ (lo := 1) (l := s :: l) h (by simp)
  have hc : l.length + 1 ≤ cap := by obtain ⟨⟨_, _, _, hv, hc, _⟩, _⟩ := h; injection hv with _ _ e; simp at hc; omega
  have h2' := h2
  obtain ⟨⟨_, A', cap', e, _⟩, _⟩ := h2'
  rw [show ((s :: l).drop 1).length = l.length from rfl] at e
  refine ⟨A', cap', fun W => ?_, ?_, ?_⟩
  · rw [← e]
    have h1 : ¬ ((l.length : Int) + 1 < 1) := by omega
    simp [go_sem, h1]
  · rw [e] at h2
    exact h2
  · intro g hne hq
    rw [← e] at hq
    unfold Go.sliced at hq
    split at hq
    · injection hq with hq
      exact hne hq
    · simp only [Option.map_some, Addr.add] at hq
      split at hq <;> (injection hq with hq; exact hne hq)
set_option maxHeartbeats 4000000 in
set_option maxRecDepth 100000 in
theorem merged_any (o : Sp) (kv : Value) (g n cap : Nat) (rs : List (List ByteArray)) (w : World) (hg : g < w.heap.size) (hn : rs.length = n) (hn2 : n ≤ 1000000) (hrow : ∃ vs, RunsAt w w g vs rs) (hcmp : CmpOk (ordCmp o) (spV o kv) w.heap.size g w)
    (hs : ∀ r ∈ rs, Srt (ltOf (ordCmp o)) r) (hsz : ∀ r ∈ rs, ∀ x ∈ r, x.size ≤ 65536) (hlen : rs.flatten.length ≤ 1000000) :
    Calls Tryz.prog 29 #[spV o kv, .slice (some ⟨g, 0, none⟩) n cap] w fun e w' => ∃ v', e = .returned v' ∧ OwnS 9 w' (w.heap.size + 1) v' (mrgs (ltOf (ordCmp o)) rs) ∧ But w.heap.size g w w' := by
  obtain ⟨ip, hip, hpz, hps, hpb⟩ := info_parts info_str
  obtain ⟨vs0, hrow⟩ := hrow
  have HAT0 : Hid (MgAt 9 52 o kv g w (w.alloc (.cells #[.string o.sep, kv, .bool o.reverse, .bool o.stable, .bool o.unique] 52)) (.slice none 0 0) [] rs) := by
    refine hide (MgAt.mk (World.ownsRow_nil _ _ _ _) (heap_alloc_new _ _) (But.of_below ((Below.refl w.heap.size w).alloc (Nat.le_refl _) _) (Nat.le_refl _)) ⟨vs0, hrow.len, fun i u hu => ?_, hrow.elems⟩)
    obtain ⟨a, b⟩ := hrow.cells i u hu
    exact ⟨(((Below.refl w.heap.size w).alloc (Nat.le_refl _) _).cell (p := ⟨g, i, none⟩) hg).trans a, frozen_alloc b⟩
  unfold CmpOk at hcmp
  have HCM := hide hcmp
  have HS := hide hs
  have HZ := hide hsz
  have HW := hide (ordCmp_cmp3 o).swo
  have HL := hide hlen
  clear hrow hcmp hs hsz hlen
  unfold spV at HCM ⊢
  go_enter Tryz.func29, Tryz.ntmps29
  go_wp2_with fail
  go_loopw [5] (fun v wr => ∃ (out : List ByteArray) (qs : List (List ByteArray)), Hid (MgAt 9 52 o kv g w wr v out qs) ∧ qs.length = n ∧ Hid (∀ r ∈ qs, Srt (ltOf (ordCmp o)) r) ∧ Hid (∀ r ∈ qs, ∀ x ∈ r, x.size ≤ 65536) ∧ Hid (mrgs (ltOf (ordCmp o)) rs = out ++ mrgs (ltOf (ordCmp o)) qs)) (fun v _ => 1000000 - slLen v)
  case atStart => exact ⟨[], rs, HAT0, hn, HS, HZ, hide rfl⟩
  case round =>
    clear HAT0 HS HZ
    obtain ⟨out, qs, hat, hqn, HS, HZ, HE⟩ := hrel
    obtain ⟨OA, oc, rfl⟩ := own_slice hat.out.own
    go_wp2_with fail
    obtain ⟨w1, hw1⟩ : ∃ w1, w1 = wr := ⟨_, rfl⟩
    subst hw1
    go_loopw [6, 11] (fun b i wr => ∃ (k : Nat) (bi : Int), k ≤ n ∧ i = .int .i64 (k : Int) ∧ b = .int .i64 bi ∧ Hid (Bst (ltOf (ordCmp o)) qs k bi) ∧ Hid (MgAt 9 52 o kv g w wr (.slice OA out.length oc) out qs)) (fun _ i _ => n - (intOf i).toNat)
    case atStart => exact ⟨0, -1, Nat.zero_le _, rfl, rfl, hide (Bst.start _ _), hat⟩
    case round =>
      clear hat
      obtain ⟨k, bi, hk, rfl, rfl, HB, hat⟩ := hrel
      by_cases hlt : k < n
      · have hd : (k : Int) < (n : Int) := by omega
        obtain ⟨vs, HR⟩ := hat.out.row
        have q1 : qs[k]? = some (qs[k]'(by omega)) := List.getElem?_eq_getElem _
        have hbt := hat.out.but
        have HZ1 := HZ.out _ (List.getElem_mem (show k < qs.length by omega))
        obtain ⟨r, hr⟩ : ∃ r, qs[k]'(by omega) = r := ⟨_, rfl⟩
        rw [hr] at q1 HZ1
        clear hr
        obtain ⟨d0, d1, d2, d3, d4⟩ := hat.out.sp.cells
        have hlts := hat.out.sp.lt
        cases r with
        | nil =>
          obtain ⟨A, c, hv, c1, f1, hst, hAg⟩ := HR.run q1
          clear hv f1
          have HB1 := hide (HB.out.empty q1)
          clear HB q1 hst
          go_wp2_with fail
          go_quiet (fail)
          have hatq := hide (hat.out.drewN nq)
          clear hat d0 d1 d2 d3 d4 c1 hbt HR
          go_wp2_with fail
          go_roundw
          case rel => exact ⟨k + 1, bi, by omega, by go_num, rfl, HB1, hatq⟩
          case measure => simp [intOf]; omega
        | cons x t =>
          obtain ⟨bb, ob, c, c1, _, _, hbg, hbb, c2⟩ := HR.run1 q1
          have c2 : wr.cell? ⟨bb, ob, none⟩ = some (.string x) := (hbt.cell (p := ⟨bb, ob, none⟩) hbb hbg).trans c2
          have z1 := HZ1 x (by simp)
          rcases bst_cases HB.out with rfl | ⟨kb, y, u, rfl, hkb, q2⟩
          · have HB1 := hide (HB.out.first (by omega) q1)
            clear HB q1
            go_wp2_with fail
            go_quiet (fail)
            have hatq := hide (hat.out.drewN nq)
            clear hat d0 d1 d2 d3 d4 c1 c2 hbt HR
            go_wp2_with fail
            go_roundw
            case rel => exact ⟨k + 1, k, by omega, by go_num, rfl, HB1, hatq⟩
            case measure => simp [intOf]; omega
          · obtain ⟨bb2, ob2, cc2, c3, _, _, hbg2, hbb2, c4⟩ := HR.run1 q2
            have c4 : wr.cell? ⟨bb2, ob2, none⟩ = some (.string y) := (hbt.cell (p := ⟨bb2, ob2, none⟩) hbb2 hbg2).trans c4
            have z2 := HZ.out _ (List.mem_of_getElem? q2) y (by simp)
            have e1 : ¬ ((kb : Int) < 0) := by omega
            have e2 : (kb : Int) < (n : Int) := by omega
            by_cases hc : ordCmp o x y < 0
            · have hc' : decide (ordCmp o x y < 0) = true := by simpa using hc
              have HB1 := hide (HB.out.take HW.out rfl q2 q1 (by unfold ltOf; exact hc'))
              clear HB q1 q2
              go_wp2_with fail
              go_region_held3 (fun w' => w'.cell? ⟨w.heap.size, 0, none⟩ = some (.string o.sep) ∧ w'.cell? ⟨w.heap.size, 1, none⟩ = some kv ∧ w'.cell? ⟨w.heap.size, 2, none⟩ = some (.bool o.reverse) ∧ w'.cell? ⟨w.heap.size, 3, none⟩ = some (.bool o.stable) ∧ w'.cell? ⟨w.heap.size, 4, none⟩ = some (.bool o.unique) ∧ w'.cell? ⟨bb, ob, none⟩ = some (.string x) ∧ w'.cell? ⟨bb2, ob2, none⟩ = some (.string y) ∧ w'.cell? ⟨g, kb, none⟩ = some (.slice (some ⟨bb2, ob2, none⟩) (u.length + 1) cc2)) (go_keep) ((go_at_call 26; (with_reducible refine (HCM.out x y wr.drew z1 z2 hbt.drew).mono ?_); rintro e w1 ⟨rfl, hbl⟩; have hbl' : Below wr.heap.size wr w1 := ⟨hbl.os, hbl.tape, hbl.output, hbl.size, hbl.block⟩; have hat1 := hide (hat.out.below hg hbl'); obtain ⟨e0, e1, e2, e3, e4⟩ := hat1.out.sp.cells; have q1 : w1.cell? ⟨bb, ob, none⟩ = some (.string x) := (hbl'.cell (p := ⟨bb, ob, none⟩) (by show bb < _; omega)).trans c2; have q2 : w1.cell? ⟨bb2, ob2, none⟩ = some (.string y) := (hbl'.cell (p := ⟨bb2, ob2, none⟩) (by show bb2 < _; omega)).trans c4; have q3 : w1.cell? ⟨g, kb, none⟩ = some (.slice (some ⟨bb2, ob2, none⟩) (u.length + 1) cc2) := (hbl'.cell (p := ⟨g, kb, none⟩) (by show g < _; omega)).trans c3))
              clear hbl hbl' d0 d1 d2 d3 d4 c1 c2 c3 c4 q1 q2 q3 hat hbt HR
              go_wp2_with fail
              go_roundw
              case rel => exact ⟨k + 1, k, by omega, by go_num, rfl, HB1, hat1⟩
              case measure => simp [intOf]; omega
            · have hc' : decide (ordCmp o x y < 0) = false := by simpa using hc
              have HB1 := hide (HB.out.keep rfl q2 q1 (by unfold ltOf; exact hc'))
              clear HB q1 q2
              go_wp2_with fail
              go_region_held3 (fun w' => w'.cell? ⟨w.heap.size, 0, none⟩ = some (.string o.sep) ∧ w'.cell? ⟨w.heap.size, 1, none⟩ = some kv ∧ w'.cell? ⟨w.heap.size, 2, none⟩ = some (.bool o.reverse) ∧ w'.cell? ⟨w.heap.size, 3, none⟩ = some (.bool o.stable) ∧ w'.cell? ⟨w.heap.size, 4, none⟩ = some (.bool o.unique) ∧ w'.cell? ⟨bb, ob, none⟩ = some (.string x) ∧ w'.cell? ⟨bb2, ob2, none⟩ = some (.string y) ∧ w'.cell? ⟨g, kb, none⟩ = some (.slice (some ⟨bb2, ob2, none⟩) (u.length + 1) cc2)) (go_keep) ((go_at_call 26; (with_reducible refine (HCM.out x y wr.drew z1 z2 hbt.drew).mono ?_); rintro e w1 ⟨rfl, hbl⟩; have hbl' : Below wr.heap.size wr w1 := ⟨hbl.os, hbl.tape, hbl.output, hbl.size, hbl.block⟩; have hat1 := hide (hat.out.below hg hbl'); obtain ⟨e0, e1, e2, e3, e4⟩ := hat1.out.sp.cells; have q1 : w1.cell? ⟨bb, ob, none⟩ = some (.string x) := (hbl'.cell (p := ⟨bb, ob, none⟩) (by show bb < _; omega)).trans c2; have q2 : w1.cell? ⟨bb2, ob2, none⟩ = some (.string y) := (hbl'.cell (p := ⟨bb2, ob2, none⟩) (by show bb2 < _; omega)).trans c4; have q3 : w1.cell? ⟨g, kb, none⟩ = some (.slice (some ⟨bb2, ob2, none⟩) (u.length + 1) cc2) := (hbl'.cell (p := ⟨g, kb, none⟩) (by show g < _; omega)).trans c3))
              clear hbl hbl' d0 d1 d2 d3 d4 c1 c2 c3 c4 q1 q2 q3 hat hbt HR
              go_wp2_with fail
              go_roundw
              case rel => exact ⟨k + 1, kb, by omega, by go_num, rfl, HB1, hat1⟩
              case measure => simp [intOf]; omega
      · obtain rfl : k = n := by omega
        have hd : ¬ ((k : Int) < (k : Int)) := by omega
        rcases bst_cases HB.out with rfl | ⟨kb, x, t, rfl, hkb, q2⟩
        · have HF : Hid (mrgs (ltOf (ordCmp o)) rs = out) := hide (by rw [HE.out, (hqn ▸ HB.out : Bst (ltOf (ordCmp o)) qs qs.length (-1)).none (by omega), List.append_nil])
          clear HB
          go_wp2_with fail
          go_ret
          exact ⟨_, rfl, by rw [HF.out]; exact hat.out.own, hat.out.but⟩
        · obtain ⟨x', t', q3, HM, hs2⟩ := Bst.some HW.out (hqn ▸ HB.out : Bst (ltOf (ordCmp o)) qs qs.length (kb : Nat)) rfl HS.out
          rw [q2] at q3
          injection q3 with q3
          injection q3 with q3 q4
          subst q3 q4
          have HS2 := hide hs2
          have HE2 : Hid (mrgs (ltOf (ordCmp o)) rs = (out ++ [x]) ++ mrgs (ltOf (ordCmp o)) (qs.set kb t)) := hide (by rw [HE.out, HM]; simp)
          have HZ2 : Hid (∀ r ∈ qs.set kb t, ∀ x ∈ r, x.size ≤ 65536) := hide (fun r hr y hy => by
            rcases List.mem_or_eq_of_mem_set hr with hr | rfl
            · exact HZ.out r hr y hy
            · exact HZ.out _ (List.mem_of_getElem? q2) y (by simp [hy]))
          have hol : out.length < 1000000 := by
            have h1 := congrArg List.length HE2.out
            rw [mrgs_len] at h1
            simp only [List.length_append, List.length_cons, List.length_nil] at h1
            have := HL.out
            omega
          obtain ⟨vs, HR⟩ := hat.out.row
          have hbt := hat.out.but
          obtain ⟨bb, ob, c, c1, f1, hst, hbg, hbb, c2⟩ := HR.run1 q2
          have c2 : wr.cell? ⟨bb, ob, none⟩ = some (.string x) := (hbt.cell (p := ⟨bb, ob, none⟩) hbb hbg).trans c2
          obtain ⟨A', ca', HA, hst2, hA'⟩ := cut_run hst
          have HST2 := hide hst2
          have hA2 := hA' g hbg
          have e1 : ¬ ((kb : Int) < 0) := by omega
          have e2 : (kb : Int) < (k : Int) := by omega
          have hlts := hat.out.sp.lt
          have hown := hat.out.own
          unfold OwnS at hown
          clear HB hs2 HM hst hst2 hA'
          go_wp2_with (at_builtin; refine wpList_append_own _ rfl _ _ 25 rfl (w.heap.size + 1) 9 ip _ 1 16 Tryz.underlying25 hip hpz hps hpb rfl (by decide) _ _ _ rfl (hown.alloc _) ⟨wr.heap.size, 0, none⟩ 1 1 [.string x] rfl rfl ?_ ?_ ?_ ?_ ?_ ?_)
          all_goals (try exact one_new _ _ _)
          all_goals (try (intro u hu; simp at hu; rcases hu with rfl; rfl))
          all_goals (try (unfold maxLen; omega))
          all_goals (try (simp; omega))
          all_goals (try omega)
          all_goals (try rfl)
          intro v' w2 hown' hgrow _
          have hat3 := hide (hat.out.push hg hown' hgrow)
          obtain ⟨g3, c3, e, hg3, hg4⟩ := World.ownsRow.form hown' (by omega)
          subst e
          obtain ⟨vs3, HR3⟩ := hat3.out.row
          obtain ⟨bb', ob', c', c1', f1', _, _, _, _⟩ := HR3.run1 q2
          have hw2 := hgrow.size
          simp at hw2
          have c3' : w2.cell? ⟨g, kb, none⟩ = some (.slice (some ⟨bb, ob, none⟩) (t.length + 1) c) := (grown_cell hgrow (p := ⟨g, kb, none⟩) (by simp; omega) (fun e => by have := own_ge hown g e; omega)).trans ((((Below.refl wr.heap.size wr).alloc (Nat.le_refl _) _).cell (p := ⟨g, kb, none⟩) (by show g < _; omega)).trans c1)
          have hat4 := hide (hat3.out.cut hg (k := kb) HST2.out hA2)
          clear hown hown' hgrow c1' HR3 HR hbt
          go_wp2_with fail
          go_roundw
          case rel => exact ⟨out ++ [x], qs.set kb t, by simpa using hat4, by simpa using hqn, HS2, HZ2, HE2⟩
          case measure => simp [slLen]; omega
end Go.Proofs.YtkikbejpgfhfoaaGreatDoor
