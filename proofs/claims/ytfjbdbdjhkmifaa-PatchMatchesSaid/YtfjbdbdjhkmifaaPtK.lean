/- slices.Replace at an own row of strings. -/
import Derived.Test.YtfjbdbdjhkmifaaPtJ
set_option linter.unusedVariables false
set_option linter.unusedSimpArgs false
namespace Go.Proofs.Ytfjbdbdjhkmifaa
open Go.RowKit Go.Pw
/-- append of strings to a part of an own row that has room -/
theorem appIn_run {w : World} {base cap g : Nat} {F : List Value} (h : w.ownsRow base 9 1 (.slice (some ⟨g, 0, none⟩) cap cap) cap F) (i : Nat) (A : Option Addr) (c : Nat) (vs : List ByteArray) (hv : Strs w (.slice A vs.length c) vs) (hr : i + vs.length ≤ cap) :
    ∃ W1 F', (∀ ty, (Builtin.append_ #[22, 22] ty #[.slice (some ⟨g, 0, none⟩) i cap, .slice A vs.length c]).run Try.prog w = .ok (.slice (some ⟨g, 0, none⟩) (i + vs.length) cap) W1) ∧
      F'.length = cap ∧ F'.take (i + vs.length) = F.take i ++ vs.map Value.string ∧ W1.ownsRow base 9 1 (.slice (some ⟨g, 0, none⟩) cap cap) cap F' ∧ w.grownBy W1 (some g) := by
  obtain ⟨ip, hip, hpz, hps, hpb⟩ := info_parts info_string
  have hF : F.length = cap := by have := h.1; omega
  have h' := own_short (n' := i) h (by omega)
  obtain ⟨⟨_, A', c', e, _, _, hx⟩, _⟩ := hv
  injection e with e1 _ e3
  subst e1 e3
  have hnil : vs = [] ∨ ∃ b o, A = some ⟨b, o, none⟩ ∧ b < w.heap.size ∧ ∀ j u, (vs.map Value.string)[j]? = some u → w.cell? ⟨b, o + j, none⟩ = some u := by
    by_cases h0 : 0 < vs.length
    · exact .inr (hx h0)
    · exact .inl (List.eq_nil_of_length_eq_zero (by omega))
  obtain ⟨hl, h0 | ⟨g', c'', cur, hv', hg, hh, hc, hm, hs, ht⟩⟩ := h
  · obtain ⟨h0, _⟩ := h0; cases h0
  injection hv' with e1 e2 e3
  injection e1 with e1
  injection e1 with e1
  subst e1 e3
  have hFc : F = cur.toList := by rw [← ht, List.take_of_length_le (by simp [hs])]
  have key : ∀ (a : Addr), A = some a → (∀ j u, (vs.map Value.string)[j]? = some u → w.cell? (a.add j) = some u) →
      ∃ W1 F', (∀ ty, (Builtin.append_ #[22, 22] ty #[.slice (some ⟨g, 0, none⟩) i cap, .slice A vs.length c]).run Try.prog w = .ok (.slice (some ⟨g, 0, none⟩) (i + vs.length) cap) W1) ∧
      F'.length = cap ∧ F'.take (i + vs.length) = F.take i ++ vs.map Value.string ∧ W1.ownsRow base 9 1 (.slice (some ⟨g, 0, none⟩) cap cap) cap F' ∧ w.grownBy W1 (some g) := by
    intro a hA hcells
    subst hA
    have hrun := fun ty => run_append_room (P := Try.prog) w 22 ty 9 ip Try.underlying22 hip g i cap cur hh a vs.length c (vs.map Value.string) (by rw [hps]; simp) hcells (fun u hu => by obtain ⟨x, _, rfl⟩ := List.mem_map.1 hu; rfl) hr (by rw [hps, List.length_map, hs]; omega)
    rw [hps] at hrun
    simp only [Nat.mul_one, List.length_map] at hrun
    have hlen : (cur.toList.take i ++ vs.map Value.string ++ cur.toList.drop (i + vs.length)).length = cap := by
      simp only [List.length_append, List.length_take, List.length_drop, List.length_map, Array.length_toList]; omega
    refine ⟨_, _, hrun, hlen, ?_, ⟨by rw [hlen, Nat.mul_one], .inr ⟨g, cap, _, rfl, hg, setRow_heap w g cur _ _ _ hh, Nat.le_refl _, hm, ?_, ?_⟩⟩, ⟨rfl, rfl, rfl, by simp, fun k _ hk => setRow_other w g k _ (fun e => hk (by rw [e]))⟩⟩
    · rw [hFc, List.take_append_of_le_length (by simp only [List.length_append, List.length_take, List.length_map, Array.length_toList]; omega), List.take_of_length_le (by simp only [List.length_append, List.length_take, List.length_map, Array.length_toList]; omega)]
    · rw [List.size_toArray, hlen, Nat.mul_one]
    · rw [List.take_of_length_le (by simp only [hlen]; omega)]
  rcases hnil with h0 | ⟨b, o, hA, hb, hj⟩
  · subst h0
    cases A with
    | none =>
      refine ⟨w, F, fun ty => ?_, hF, by simp, ⟨hl, .inr ⟨g, cap, cur, rfl, hg, hh, Nat.le_refl _, hm, hs, ht⟩⟩, grown_refl _ _⟩
      simpa using run_append_none_any base 22 ty 9 ip 1 c Try.underlying22 hip _ _ _ h'
    | some a => exact key a rfl (by simp)
  · exact key _ hA (fun j u hu => by rw [Addr.add_lit]; exact hj j u hu)
/-- clear of nothing -/
theorem clearNo_run (w : World) (ty : TypeId) (a : Addr) (c : Nat) : (Builtin.clear_ #[22] ty #[.slice (some a) 0 c]).run Try.prog w = .ok (.tuple #[]) w := by
  have := Try.underlying22
  simp [Builtin.clear_, run_underlying this, Go.sizeOf, Builtin.lenOf, Builtin.firstCells, storeCells, Result.andThen, go_sem, Try.zeroValue9]
theorem setAll_get (F vs : List Value) (o k : Nat) (h : o + vs.length ≤ F.length) (hk : k < o ∨ o + vs.length ≤ k) : (setAll F o vs)[k]? = F[k]? := by
  rw [setAll_eq _ _ _ h]
  rcases hk with hk | hk
  · rw [List.getElem?_append_left (by rw [List.length_take]; omega), List.getElem?_take_of_lt hk]
  · rw [List.getElem?_append_right (by rw [List.length_take]; omega), List.getElem?_append_right (by rw [List.length_take]; omega), List.length_take, List.getElem?_drop]
    congr 1; omega
/-- the place is large enough: the new ones, then what stood from j on -/
theorem shrink_run {w : World} {base g cap : Nat} (l vs : List ByteArray) (i j : Nat) (B : Option Addr) (cb : Nat) (h : w.ownsRow base 9 1 (.slice (some ⟨g, 0, none⟩) l.length cap) l.length (l.map Value.string)) (hv : Strs w (.slice B vs.length cb) vs)
    (hij : i + vs.length ≤ j) (hj : j < l.length) (hlc : l.length ≤ cap) :
    ∃ W1 W2 W3, (∀ ty n1 c1, n1 = vs.length + (l.length - j) → (Builtin.copy_ #[22, 22] ty #[.slice (some ⟨g, i, none⟩) n1 c1, .slice B vs.length cb]).run Try.prog w = .ok (goInt vs.length) W1) ∧
      (∀ ty n1 c1 c2, n1 = l.length - j → (Builtin.copy_ #[22, 22] ty #[.slice (some ⟨g, i + vs.length, none⟩) n1 c1, .slice (some ⟨g, j, none⟩) (l.length - j) c2]).run Try.prog W1.drew = .ok (goInt ((l.length - j : Nat) : Int)) W2) ∧
      (∀ ty n1 c1 a, n1 = l.length - (i + vs.length + (l.length - j)) → (0 < n1 → a = ⟨g, i + vs.length + (l.length - j), none⟩) → (Builtin.clear_ #[22] ty #[.slice (some a) n1 c1]).run Try.prog W2 = .ok (.tuple #[]) W3) ∧
      W3.ownsRow base 9 1 (.slice (some ⟨g, 0, none⟩) (i + vs.length + (l.length - j)) cap) (i + vs.length + (l.length - j)) ((l.take i ++ (vs ++ l.drop j)).map Value.string) ∧ w.grownBy W3 (some g) := by
  obtain ⟨F, hF, hFt, _, _, hfull⟩ := own_full h
  have hFi : F.take i = (l.take i).map Value.string := by
    have := congrArg (List.take i) hFt
    rw [List.take_take, Nat.min_eq_left (by omega)] at this
    rw [this, List.map_take]
  have hFk : ∀ k v, ((l.drop j).map Value.string)[k]? = some v → F[j + k]? = some v := fun k v hk => by
    have hlt : j + k < l.length := by have := (List.getElem?_eq_some_iff.1 hk).1; rw [List.length_map, List.length_drop] at this; omega
    have : (F.take l.length)[j + k]? = some v := by rw [hFt]; rw [List.map_drop, List.getElem?_drop] at hk; exact hk
    rwa [List.getElem?_take_of_lt hlt] at this
  have c1 := fun ty n1 c1 (hn1 : n1 = vs.length + (l.length - j)) => copyS_run (w := w) hfull ty i n1 c1 B cb vs hv (by omega) (by omega)
  obtain ⟨W1, hW1⟩ : ∃ W1, W1 = w.setCells g i (vs.map Value.string) := ⟨_, rfl⟩
  rw [← hW1] at c1
  have ho1 : W1.drew.ownsRow base 9 1 (.slice (some ⟨g, 0, none⟩) cap cap) cap (setAll F i (vs.map Value.string)) := (c1 0 _ 0 rfl).2.1
  have hg1 : w.grownBy W1.drew (some g) := ⟨(c1 0 _ 0 rfl).2.2.os, (c1 0 _ 0 rfl).2.2.tape, (c1 0 _ 0 rfl).2.2.output, (c1 0 _ 0 rfl).2.2.size, (c1 0 _ 0 rfl).2.2.block⟩
  have c2 := fun ty n1 c1 cc (hn1 : n1 = l.length - j) => copyO_run (w := W1.drew) ho1 ty (i + vs.length) n1 c1 g j (l.length - j) cc ((l.drop j).map Value.string) (by rw [List.length_map, List.length_drop, hn1]; exact (Nat.min_self _).symm) (by rw [List.length_map, List.length_drop]; omega)
    (fun k v hk => (own_there ho1).2.1 (j + k) v (by rw [setAll_get _ _ _ _ (by rw [List.length_map]; omega) (.inr (by rw [List.length_map]; omega))]; exact hFk k v hk)) (fun v hv => by obtain ⟨x, _, rfl⟩ := List.mem_map.1 hv; rfl)
  obtain ⟨W2, hW2⟩ : ∃ W2, W2 = W1.drew.setCells g (i + vs.length) ((l.drop j).map Value.string) := ⟨_, rfl⟩
  rw [← hW2] at c2
  simp only [List.length_map, List.length_drop] at c2
  have ho2 := (c2 0 _ 0 0 rfl).2.1
  have hg2 := grown_trans hg1 (c2 0 _ 0 0 rfl).2.2
  have e := put_eq F _ (vs.map Value.string) ((l.drop j).map Value.string) i cap (i + vs.length + (l.length - j)) hF hFi (by omega) (by simp) (by omega)
  rw [List.length_map] at e
  by_cases h0 : 0 < l.length - (i + vs.length + (l.length - j))
  · have c3 := fun ty c1 => clearO_run ho2 ty (i + vs.length + (l.length - j)) (l.length - (i + vs.length + (l.length - j))) c1 h0 (by omega)
    refine ⟨W1, W2, _, fun ty n1 cc hn => (c1 ty n1 cc hn).1, fun ty n1 cc c' hn => (c2 ty n1 cc c' hn).1, fun ty n1 cc a hn ha => by rw [ha (by omega), hn]; exact (c3 ty cc).1, ?_, grown_trans hg2 (c3 0 0).2.2⟩
    have := own_short (n' := i + vs.length + (l.length - j)) (c3 0 0).2.1 (by omega)
    rw [Nat.mul_one, setAll_eq _ _ _ (by simp only [List.length_replicate, setAll_length]; omega), List.take_append_of_le_length (by rw [List.length_take, setAll_length, setAll_length]; omega), List.take_take, Nat.min_self, e] at this
    simpa using this
  · refine ⟨W1, W2, W2, fun ty n1 cc hn => (c1 ty n1 cc hn).1, fun ty n1 cc c' hn => (c2 ty n1 cc c' hn).1, fun ty n1 cc a hn ha => by rw [show n1 = 0 by omega]; exact clearNo_run _ _ _ _, ?_, hg2⟩
    have := own_short (n' := i + vs.length + (l.length - j)) ho2 (by omega)
    rw [Nat.mul_one, e] at this
    simpa using this
/-- there is room: what stood from j on, then the new ones -/
theorem expand_run {w : World} {base g cap : Nat} (l vs : List ByteArray) (i j : Nat) (B : Option Addr) (cb : Nat) (h : w.ownsRow base 9 1 (.slice (some ⟨g, 0, none⟩) l.length cap) l.length (l.map Value.string)) (hv : Strs w (.slice B vs.length cb) vs) (hd : ∀ b, (Value.slice B vs.length cb).ownBlock = some b → b ≠ g)
    (hij : i ≤ j) (hj : j < l.length) (hlc : i + vs.length + (l.length - j) ≤ cap) (hlc2 : l.length ≤ cap) :
    ∃ W1 W2, (∀ ty n1 c1 c2, n1 = l.length - j → (Builtin.copy_ #[22, 22] ty #[.slice (some ⟨g, i + vs.length, none⟩) n1 c1, .slice (some ⟨g, j, none⟩) (l.length - j) c2]).run Try.prog w.drew = .ok (goInt ((l.length - j : Nat) : Int)) W1) ∧
      (∀ ty n1 c1, n1 = vs.length + (l.length - j) → (Builtin.copy_ #[22, 22] ty #[.slice (some ⟨g, i, none⟩) n1 c1, .slice B vs.length cb]).run Try.prog W1 = .ok (goInt vs.length) W2) ∧
      W2.ownsRow base 9 1 (.slice (some ⟨g, 0, none⟩) (i + vs.length + (l.length - j)) cap) (i + vs.length + (l.length - j)) ((l.take i ++ (vs ++ l.drop j)).map Value.string) ∧ w.grownBy W2 (some g) := by
  obtain ⟨F, hF, hFt, _, _, hfull⟩ := own_full h
  have hFi : F.take i = (l.take i).map Value.string := by
    have := congrArg (List.take i) hFt
    rw [List.take_take, Nat.min_eq_left (by omega)] at this
    rw [this, List.map_take]
  have hFk : ∀ k v, ((l.drop j).map Value.string)[k]? = some v → F[j + k]? = some v := fun k v hk => by
    have hlt : j + k < l.length := by have := (List.getElem?_eq_some_iff.1 hk).1; rw [List.length_map, List.length_drop] at this; omega
    have : (F.take l.length)[j + k]? = some v := by rw [hFt]; rw [List.map_drop, List.getElem?_drop] at hk; exact hk
    rwa [List.getElem?_take_of_lt hlt] at this
  have hfull' : w.drew.ownsRow base 9 1 (.slice (some ⟨g, 0, none⟩) cap cap) cap F := hfull
  have c1 := fun ty n1 c1 cc (hn1 : n1 = l.length - j) => copyO_run (w := w.drew) hfull' ty (i + vs.length) n1 c1 g j (l.length - j) cc ((l.drop j).map Value.string) (by rw [List.length_map, List.length_drop, hn1]; exact (Nat.min_self _).symm) (by rw [List.length_map, List.length_drop]; omega)
    (fun k v hk => (own_there hfull').2.1 (j + k) v (hFk k v hk)) (fun v hv => by obtain ⟨x, _, rfl⟩ := List.mem_map.1 hv; rfl)
  obtain ⟨W1, hW1⟩ : ∃ W1, W1 = w.drew.setCells g (i + vs.length) ((l.drop j).map Value.string) := ⟨_, rfl⟩
  rw [← hW1] at c1
  simp only [List.length_map, List.length_drop] at c1
  have ho1 := (c1 0 _ 0 0 rfl).2.1
  have hg0 := (c1 0 _ 0 0 rfl).2.2
  have hg1 : w.grownBy W1 (some g) := ⟨hg0.os, hg0.tape, hg0.output, hg0.size, hg0.block⟩
  have hv1 : Strs W1 (.slice B vs.length cb) vs := hv.grown hg1 (fun b hb e => hd b hb (by injection e with e; exact e.symm))
  have c2 := fun ty n1 c1 (hn1 : n1 = vs.length + (l.length - j)) => copyS_run (w := W1) ho1 ty i n1 c1 B cb vs hv1 (by omega) (by omega)
  have e := put_eq' F _ (vs.map Value.string) ((l.drop j).map Value.string) i cap (i + vs.length + (l.length - j)) hF hFi (by omega) (by simp) (by omega)
  rw [List.length_map] at e
  refine ⟨W1, _, fun ty n1 cc c' hn => (c1 ty n1 cc c' hn).1, fun ty n1 cc hn => (c2 ty n1 cc hn).1, ?_, grown_trans hg1 (c2 0 _ 0 rfl).2.2⟩
  have := own_short (n' := i + vs.length + (l.length - j)) (c2 0 _ 0 rfl).2.1 (by omega)
  rw [Nat.mul_one, e] at this
  simpa using this
/-- s[k:], k at its end among these -/
theorem slice_end (g n cap k : Nat) (kk : Int) (hk : kk = (k : Int)) (h : k ≤ n) (hc : n ≤ cap) : ∃ a, (∀ W, (Instr.slice 22 (.slice (some ⟨g, 0, none⟩) n cap) (some (.int .i64 kk)) none none).run Try.prog W = .ok (.slice (some a) (n - k) (cap - k)) W) ∧ (0 < n - k → a = ⟨g, k, none⟩) := by
  subst hk
  have hk' : (k : Int) ≤ (n : Int) := by omega
  by_cases e : cap = k
  · refine ⟨⟨g, 0, none⟩, fun W => ?_, fun h => by omega⟩
    simp [go_sem, hk', sliced, e]
  · refine ⟨⟨g, k, none⟩, fun W => ?_, fun h => rfl⟩
    simp [go_sem, hk', sliced, e, Addr.add_lit]
/-- what Replace gives -/
def RepAt (w : World) (base : Nat) (blk : Option Nat) (r : List ByteArray) (e : Ending) (w' : World) : Prop := ∃ v', e = .returned v' ∧ w'.ownsRow base 9 1 v' r.length (r.map Value.string) ∧ w.grownBy w' blk
set_option maxHeartbeats 4000000 in
set_option maxRecDepth 100000 in
theorem replace_same (A : Option Addr) (cap : Nat) (l : List ByteArray) (i : Nat) (vv : Value) (vs : List ByteArray) (base : Nat) (w : World) (h : w.ownsRow base 9 1 (.slice A l.length cap) l.length (l.map Value.string)) (hv : Strs w vv vs)
    (hd : 0 < vs.length → ∀ g, vv.ownBlock = some g → (Value.slice A l.length cap).ownBlock ≠ some g) (hi : i ≤ l.length) (hl : l.length ≤ 100000000) (hm : vs.length ≤ 100000000) (hb : base ≤ w.heap.size) (hsz : ∀ x ∈ l, x.size ≤ maxLen) :
    Calls Try.prog 76 #[.slice A l.length cap, .int .i64 (i : Int), .int .i64 (i : Int), vv] w (RepAt w base (Value.slice A l.length cap).ownBlock (l.take i ++ (vs ++ l.drop i))) := by
  obtain ⟨vk, hvk, _⟩ := cut_both (own_strs h hsz) (lo := i) (hi := i) (Nat.le_refl _) hi
  have HI := hide (insert_any A cap l i vv vs base w h hv hd hi hl hm hb hsz)
  clear h hv
  go_enter Try.func76, Try.ntmps76
  go_wp2_with fail
  refine HI.out.mono ?_
  rintro e w1 ⟨v', rfl, h1, h2⟩
  go_wp2_with fail
  go_ret
  exact ⟨v', rfl, h1, h2⟩
set_option maxHeartbeats 4000000 in
set_option maxRecDepth 100000 in
theorem replace_end (A : Option Addr) (cap : Nat) (l : List ByteArray) (i : Nat) (vv : Value) (vs : List ByteArray) (base : Nat) (w : World) (h : w.ownsRow base 9 1 (.slice A l.length cap) l.length (l.map Value.string)) (hv : Strs w vv vs)
    (hd : 0 < vs.length → ∀ g, vv.ownBlock = some g → (Value.slice A l.length cap).ownBlock ≠ some g) (hi : i < l.length) (hl : l.length ≤ 100000000) (hm : vs.length ≤ 100000000) (hb : base ≤ w.heap.size) (hsz : ∀ x ∈ l, x.size ≤ maxLen) :
    Calls Try.prog 76 #[.slice A l.length cap, .int .i64 (i : Int), .int .i64 (l.length : Int), vv] w (RepAt w base (Value.slice A l.length cap).ownBlock (l.take i ++ vs)) := by
  have HV := hide hv
  obtain ⟨⟨_, B, cb, rfl, hcb, hmb, _⟩, hsv⟩ := hv
  obtain ⟨g, cap', e, hg, hgz, hlc, hcm, hcl, hfl⟩ := own_cells h (by omega)
  injection e with e1 _ e3
  subst e1 e3
  unfold maxLen at hcm
  clear hcl hfl
  have h1 := own_short (n' := i) h (by omega)
  rw [Nat.mul_one, ← List.map_take] at h1
  have hti : (l.take i).length = i := by rw [List.length_take]; omega
  have hne : ¬ ((i : Int) = (l.length : Int)) := by omega
  have hle : (i : Int) ≤ (l.length : Int) := by omega
  by_cases hroom : i + vs.length ≤ cap
  · obtain ⟨F, hF, hFt, _, _, hfull⟩ := own_full h
    obtain ⟨W1, F', hap, hF', hFt', ho1, hg1⟩ := appIn_run hfull i B cb vs HV.out hroom
    have hFi : F.take i = (l.take i).map Value.string := by
      have := congrArg (List.take i) hFt
      rw [List.take_take, Nat.min_eq_left (by omega)] at this
      rw [this, List.map_take]
    rw [hFi, ← List.map_append] at hFt'
    have HAP := hide hap
    clear hap
    by_cases hsh : i + vs.length < l.length
    · have hcr := fun ty cc => clearO_run ho1 ty (i + vs.length) (l.length - (i + vs.length)) cc (by omega) (by omega)
      obtain ⟨W2, hW2⟩ : ∃ W2, W2 = W1.setCells g (i + vs.length) (List.replicate (l.length - (i + vs.length)) (Value.string ⟨#[]⟩)) := ⟨_, rfl⟩
      rw [← hW2] at hcr
      have hcA := fun ty cc => (hcr ty cc).1
      have hlt : (i : Int) + (vs.length : Int) < (l.length : Int) := by omega
      have hc1 : ¬ (cap = i + vs.length) := by omega
      have ho2 := hide (hcr 0 0).2.1
      have hg2 := hide (grown_trans hg1 (hcr 0 0).2.2)
      clear hW2 hcr
      go_enter Try.func76, Try.ntmps76
      go_wp2_with (at_builtin; refine Lib.wpList_append_run w rfl _ _ 22 22 rfl _ _ rfl rfl _ W1 (HAP.out _) ?_)
      go_ret
      refine ⟨_, rfl, ?_, hg2.out⟩
      have := own_short (n' := i + vs.length) ho2.out hroom
      rw [Nat.mul_one, setAll_eq _ _ _ (by simp only [List.length_replicate]; omega), List.take_append_of_le_length (by rw [List.length_take]; omega), List.take_take, Nat.min_self, hFt'] at this
      have e : (l.take i ++ vs).length = i + vs.length := by simp; omega
      rw [e]
      exact this
    · have hlt : ¬ ((i : Int) + (vs.length : Int) < (l.length : Int)) := by omega
      go_enter Try.func76, Try.ntmps76
      go_wp2_with (at_builtin; refine Lib.wpList_append_run w rfl _ _ 22 22 rfl _ _ rfl rfl _ W1 (HAP.out _) ?_)
      go_ret
      refine ⟨_, rfl, ?_, hg1⟩
      have := own_short (n' := i + vs.length) ho1 hroom
      rw [Nat.mul_one, hFt'] at this
      have e : (l.take i ++ vs).length = i + vs.length := by simp; omega
      rw [e]
      exact this
  · have HH : Hid (w.ownsRow base 9 1 (.slice (some ⟨g, 0, none⟩) i cap) (l.take i).length ((l.take i).map Value.string)) := by rw [hti]; exact h1
    have hlt : ¬ ((i : Int) + (vs.length : Int) < (l.length : Int)) := by omega
    obtain ⟨v', W1, hap, ho1, hg1⟩ : ∃ v' w', (∀ ty, (Builtin.append_ #[22, 22] ty #[.slice (some ⟨g, 0, none⟩) i cap, .slice B vs.length cb]).run Try.prog w = .ok v' w') ∧ w'.ownsRow base 9 1 v' (l.take i ++ vs).length ((l.take i ++ vs).map Value.string) ∧ w.grownBy w' (some g) := by
      obtain ⟨v', w', h1, h2, h3⟩ := run_app_strs w base 0 _ (l.take i) HH.out _ vs HV.out (by omega) hb
      refine ⟨v', w', fun ty => ?_, h2, h3⟩
      have e : ∀ ty, Builtin.append_ #[22, 22] ty #[.slice (some ⟨g, 0, none⟩) i cap, .slice B vs.length cb] = Builtin.append_ #[22, 22] 0 #[.slice (some ⟨g, 0, none⟩) i cap, .slice B vs.length cb] := fun ty => rfl
      rw [e ty]
      exact h1
    have e : (l.take i ++ vs).length = i + vs.length := by simp; omega
    rw [e] at ho1
    obtain ⟨gg, cc, rfl, _⟩ := own_cells ho1 (by omega)
    have HAP := hide hap
    clear hap
    go_enter Try.func76, Try.ntmps76
    go_wp2_with (at_builtin; refine Lib.wpList_append_run w rfl _ _ 22 22 rfl _ _ rfl rfl _ W1 (HAP.out _) ?_)
    go_ret
    refine ⟨_, rfl, ?_, hg1⟩
    rw [e]
    exact ho1
set_option maxHeartbeats 4000000 in
set_option maxRecDepth 100000 in
theorem replace_mid (A : Option Addr) (cap : Nat) (l : List ByteArray) (i j : Nat) (vv : Value) (vs : List ByteArray) (base : Nat) (w : World) (h : w.ownsRow base 9 1 (.slice A l.length cap) l.length (l.map Value.string)) (hv : Strs w vv vs)
    (hd : 0 < vs.length → ∀ g, vv.ownBlock = some g → (Value.slice A l.length cap).ownBlock ≠ some g) (hij : i < j) (hj : j < l.length) (hl : l.length ≤ 100000000) (hm : vs.length ≤ 100000000) (hb : base ≤ w.heap.size) (hsz : ∀ x ∈ l, x.size ≤ maxLen) :
    Calls Try.prog 76 #[.slice A l.length cap, .int .i64 (i : Int), .int .i64 (j : Int), vv] w (RepAt w base (Value.slice A l.length cap).ownBlock (l.take i ++ (vs ++ l.drop j))) := by
  have HV := hide hv
  obtain ⟨⟨_, B, cb, rfl, hcb, hmb, hxb⟩, hsv⟩ := hv
  have HX := hide hxb
  clear hxb
  obtain ⟨g, cap', e, hg, hgz, hlc, hcm, hcl, hfl⟩ := own_cells h (by omega)
  injection e with e1 _ e3
  subst e1 e3
  unfold maxLen at hcm
  have hlen : (l.take i ++ (vs ++ l.drop j)).length = i + vs.length + (l.length - j) := by simp; omega
  have hne : ¬ ((i : Int) = (j : Int)) := by omega
  have hne2 : ¬ ((j : Int) = (l.length : Int)) := by omega
  have hle1 : (i : Int) ≤ (j : Int) := by omega
  have hle2 : (j : Int) ≤ (l.length : Int) := by omega
  have hle3 : (i : Int) ≤ (l.length : Int) := by omega
  have hc1 : ¬ (cap = i) := by omega
  have hc2 : ¬ (cap = j) := by omega
  have hc3 : i ≤ cap := by omega
  have hc4 : j ≤ cap := by omega
  have hs1 : IntKind.i64.wrap ((i : Int) + (vs.length : Int)) = (i : Int) + (vs.length : Int) := by rw [IntKind.wrap_i64]; omega
  have hs2 : IntKind.i64.wrap ((i : Int) + (vs.length : Int) + ((l.length - j : Nat) : Int)) = (i : Int) + (vs.length : Int) + ((l.length - j : Nat) : Int) := by rw [IntKind.wrap_i64]; omega
  by_cases hroom : cap < i + vs.length + (l.length - j)
  · have hd' : (cap : Int) < (i : Int) + (vs.length : Int) + ((l.length - j : Nat) : Int) := by omega
    have HH := hide h
    have HV4 := fun q => HV.out.drewN q
    clear h hcl hfl HX
    have hmx : Try.prog.follows .mixedOrders = true := by kernel_rfl
    go_enter Try.func76, Try.ntmps76
    go_wp2_with fail
    go_quiet (fail)
    obtain ⟨w4, hw4⟩ : ∃ w4, w4 = w.drewN nq := ⟨_, rfl⟩
    have h4 : w4.ownsRow base 9 1 (.slice (some ⟨g, 0, none⟩) l.length cap) l.length (l.map Value.string) := by rw [hw4]; exact HH.out
    have hgr0 : w.grownBy w4 none := by rw [hw4]; exact ⟨rfl, rfl, rfl, Nat.le_refl _, fun _ _ _ => rfl⟩
    have hz4 : w4.heap.size = w.heap.size := by rw [hw4]; rfl
    have hv4 : Strs w4 (.slice B vs.length cb) vs := by rw [hw4]; exact HV4 nq
    rw [← hw4]
    clear hw4 HV4
    obtain ⟨C, W1, W2, W3, hC, hap, hp1, hp2, how, hgr⟩ := regrow l vs i j B cb h4 hv4 (by omega) (by omega) hroom hl hm (by omega) (by omega)
    rw [hz4] at hap hp1 hp2 how
    have HAP := hide hap
    have hp1' := fun ty => hp1 ty (i + vs.length + (l.length - j) - i) (C - i) (by omega)
    have hp2' := fun ty => hp2 ty (i + vs.length + (l.length - j) - (i + vs.length)) (C - (i + vs.length)) (cap - j) (by omega)
    have hb2 : ¬ (C = i + vs.length) := by omega
    have hb4 : ¬ (C = i) := by omega
    have hb5 : i ≤ i + vs.length + (l.length - j) := by omega
    have hb6 : i + vs.length ≤ i + vs.length + (l.length - j) := by omega
    have hb7 : (i : Int) ≤ (i : Int) + (vs.length : Int) + ((l.length - j : Nat) : Int) := by omega
    have hb8 : (i : Int) + (vs.length : Int) ≤ (i : Int) + (vs.length : Int) + ((l.length - j : Nat) : Int) := by omega
    have ht2 : ((i : Int) + (vs.length : Int)).toNat = i + vs.length := by omega
    have ht3 : (0 : Int) ≤ (i : Int) + (vs.length : Int) := by omega
    clear hap hp1 hp2 h4 hv4
    go_wp2_with (at_builtin; refine Lib.wpList_append_run w4 rfl _ _ 22 3 rfl _ _ rfl rfl _ W1 (HAP.out _ _ (by omega)) ?_)
    go_region_law_o (refine step_copy_runI rfl _ _ 22 22 rfl _ _ (by simp [Act.eval, Act.put]) (by simp [Act.eval, Act.put]) (hp2' _) ?_)
    go_wp2_with fail
    go_ret
    refine ⟨_, rfl, ?_, ?_⟩
    · rw [hlen]; exact how
    · have := grown_trans hgr0 hgr
      exact ⟨this.os, this.tape, this.output, this.size, fun k hk _ => this.block k hk (by simp)⟩
  · have hd' : ¬ ((cap : Int) < (i : Int) + (vs.length : Int) + ((l.length - j : Nat) : Int)) := by omega
    have htot : ((i : Int) + (vs.length : Int) + ((l.length - j : Nat) : Int)).toNat = i + vs.length + (l.length - j) := by omega
    have htc : i + vs.length + (l.length - j) ≤ cap := by omega
    have ht0 : (0 : Int) ≤ (i : Int) + (vs.length : Int) + ((l.length - j : Nat) : Int) := by omega
    have ht1 : (i : Int) + (vs.length : Int) + ((l.length - j : Nat) : Int) ≤ (cap : Int) := by omega
    have hb2 : ¬ (cap = i + vs.length) := by omega
    have hb5 : i ≤ i + vs.length + (l.length - j) := by omega
    have hb6 : i + vs.length ≤ i + vs.length + (l.length - j) := by omega
    have hb7 : (i : Int) ≤ (i : Int) + (vs.length : Int) + ((l.length - j : Nat) : Int) := by omega
    have hb8 : (i : Int) + (vs.length : Int) ≤ (i : Int) + (vs.length : Int) + ((l.length - j : Nat) : Int) := by omega
    have ht2 : ((i : Int) + (vs.length : Int)).toNat = i + vs.length := by omega
    have ht3 : (0 : Int) ≤ (i : Int) + (vs.length : Int) := by omega
    by_cases hsm : i + vs.length ≤ j
    · have hsm' : (i : Int) + (vs.length : Int) ≤ (j : Int) := by omega
      have hsm2 : (i : Int) + (vs.length : Int) + ((l.length - j : Nat) : Int) ≤ (l.length : Int) := by omega
      have HH := hide h
      have HV4 := fun q => HV.out.drewN q
      clear h hcl hfl HX
      have hmx : Try.prog.follows .mixedOrders = true := by kernel_rfl
      go_enter Try.func76, Try.ntmps76
      go_wp2_with fail
      go_quiet (fail)
      obtain ⟨w4, hw4⟩ : ∃ w4, w4 = w.drewN nq := ⟨_, rfl⟩
      have h4 : w4.ownsRow base 9 1 (.slice (some ⟨g, 0, none⟩) l.length cap) l.length (l.map Value.string) := by rw [hw4]; exact HH.out
      have hgr0 : w.grownBy w4 none := by rw [hw4]; exact ⟨rfl, rfl, rfl, Nat.le_refl _, fun _ _ _ => rfl⟩
      have hv4 : Strs w4 (.slice B vs.length cb) vs := by rw [hw4]; exact HV4 nq
      rw [← hw4]
      clear hw4 HV4
      obtain ⟨W1, W2, W3, hp1, hp2, hp3, how, hgr⟩ := shrink_run l vs i j B cb h4 hv4 hsm hj hlc
      have hp1' := fun ty => hp1 ty (i + vs.length + (l.length - j) - i) (cap - i) (by omega)
      have hp2' := fun ty => hp2 ty (i + vs.length + (l.length - j) - (i + vs.length)) (cap - (i + vs.length)) (cap - j) (by omega)
      have HH3 : Hid (W3.ownsRow base 9 1 (.slice (some ⟨g, 0, none⟩) (i + vs.length + (l.length - j)) cap) (i + vs.length + (l.length - j)) ((l.take i ++ (vs ++ l.drop j)).map Value.string)) := how
      obtain ⟨ae, hae, hae2⟩ := slice_end g l.length cap (i + vs.length + (l.length - j)) ((i : Int) + (vs.length : Int) + ((l.length - j : Nat) : Int)) (by omega) (by omega) hlc
      have hp3' := fun ty => hp3 ty (l.length - (i + vs.length + (l.length - j))) (cap - (i + vs.length + (l.length - j))) ae rfl hae2
      clear hp1 hp2 h4 hv4 how hp3 hae2
      go_wp2_with fail
      go_region_law_o (refine step_copy_runI rfl _ _ 22 22 rfl _ _ (by simp [Act.eval, Act.put]) (by simp [Act.eval, Act.put]) (hp2' _) ?_)
      go_wp2_with fail
      go_ret
      exact ⟨_, rfl, by rw [hlen]; exact HH3.out, grown_trans ⟨hgr0.os, hgr0.tape, hgr0.output, hgr0.size, fun k hk _ => hgr0.block k hk (by simp)⟩ hgr⟩
    · have hsm' : ¬ ((i : Int) + (vs.length : Int) ≤ (j : Int)) := by omega
      obtain ⟨vb, vo, rfl, hvb, hvj⟩ := HX.out (by omega)
      have hgv : vb ≠ g := fun e => hd (by omega) vb rfl (by rw [e]; rfl)
      have HH := hide h
      have HV4 := fun q => HV.out.drewN q
      clear h hcl hfl HX
      have hmx : Try.prog.follows .mixedOrders = true := by kernel_rfl
      go_enter Try.func76, Try.ntmps76
      go_wp2_with fail
      go_quiet (fail)
      obtain ⟨w4, hw4⟩ : ∃ w4, w4 = w.drewN nq := ⟨_, rfl⟩
      have h4 : w4.ownsRow base 9 1 (.slice (some ⟨g, 0, none⟩) l.length cap) l.length (l.map Value.string) := by rw [hw4]; exact HH.out
      have hgr0 : w.grownBy w4 none := by rw [hw4]; exact ⟨rfl, rfl, rfl, Nat.le_refl _, fun _ _ _ => rfl⟩
      have hv4 : Strs w4 (.slice (some ⟨vb, vo, none⟩) vs.length cb) vs := by rw [hw4]; exact HV4 nq
      rw [← hw4]
      clear hw4 HV4
      have hov : ∀ lb cb', (callFunc 90 #[.slice (some ⟨g, i + vs.length, none⟩) lb cb', .slice (some ⟨vb, vo, none⟩) vs.length cb]).run Try.prog w4 = .ok (.value (.bool false)) w4 := fun lb cb' => by
        obtain ⟨_, ⟨e, _⟩ | ⟨g', c', cur, e, _, hh, _, _, hcs, _⟩⟩ := h4
        · cases e
        · injection e with e1 e2 e3
          injection e1 with e1
          injection e1 with e1
          subst e1 e3
          have hva : w4.cell? ⟨vb, vo, none⟩ = some (.string (vs[0]'(by omega))) := by
            obtain ⟨⟨_, A', c'', e, _, _, hx⟩, _⟩ := hv4
            injection e with e1 _ _
            subst e1
            obtain ⟨b, o, e, _, hj'⟩ := hx (by omega)
            injection e with e
            injection e with e1 e2
            subst e1 e2
            exact hj' 0 _ (by simp [List.getElem?_eq_getElem (show 0 < vs.length by omega)])
          exact overlaps_own w4 vb vo vs.length cb g (i + vs.length) lb cb' _ cur _ hgv (by omega) hva hh
      obtain ⟨W1, W2, hp1, hp2, how, hgr⟩ := expand_run l vs i j (some ⟨vb, vo, none⟩) cb h4 hv4 (fun b hb => by injection hb with hb; rw [← hb]; exact hgv) (by omega) hj htc hlc
      have hp1' := fun ty => hp1 ty (i + vs.length + (l.length - j) - (i + vs.length)) (cap - (i + vs.length)) (cap - j) (by omega)
      have hp2' := fun ty => hp2 ty (i + vs.length + (l.length - j) - i) (cap - i) (by omega)
      have HH3 := hide how
      clear hp1 hp2 h4 hv4 how hvj hvb
      go_wp2_with (simp only [hov])
      go_region_law_o (refine step_copy_runI rfl _ _ 22 22 rfl _ _ (by simp [Act.eval, Act.put]) (by simp [Act.eval, Act.put]) (hp1' _) ?_)
      go_wp2_with fail
      go_ret
      exact ⟨_, rfl, by rw [hlen]; exact HH3.out, grown_trans ⟨hgr0.os, hgr0.tape, hgr0.output, hgr0.size, fun k hk _ => hgr0.block k hk (by simp)⟩ hgr⟩
theorem replace_any (A : Option Addr) (cap : Nat) (l : List ByteArray) (i j : Nat) (vv : Value) (vs : List ByteArray) (base : Nat) (w : World) (h : w.ownsRow base 9 1 (.slice A l.length cap) l.length (l.map Value.string)) (hv : Strs w vv vs)
    (hd : 0 < vs.length → ∀ g, vv.ownBlock = some g → (Value.slice A l.length cap).ownBlock ≠ some g) (hij : i ≤ j) (hj : j ≤ l.length) (hl : l.length ≤ 100000000) (hm : vs.length ≤ 100000000) (hb : base ≤ w.heap.size) (hsz : ∀ x ∈ l, x.size ≤ maxLen) :
    Calls Try.prog 76 #[.slice A l.length cap, .int .i64 (i : Int), .int .i64 (j : Int), vv] w (RepAt w base (Value.slice A l.length cap).ownBlock (l.take i ++ (vs ++ l.drop j))) := by
  by_cases e1 : i = j
  · subst e1; exact replace_same A cap l i vv vs base w h hv hd hj hl hm hb hsz
  · by_cases e2 : j = l.length
    · subst e2
      rw [List.drop_of_length_le (Nat.le_refl _), List.append_nil]
      exact replace_end A cap l i vv vs base w h hv hd (by omega) hl hm hb hsz
    · exact replace_mid A cap l i j vv vs base w h hv hd (by omega) (by omega) hl hm hb hsz
end Go.Proofs.Ytfjbdbdjhkmifaa
