/- Merging of texts: plain. -/
import Derived.Test.YtkikbejpgfhfoaaGreatDoorRunsP
import Derived.Test.YtkikbejpgfhfoaaGreatDoorSortG
import Derived.Test.YtkikbejpgfhfoaaGreatDoorUnord
import Derived.Test.YtkikbejpgfhfoaaGreatDoorRowsMg
import Derived.Test.YtkikbejpgfhfoaaGreatDoorApp1
import Derived.Test.YtkikbejpgfhfoaaGreatDoorTold
import Derived.Test.YtkikbejpgfhfoaaGreatDoorLawK2
import Derived.Test.YtkikbejpgfhfoaaGreatDoorRefO4
import Derived.Test.YtkikbejpgfhfoaaGreatDoorSortR
import Derived.Test.YtkikbejpgfhfoaaGreatDoorAppS
import Derived.Test.YtkikbejpgfhfoaaGreatDoorRows
import Derived.Test.YtkikbejpgfhfoaaGreatDoorOpenT
import Derived.SliceStrings
/- MergeP -/
set_option linter.unusedVariables false
set_option linter.unusedSimpArgs false
namespace Go.Pw
open Go.RowKit
def bytesL (l : List ByteArray) : Nat := (l.map ByteArray.size).sum
def linesL (l : List ByteArray) : List ByteArray := (l.map linesOf).flatten
def bigM (l : List ByteArray) : Bool := l.any bigB || decide (65536 < bytesL l) || decide (4096 < (linesL l).length)
theorem bytesL_append (a b : List ByteArray) : bytesL (a ++ b) = bytesL a + bytesL b := by simp [bytesL]
theorem linesL_append (a b : List ByteArray) : linesL (a ++ b) = linesL a ++ linesL b := by simp [linesL]
theorem bytesL_snoc (l : List ByteArray) (k : Nat) (h : k < l.length) : bytesL (l.take (k + 1)) = bytesL (l.take k) + l[k].size := by
  rw [List.take_succ_eq_append_getElem h, bytesL_append]; simp [bytesL]
theorem linesL_snoc (l : List ByteArray) (k : Nat) (h : k < l.length) : linesL (l.take (k + 1)) = linesL (l.take k) ++ linesOf l[k] := by
  rw [List.take_succ_eq_append_getElem h, linesL_append]; simp [linesL]
theorem bytesL_le (l : List ByteArray) (k : Nat) : bytesL (l.take k) ≤ bytesL l := by
  conv => rhs; rw [← List.take_append_drop k l]
  rw [bytesL_append]; omega
theorem linesL_le (l : List ByteArray) (k : Nat) : (linesL (l.take k)).length ≤ (linesL l).length := by
  conv => rhs; rw [← List.take_append_drop k l]
  rw [linesL_append, List.length_append]; omega
theorem bigM_one {l : List ByteArray} {k : Nat} (h : k < l.length) (hb : bigB l[k] = true) : bigM l = true := by
  have : l.any bigB = true := List.any_eq_true.2 ⟨_, List.getElem_mem h, hb⟩
  simp [bigM, this]
theorem bigM_bytes {l : List ByteArray} {k : Nat} (h : 65536 < bytesL (l.take k)) : bigM l = true := by
  have := bytesL_le l k
  have : 65536 < bytesL l := by omega
  simp [bigM, this]
theorem bigM_lines {l : List ByteArray} {k : Nat} (h : 4096 < (linesL (l.take k)).length) : bigM l = true := by
  have := linesL_le l k
  have : 4096 < (linesL l).length := by omega
  simp [bigM, this]
theorem bigM_none {l : List ByteArray} (h : bigM l = false) : (∀ s ∈ l, bigB s = false) ∧ bytesL l ≤ 65536 ∧ (linesL l).length ≤ 4096 := by
  simp [bigM] at h
  exact ⟨h.1.1, h.1.2, h.2⟩
theorem bigM_all {l : List ByteArray} (h1 : ∀ k (hk : k < l.length), bigB l[k] = false) (h2 : bytesL l ≤ 65536) (h3 : (linesL l).length ≤ 4096) : bigM l = false := by
  have : l.any bigB = false := by
    rw [Bool.eq_false_iff]
    intro h
    obtain ⟨s, hs, hb⟩ := List.any_eq_true.1 h
    obtain ⟨k, hk, rfl⟩ := List.getElem_of_mem hs
    rw [h1 k hk] at hb; cases hb
  simp [bigM, this]; omega
theorem srt_of_adj {α : Type} {lt : α → α → Bool} (hw : Swo lt) : ∀ {l : List α}, (∀ (j : Nat) a b, l[j]? = some a → l[j + 1]? = some b → lt b a = false) → Srt lt l
  | [], _ => List.Pairwise.nil
  | [a], _ => List.pairwise_singleton _ _
  | a :: b :: l, h => by
    have ih : Srt lt (b :: l) := srt_of_adj hw (fun j x y h1 h2 => h (j + 1) x y h1 h2)
    have hab : lt b a = false := h 0 a b rfl rfl
    refine List.Pairwise.cons (fun c hc => ?_) ih
    rcases List.mem_cons.1 hc with rfl | hc
    · exact hab
    · have hcb : lt c b = false := (List.pairwise_cons.1 ih).1 c hc
      cases hca : lt c a
      · rfl
      · have := hw.lt_of_lt_le hca hab
        rw [hcb] at this; cases this
theorem srt_adj {α : Type} {lt : α → α → Bool} {l : List α} (h : Srt lt l) {j : Nat} {a b : α} (ha : l[j]? = some a) (hb : l[j + 1]? = some b) : lt b a = false := by
  obtain ⟨h1, rfl⟩ := List.getElem?_eq_some_iff.1 ha
  obtain ⟨h2, rfl⟩ := List.getElem?_eq_some_iff.1 hb
  exact List.pairwise_iff_getElem.1 h j (j + 1) h1 h2 (by omega)
/-- what the reference's count tells of an order without 'unique' -/
theorem unord_srt {f : ByteArray → ByteArray → Int} (hf : Cmp3 f) {l : List ByteArray} {r : Int} (h : UnordIs f false l r) : (0 < r ↔ ¬ Srt (ltOf f) l) ∧ 0 ≤ r := by
  by_cases ho : OkTo f false l l.length
  · have h0 := h.none ho
    have hs : Srt (ltOf f) l := srt_of_adj hf.swo (fun j a b ha hb => by
      have hj := (List.getElem?_eq_some_iff.1 hb).1
      have := ho (j + 1) a b (by omega) hj ha hb
      unfold BadP at this
      have hfl := hf.flip b a
      unfold ltOf
      simp
      simp at this
      omega)
    subst h0
    exact ⟨⟨fun h => by omega, fun h => absurd hs h⟩, by omega⟩
  · have key : ∃ i a b, 1 ≤ i ∧ OkTo f false l i ∧ l[i - 1]? = some a ∧ l[i]? = some b ∧ BadP f false a b := by
      apply Classical.byContradiction
      intro hn
      apply ho
      have : ∀ n, OkTo f false l n := by
        intro n
        induction n with
        | zero => exact fun j a b h1 h2 => by omega
        | succ n ih =>
          intro j a b h1 h2 ha hb hbad
          rcases Nat.lt_or_eq_of_le (show j ≤ n by omega) with h3 | h3
          · exact ih j a b h1 h3 ha hb hbad
          · subst h3; exact hn ⟨j, a, b, h1, ih, ha, hb, hbad⟩
      exact this _
    obtain ⟨i, a, b, h1, h2, h3, h4, h5⟩ := key
    have hr := h.hit i a b h1 h2 h3 h4 h5
    refine ⟨⟨fun _ hs => ?_, fun _ => by omega⟩, by omega⟩
    have := srt_adj hs (j := i - 1) h3 (by rw [show i - 1 + 1 = i by omega]; exact h4)
    unfold BadP at h5
    unfold ltOf at this
    have hfl := hf.flip b a
    simp at this h5
    omega
/-- runs in order, merged, are their lines in order -/
theorem isrt_srt_id {α : Type} {lt : α → α → Bool} (hw : Swo lt) {l : List α} (h : Srt lt l) : isrt lt l = l := by
  have key : ∀ l : List α, Srt lt l → isrt lt l = l := by
    refine snoc_ind (fun _ => rfl) (fun l x ih h => ?_)
    have h2 := List.pairwise_append.1 h
    rw [isrt_snoc, ih h2.1]
    have := mrg_one_right (lt := lt) (y := x) (L1 := l) (L2 := []) (fun z hz => h2.2.2 z hz x (by simp)) (by simp)
    simpa using this
  exact key l h
theorem mrgs_sorted {α : Type} {lt : α → α → Bool} (hw : Swo lt) {rs : List (List α)} (h : ∀ r ∈ rs, Srt lt r) : mrgs lt rs = isrt lt rs.flatten := by
  have e : rs.map (isrt lt) = rs := by
    conv => rhs; rw [← List.map_id rs]
    exact List.map_congr_left fun r hr => isrt_srt_id hw (h r hr)
  rw [← mrgs_isrt hw, e]
/-- what refuses texts that are to be merged -/
def mergeErr0 (o : Sp) (l : List ByteArray) : Int := firstNZ [ordErr o, if l.length = 0 then 23 else 0, if 16 < l.length then 2 else 0]
end Go.Pw

/- MergeW -/
set_option linter.unusedVariables false
set_option linter.unusedSimpArgs false
namespace Go.Pw
open Go.RowKit
/-- in order from place m on -/
def OkFrom (lt : ByteArray → ByteArray → Bool) (l : List ByteArray) (m : Nat) : Prop := ∀ (j : Nat) a b, m ≤ j → l[j]? = some a → l[j + 1]? = some b → lt b a = false
theorem OkFrom.over {lt : ByteArray → ByteArray → Bool} {l : List ByteArray} {m : Nat} (h : l.length ≤ m + 1) : OkFrom lt l m := fun j a b h1 h2 h3 => by
  have := (List.getElem?_eq_some_iff.1 h3).1
  omega
theorem OkFrom.next {lt : ByteArray → ByteArray → Bool} {l : List ByteArray} {m : Nat} {x y : ByteArray} (h : OkFrom lt l (m + 1)) (hy : l[m]? = some y) (hx : l[m + 1]? = some x) (hn : lt x y = false) : OkFrom lt l m := fun j a b h1 h2 h3 => by
  rcases Nat.lt_or_eq_of_le h1 with h4 | h4
  · exact h j a b (by omega) h2 h3
  · subst h4
    rw [hy] at h2
    rw [hx] at h3
    injection h2 with h2
    injection h3 with h3
    subst h2 h3
    exact hn
theorem OkFrom.srt {lt : ByteArray → ByteArray → Bool} (hw : Swo lt) {l : List ByteArray} (h : OkFrom lt l 0) : Srt lt l := srt_of_adj hw fun j a b h1 h2 => h j a b (Nat.zero_le _) h1 h2
theorem below_drew1 {N : Nat} {w w' : World} (h : Below N w w') : Below N w w'.drew := ⟨h.os, h.tape, h.output, h.size, h.block⟩
end Go.Pw
namespace Go.Proofs.YtkikbejpgfhfoaaGreatDoor
open Go.RowKit Go.Pw
set_option maxHeartbeats 2000000 in
set_option maxRecDepth 100000 in
theorem isSorted_any (o : Sp) (kv v : Value) (l : List ByteArray) (w : World) (hk : KeysIn w kv o.keys) (hg : ∀ k ∈ o.keys, k.good) (h : Strs w v l) (hsz : ∀ s ∈ l, s.size ≤ 65536) (hlen : l.length ≤ 1000000) :
    Calls Tryz.prog 25 #[v, .func (.func 26) #[spV o kv] #[]] w fun e w' => ∃ b : Bool, e = .returned (.bool b) ∧ (b = true ↔ Srt (ltOf (ordCmp o)) l) ∧ Below w.heap.size w w' := by
  obtain ⟨⟨_, A, cap, rfl, hcap, hmax, hx⟩, _⟩ := h
  unfold maxLen at hmax
  have HX := hide hx
  have HZ := hide hsz
  have HC : Hid (∀ (x y : ByteArray) (W : World), x.size ≤ 65536 → y.size ≤ 65536 → Below w.heap.size w W → Calls Tryz.prog 26 #[spV o kv, .string x, .string y] W fun e w' => e = .returned (.int .i64 (ordCmp o x y)) ∧ Below W.heap.size W w') := hide (fun x y W z1 z2 hb => compare_any o kv x y W (hk.below hb) hg (by omega) (by omega))
  have HSW := hide (ordCmp_cmp3 o).swo
  obtain ⟨sv, hsv⟩ : ∃ sv, spV o kv = sv := ⟨_, rfl⟩
  obtain ⟨f, hf⟩ : ∃ f, ordCmp o = f := ⟨_, rfl⟩
  rw [hsv, hf] at HC
  rw [hf] at HSW ⊢
  rw [hsv]
  clear hx hsz hk hg hsv hf
  go_enter Tryz.func25, Tryz.ntmps25
  go_wp2_with fail
  go_loopw [5] (fun i wr => ∃ (k : Nat) (v : Int), i = .int .i64 v ∧ v = (k : Int) - 1 ∧ k ≤ l.length ∧ Hid (OkFrom (ltOf f) l (k - 1)) ∧ Hid (Below w.heap.size w wr)) (fun i _ => (intOf i).toNat)
  case atStart => exact ⟨l.length, _, rfl, rfl, Nat.le_refl _, hide (OkFrom.over (by omega)), Below.refl _ _⟩
  case round =>
    obtain ⟨k, v, rfl, hv, hk, HO, HB⟩ := hrel
    by_cases h2 : 2 ≤ k
    · obtain ⟨q, rfl⟩ : ∃ q, k = q + 1 := ⟨k - 1, by omega⟩
      obtain rfl : v = (q : Int) := by omega
      obtain ⟨bb, ob, rfl, hbb, hj⟩ := HX.out (by omega)
      have hq1 : q - 1 + 1 = q := by omega
      have q1 : l[q - 1]? = some l[q - 1] := List.getElem?_eq_getElem (by omega)
      have q2 : l[q]? = some l[q] := List.getElem?_eq_getElem (by omega)
      have c1 : wr.cell? ⟨bb, ob + (q - 1), none⟩ = some (.string l[q - 1]) := (HB.out.cell (p := ⟨bb, ob + (q - 1), none⟩) hbb).trans (hj (q - 1) _ (by rw [List.getElem?_map, q1]; rfl))
      have c2 : wr.cell? ⟨bb, ob + q, none⟩ = some (.string l[q]) := (HB.out.cell (p := ⟨bb, ob + q, none⟩) hbb).trans (hj q _ (by rw [List.getElem?_map, q2]; rfl))
      have z1 := HZ.out _ (List.getElem_mem (show q - 1 < l.length by omega))
      have z2 := HZ.out _ (List.getElem_mem (show q < l.length by omega))
      have HNX := hide (fun h => OkFrom.next (lt := ltOf f) (m := q - 1) (by rw [hq1]; exact HO.out) q1 (by rw [hq1]; exact q2) h)
      have HNO := hide (fun (h : Srt (ltOf f) l) => srt_adj h q1 (by rw [hq1]; exact q2))
      obtain ⟨y, hy⟩ : ∃ y, l[q - 1] = y := ⟨_, rfl⟩
      obtain ⟨x, hx⟩ : ∃ x, l[q] = x := ⟨_, rfl⟩
      rw [hy] at c1 z1 HNX HNO
      rw [hx] at c2 z2 HNX HNO
      clear hj q1 q2 hx hy hv hq1
      have hw0 : (0 : Int) < (q : Int) := by omega
      have hw1 : IntKind.i64.wrap ((q : Int) - 1) = (q : Int) - 1 := IntWalk.i64_in _ (by omega)
      have hw2 : ((q : Int) - 1).toNat = q - 1 := by omega
      have hw3 : (0 : Int) ≤ (q : Int) - 1 := by omega
      have hw4 : (q : Int) - 1 < (l.length : Int) := by omega
      have hw5 : (q : Int) < (l.length : Int) := by omega
      have hw6 : (1 : Int) ≤ (q : Int) := by omega
      have hw7 : q < l.length := by omega
      have hlb : bb < wr.heap.size := Nat.lt_of_lt_of_le hbb HB.out.size
      have hlt : ltOf f x y = decide (f x y < 0) := rfl
      rw [hlt] at HNX HNO
      obtain ⟨n, hn⟩ : ∃ n, f x y = n := ⟨_, rfl⟩
      have HCC := hide (fun W h => HC.out x y W z2 z1 h)
      simp only [hn] at HCC
      rw [hn] at HNX HNO
      clear hlt hn
      by_cases hneg : n < 0
      · go_wp2_with fail
        go_region_held3 (fun w' => w'.cell? ⟨bb, ob + (q - 1), none⟩ = some (.string y) ∧ w'.cell? ⟨bb, ob + q, none⟩ = some (.string x)) (go_keep) ((go_at_call 26; (with_reducible refine (HCC.out _ (below_drew1 HB.out)).mono ?_); rintro e w1 ⟨rfl, hbl⟩; have hbl' : Below wr.heap.size wr w1 := ⟨hbl.os, hbl.tape, hbl.output, hbl.size, hbl.block⟩; have q1 : w1.cell? ⟨bb, ob + (q - 1), none⟩ = some (.string y) := (hbl'.cell hlb).trans c1; have q2 : w1.cell? ⟨bb, ob + q, none⟩ = some (.string x) := (hbl'.cell hlb).trans c2))
        have HB1 := hide (HB.out.trans (hbl'.mono HB.out.size))
        clear hbl hbl' c1 c2 q1 q2
        go_wp2_with fail
        go_ret
        exact ⟨false, rfl, ⟨fun h => (by cases h), fun h => by have := HNO.out h; simp at this; omega⟩, HB1.out⟩
      · go_wp2_with fail
        go_region_held3 (fun w' => w'.cell? ⟨bb, ob + (q - 1), none⟩ = some (.string y) ∧ w'.cell? ⟨bb, ob + q, none⟩ = some (.string x)) (go_keep) ((go_at_call 26; (with_reducible refine (HCC.out _ (below_drew1 HB.out)).mono ?_); rintro e w1 ⟨rfl, hbl⟩; have hbl' : Below wr.heap.size wr w1 := ⟨hbl.os, hbl.tape, hbl.output, hbl.size, hbl.block⟩; have q1 : w1.cell? ⟨bb, ob + (q - 1), none⟩ = some (.string y) := (hbl'.cell hlb).trans c1; have q2 : w1.cell? ⟨bb, ob + q, none⟩ = some (.string x) := (hbl'.cell hlb).trans c2))
        have HB1 := hide (HB.out.trans (hbl'.mono HB.out.size))
        clear hbl hbl' c1 c2 q1 q2
        have HOK := hide (HNX.out (by simpa using hneg))
        go_wp2_with fail
        go_roundw
        case rel => exact ⟨q, _, rfl, rfl, by omega, HOK, HB1⟩
        case measure => simp [intOf]; omega
    · have hd : ¬ ((0 : Int) < v) := by omega
      have hk1 : k - 1 = 0 := by omega
      rw [hk1] at HO
      clear hv
      go_wp2_with fail
      go_ret
      first
        | exact ⟨true, rfl, ⟨fun _ => OkFrom.srt HSW.out HO.out, fun _ => rfl⟩, HB.out⟩
        | exact .inr ⟨rfl, OkFrom.srt HSW.out HO.out, HB.out⟩
set_option maxHeartbeats 1000000 in
set_option maxRecDepth 100000 in
theorem falls_any (o : Sp) (kv v : Value) (l : List ByteArray) (G : Nat) (w : World) (hN : SpIn w G 52 o kv) (hk : KeysIn w kv o.keys) (hg : ∀ k ∈ o.keys, k.good) (h : Strs w v l) (hsz : ∀ s ∈ l, s.size ≤ 65536) (hlen : l.length ≤ 1000000) :
    Calls Tryz.prog 24 #[v, .pointer (some ⟨G, 0, none⟩)] w fun e w' => ∃ b : Bool, e = .returned (.bool b) ∧ (b = true ↔ ¬ Srt (ltOf (ordCmp o)) l) ∧ Below w.heap.size w w' := by
  obtain ⟨A, cap, rfl⟩ : ∃ A cap, kv = .slice A o.keys.length cap := by
    obtain ⟨_, A, cap, h, _⟩ := hk
    exact ⟨A, cap, h⟩
  obtain ⟨c0, c1, c2, c3, c4⟩ := hN.cells
  have HI := hide (isSorted_any o (.slice A o.keys.length cap) v l w hk hg h hsz hlen)
  unfold spV at HI
  clear hk hg h hsz hN
  go_enter Tryz.func24, Tryz.ntmps24
  go_wp2_with fail
  refine HI.out.mono ?_
  rintro e w1 ⟨b, rfl, hb, hbl⟩
  go_wp2_with fail
  go_ret
  exact ⟨!b, rfl, by rw [← hb]; cases b <;> simp, hbl⟩
set_option maxHeartbeats 2000000 in
set_option maxRecDepth 100000 in
theorem indexFalls_any (o : Sp) (kv v : Value) (vs : List Value) (rs : List (List ByteArray)) (G base : Nat) (w : World) (hN : SpIn w G 52 o kv) (hk : KeysIn w kv o.keys) (hg : ∀ k ∈ o.keys, k.good) (hr : RowsR 25 w base v vs rs) (hsz : ∀ r ∈ rs, ∀ s ∈ r, s.size ≤ 65536) (hlen : ∀ r ∈ rs, r.length ≤ 1000000) (hn : rs.length ≤ 1000000) :
    Calls Tryz.prog 49 #[v, .func (.func 24) #[] #[.pointer (some ⟨G, 0, none⟩)]] w fun e w' => ∃ n : Int, e = .returned (.int .i64 n) ∧ ((0 : Int) ≤ n ↔ ∃ r ∈ rs, ¬ Srt (ltOf (ordCmp o)) r) ∧ Below w.heap.size w w' := by
  obtain ⟨A, cap, rfl⟩ := own_slice hr.own
  have HR := hide hr
  have hlt0 := hN.lt
  have HFA : Hid (∀ (u : Value) (r : List ByteArray) (W : World), r ∈ rs → Strs w u r → Below w.heap.size w W → Calls Tryz.prog 24 #[u, .pointer (some ⟨G, 0, none⟩)] W fun e w' => ∃ b : Bool, e = .returned (.bool b) ∧ (b = true ↔ ¬ Srt (ltOf (ordCmp o)) r) ∧ Below W.heap.size W w') := hide (fun u r W hm hu hb =>
    falls_any o kv u r G W (hN.below hb hlt0) (hk.below hb) hg (hu.below hb) (hsz r hm) (hlen r hm))
  clear hr hN hk hg hsz hlen
  go_enter Tryz.func49, Tryz.ntmps49
  go_wp2_with fail
  go_loopw [8] (fun i wr => ∃ k : Nat, k ≤ rs.length ∧ i = .int .i64 (k : Int) ∧ Hid (∀ r ∈ rs.take k, Srt (ltOf (ordCmp o)) r) ∧ Hid (Below w.heap.size w wr)) (fun i _ => rs.length - (intOf i).toNat)
  case atStart => exact ⟨0, by omega, rfl, hide (fun r h => by simp at h), Below.refl _ _⟩
  case round =>
    obtain ⟨k, hk, rfl, HS, HB⟩ := hrel
    by_cases hlt : k < rs.length
    · have hvl := HR.out.len
      obtain ⟨g, c, eg, hg1, hg2⟩ := World.ownsRow.form HR.out.own (by omega)
      injection eg with eg _ ec
      subst eg ec
      have hu : vs[k]? = some vs[k] := List.getElem?_eq_getElem (by omega)
      have hrk : rs[k]? = some rs[k] := List.getElem?_eq_getElem hlt
      have hc := (HB.out.cell (p := ⟨g, k, none⟩) hg2).trans (HR.out.cell rfl hu).1
      have hst := (HR.out.el k _ _ hu hrk).1
      have HNX : Hid (Srt (ltOf (ordCmp o)) rs[k] → ∀ r ∈ rs.take (k + 1), Srt (ltOf (ordCmp o)) r) := hide (fun h r hr => by
        rw [List.take_succ_eq_append_getElem hlt] at hr
        rcases List.mem_append.1 hr with hr | hr
        · exact HS.out r hr
        · simp at hr
          subst hr
          exact h)
      have HCL := hide (HFA.out vs[k] rs[k] wr (List.getElem_mem hlt) hst HB.out)
      have HME := hide (List.getElem_mem hlt)
      obtain ⟨u, hu'⟩ : ∃ u, vs[k] = u := ⟨_, rfl⟩
      obtain ⟨r, hr'⟩ : ∃ r, rs[k] = r := ⟨_, rfl⟩
      rw [hu'] at hc HCL
      rw [hr'] at HNX HCL HME
      have hoc : u.oneCell' = true := by
        obtain ⟨⟨_, A', c', e', _⟩, _⟩ := hst
        rw [hu'] at e'
        rw [e']; rfl
      clear hu hrk hst hu' hr'
      have hd : (k : Int) < (rs.length : Int) := by omega
      go_wp2_with fail
      refine HCL.out.mono ?_
      rintro e w1 ⟨b, rfl, hb, hbl⟩
      have HB1 := hide (HB.out.trans (hbl.mono HB.out.size))
      clear hbl hc
      cases b
      · have HS1 := hide (HNX.out (Classical.byContradiction fun h => by have := hb.2 h; cases this))
        go_wp2_with fail
        go_roundw
        case rel => exact ⟨k + 1, by omega, by go_num, HS1, HB1⟩
        case measure => simp [intOf]; omega
      · have HF := hide (hb.1 rfl)
        go_wp2_with fail
        go_ret
        exact ⟨_, rfl, ⟨fun _ => ⟨r, HME.out, HF.out⟩, fun _ => by omega⟩, HB1.out⟩
    · obtain rfl : k = rs.length := by omega
      have hd : ¬ ((rs.length : Int) < (rs.length : Int)) := by omega
      rw [List.take_length] at HS
      go_wp2_with fail
      go_ret
      exact ⟨_, rfl, ⟨fun h => by simp at h, fun ⟨r, hr, hns⟩ => absurd (HS.out r hr) hns⟩, HB.out⟩
theorem containsFalls_any (o : Sp) (kv v : Value) (vs : List Value) (rs : List (List ByteArray)) (G base : Nat) (w : World) (hN : SpIn w G 52 o kv) (hk : KeysIn w kv o.keys) (hg : ∀ k ∈ o.keys, k.good) (hr : RowsR 25 w base v vs rs) (hsz : ∀ r ∈ rs, ∀ s ∈ r, s.size ≤ 65536) (hlen : ∀ r ∈ rs, r.length ≤ 1000000) (hn : rs.length ≤ 1000000) :
    Calls Tryz.prog 27 #[v, .func (.func 24) #[] #[.pointer (some ⟨G, 0, none⟩)]] w fun e w' => ∃ b : Bool, e = .returned (.bool b) ∧ (b = true ↔ ∃ r ∈ rs, ¬ Srt (ltOf (ordCmp o)) r) ∧ Below w.heap.size w w' := by
  have HI := hide (indexFalls_any o kv v vs rs G base w hN hk hg hr hsz hlen hn)
  clear hN hk hg hr hsz hlen hn
  go_enter Tryz.func27, Tryz.ntmps27
  go_wp2_with fail
  refine HI.out.mono ?_
  rintro e w1 ⟨n, rfl, hb, hbl⟩
  go_wp2_with fail
  go_ret
  exact ⟨decide ((0 : Int) ≤ n), rfl, by simpa using hb, hbl⟩
end Go.Proofs.YtkikbejpgfhfoaaGreatDoor

/- MergeG -/
set_option linter.unusedVariables false
set_option linter.unusedSimpArgs false
namespace Go.Pw
open Go.RowKit
/-- what text.Merge answers where nothing is refused ahead of the texts -/
def MergeRes (lt : ByteArray → ByteArray → Bool) (told : List ByteArray → List ByteArray) (l : List ByteArray) (T : ByteArray) (E : Int) : Prop :=
  (bigM l = true ∧ T = ⟨#[]⟩ ∧ E = 2) ∨ (bigM l = false ∧ (∃ r ∈ l.map linesOf, ¬ Srt lt r) ∧ T = ⟨#[]⟩ ∧ E = 9) ∨
  (bigM l = false ∧ (∀ r ∈ l.map linesOf, Srt lt r) ∧ T = mkB (resL (told (isrt lt (linesL l)))) ∧ E = 0)
theorem bigB_no' {s : ByteArray} (h : bigB s = false) : s.size ≤ 65536 ∧ (linesOf s).length ≤ 4096 ∧ ∀ x ∈ linesOf s, x.size ≤ 65536 := by
  have h1 := (linesOf_bound s).2
  unfold bigB at h
  simp at h
  exact ⟨by omega, by omega, fun x hx => by have := h1 x hx; omega⟩
end Go.Pw
namespace Go.Proofs.YtkikbejpgfhfoaaGreatDoor
open Go.RowKit Go.Pw
set_option maxHeartbeats 1000000 in
set_option maxRecDepth 100000 in
theorem textMerge_bad (o : Sp) (kv v : Value) (l : List ByteArray) (n : Int) (w : World) (hk : KeysIn w kv o.keys) (hsep : o.sep.size ≤ 9223372036854775807) (h : Strs w v l) (hn : n ≠ 0) (hsp : mergeErr0 o l = n) :
    Calls Tryz.prog 5 #[spV o kv, v] w fun e w' => e = .returned (.tuple #[.string ⟨#[]⟩, .int .i64 n]) ∧ Below w.heap.size w w' := by
  obtain ⟨A, cap, rfl⟩ : ∃ A cap, kv = .slice A o.keys.length cap := by
    obtain ⟨_, A, cap, h, _⟩ := hk
    exact ⟨A, cap, h⟩
  have hB0 := ((Below.refl w.heap.size w).alloc (Nat.le_refl _) (.cells #[.string o.sep, (.slice A o.keys.length cap), .bool o.reverse, .bool o.stable, .bool o.unique] 24))
  have HV := hide (valid_any o (.slice A o.keys.length cap) _ (hk.below hB0) hsep)
  have HB0 := hide hB0
  obtain ⟨⟨_, A2, c2, rfl, hcap, hmax, _⟩, _⟩ := h
  unfold maxLen at hmax
  have hne : (n != 0) = true := by simpa using hn
  unfold mergeErr0 at hsp
  clear hk hB0
  unfold spV at HV ⊢
  by_cases he : ordErr o = 0
  · rw [he] at HV hsp
    by_cases h0 : l.length = 0
    · rw [if_pos h0] at hsp
      obtain rfl : n = 23 := by simpa [firstNZ] using hsp.symm
      have hd : ((l.length : Int) == 0) = true := by simp [h0]
      clear hsp he
      go_enter Tryz.func5, Tryz.ntmps5
      go_wp2_with fail
      refine HV.out.mono ?_
      rintro e w1 ⟨rfl, hb1⟩
      have HB1 := hide (HB0.out.trans (hb1.mono (by simp)))
      clear hb1
      go_wp2_with fail
      go_ret2
      exact ⟨rfl, HB1.out⟩
    · rw [if_neg h0] at hsp
      have hd : ((l.length : Int) == 0) = false := by simp [h0]
      by_cases h16 : 16 < l.length
      · rw [if_pos h16] at hsp
        obtain rfl : n = 2 := by simpa [firstNZ] using hsp.symm
        have hd2 : (16 : Int) < (l.length : Int) := by omega
        clear hsp he
        go_enter Tryz.func5, Tryz.ntmps5
        go_wp2_with fail
        refine HV.out.mono ?_
        rintro e w1 ⟨rfl, hb1⟩
        have HB1 := hide (HB0.out.trans (hb1.mono (by simp)))
        clear hb1
        go_wp2_with fail
        go_ret2
        exact ⟨rfl, HB1.out⟩
      · rw [if_neg h16] at hsp
        exact absurd hsp.symm (by simpa [firstNZ] using hn)
  · have hsp' : n = ordErr o := by rw [← hsp]; simp [firstNZ, he]
    subst hsp'
    clear hsp
    go_enter Tryz.func5, Tryz.ntmps5
    go_wp2_with fail
    refine HV.out.mono ?_
    rintro e w1 ⟨rfl, hb1⟩
    have HB1 := hide (HB0.out.trans (hb1.mono (by simp)))
    clear hb1
    go_wp2_with fail
    go_ret2
    exact ⟨rfl, HB1.out⟩
set_option maxHeartbeats 4000000 in
set_option maxRecDepth 100000 in
theorem textMerge_any (o : Sp) (kv v : Value) (l : List ByteArray) (w : World) (hk : KeysIn w kv o.keys) (h : Strs w v l) (hz : ∀ s ∈ l, s.size ≤ 2000000) (he : mergeErr0 o l = 0) :
    Calls Tryz.prog 5 #[spV o kv, v] w fun e w' => (∃ T E, e = .returned (.tuple #[.string T, .int .i64 E]) ∧ MergeRes (ltOf (ordCmp o)) (toldL o) l T E) ∧ Below w.heap.size w w' := by
  obtain ⟨A, cap, rfl⟩ : ∃ A cap, kv = .slice A o.keys.length cap := by
    obtain ⟨_, A, cap, h, _⟩ := hk
    exact ⟨A, cap, h⟩
  obtain ⟨he0, h0, h16⟩ : ordErr o = 0 ∧ l.length ≠ 0 ∧ l.length ≤ 16 := by
    unfold mergeErr0 at he
    simp only [firstNZ] at he
    by_cases h1 : ordErr o = 0
    · by_cases h2 : l.length = 0
      · simp [h1, h2] at he
      · by_cases h3 : 16 < l.length
        · simp [h1, h2, h3] at he
        · exact ⟨h1, h2, by omega⟩
    · rw [if_neg h1] at he; exact absurd he h1
  have hB0 := ((Below.refl w.heap.size w).alloc (Nat.le_refl _) (.cells #[.string o.sep, (.slice A o.keys.length cap), .bool o.reverse, .bool o.stable, .bool o.unique] 24))
  have HN0 : Hid (SpIn (w.alloc (.cells #[.string o.sep, (.slice A o.keys.length cap), .bool o.reverse, .bool o.stable, .bool o.unique] 24)) w.heap.size 24 o (.slice A o.keys.length cap)) := hide (heap_alloc_new _ _)
  have HV := hide (valid_any o (.slice A o.keys.length cap) _ (hk.below hB0) (sep_size he0))
  have HGD := hide (good_of_valid he0)
  have HK := hide hk
  have HB0 := hide hB0
  rw [he0] at HV
  obtain ⟨⟨_, A2, c2, rfl, hcap, hmax, hx⟩, _⟩ := h
  unfold maxLen at hmax
  have HX := hide hx
  have HZ := hide hz
  have hd0 : ((l.length : Int) == 0) = false := by simp [h0]
  have hd1 : ¬ ((16 : Int) < (l.length : Int)) := by omega
  clear hk hB0 he0 he hx hz
  unfold spV at HV ⊢
  go_enter Tryz.func5, Tryz.ntmps5
  go_wp2_with fail
  obtain ⟨W1, hW1⟩ : ∃ W1, w.alloc (.cells #[.string o.sep, (.slice A o.keys.length cap), .bool o.reverse, .bool o.stable, .bool o.unique] 24) = W1 := ⟨_, rfl⟩
  have hz1 : W1.heap.size = w.heap.size + 1 := by rw [← hW1]; simp
  rw [hW1] at HV HB0 HN0 ⊢
  have HZ1 := hide hz1
  clear hW1 hz1
  refine HV.out.mono ?_
  rintro e w1 ⟨rfl, hb1⟩
  have n1 := HN0.out.below hb1 (by rw [HZ1.out]; omega)
  have HB1 := hide (HB0.out.trans (hb1.mono (by rw [HZ1.out]; omega)))
  have HN1 := hide n1
  clear hb1 n1 HV
  go_wp2_with fail
  go_loopw [7, 8, 9, 30] (fun by_ ct al i wr => ∃ k : Nat, k ≤ l.length ∧ i = .int .i64 (k : Int) ∧ by_ = .int .i64 (bytesL (l.take k) : Int) ∧ ct = .int .i64 ((linesL (l.take k)).length : Int) ∧ Hid (∃ vs, RowsR 25 wr w1.heap.size al vs ((l.take k).map linesOf)) ∧ Hid (Below w1.heap.size w1 wr) ∧ Hid (∀ s ∈ l.take k, bigB s = false) ∧ bytesL (l.take k) ≤ 65536 ∧ (linesL (l.take k)).length ≤ 4096) (fun _ _ _ i _ => l.length - (intOf i).toNat)
  case atStart => exact ⟨0, by omega, rfl, rfl, rfl, hide ⟨[], RowsR.nil _ _ _⟩, Below.refl _ _, hide (fun s h => by simp at h), by simp [bytesL], by simp [linesL]⟩
  case round =>
    obtain ⟨k, hk, rfl, rfl, rfl, HR, HBx, HG, hby, hli⟩ := hrel
    by_cases hlt : k < l.length
    · obtain ⟨b3, o3, rfl, hb3, hj3⟩ := HX.out (by omega)
      have hww : Below w.heap.size w wr := HB1.out.trans (HBx.out.mono HB1.out.size)
      have hc : wr.cell? ⟨b3, o3 + k, none⟩ = some (.string l[k]) := (hww.cell (p := ⟨b3, o3 + k, none⟩) hb3).trans (hj3 k _ (by simp [hlt]))
      have hyz := HZ.out _ (List.getElem_mem hlt)
      have HBS := hide (bytesL_snoc l k hlt)
      have HLS := hide (linesL_snoc l k hlt)
      have HBO := hide (fun h => bigM_one (l := l) hlt h)
      have HBB := hide (fun h => bigM_bytes (l := l) (k := k + 1) h)
      have HBL := hide (fun h => bigM_lines (l := l) (k := k + 1) h)
      have HTK : Hid ((l.take (k + 1)).map linesOf = (l.take k).map linesOf ++ [linesOf l[k]]) := hide (by rw [List.take_succ_eq_append_getElem hlt, List.map_append]; rfl)
      have HGN : Hid (bigB l[k] = false → ∀ s ∈ l.take (k + 1), bigB s = false) := hide (fun h s hs => by
        rw [List.take_succ_eq_append_getElem hlt] at hs
        rcases List.mem_append.1 hs with hs | hs
        · exact HG.out s hs
        · simp at hs; subst hs; exact h)
      have HLT : Hid (((l.take k).map linesOf).length ≤ 16) := hide (by rw [List.length_map, List.length_take]; omega)
      obtain ⟨y, hy⟩ : ∃ y, l[k] = y := ⟨_, rfl⟩
      obtain ⟨b0, hb0⟩ : ∃ b, bytesL (l.take k) = b := ⟨_, rfl⟩
      obtain ⟨c0, hc0⟩ : ∃ c, (linesL (l.take k)).length = c := ⟨_, rfl⟩
      obtain ⟨b1, hb1⟩ : ∃ b, bytesL (l.take (k + 1)) = b := ⟨_, rfl⟩
      obtain ⟨c1, hc1⟩ : ∃ c, (linesL (l.take (k + 1))).length = c := ⟨_, rfl⟩
      have hbs := HBS.out
      have hls := congrArg List.length HLS.out
      rw [List.length_append, hc1, hc0] at hls
      rw [hb1, hb0] at hbs
      rw [hb0] at hby ⊢
      rw [hc0] at hli ⊢
      rw [hb1] at HBB
      rw [hc1] at HBL
      rw [hy] at hc hyz HTK HGN HBO hbs hls
      have hbs' : (b0 : Int) + (y.size : Int) = (b1 : Int) := by omega
      have hb1b : (b1 : Int) ≤ 3000000 := by omega
      have HLSH := hide hls
      clear hbs hls
      have HC1 := hide hc1
      have HB1' := hide hb1
      clear hj3 hy hb0 hc0 hb1 hc1 HBS HLS HG
      have hd4 : (k : Int) < (l.length : Int) := by omega
      have HLG := hide (fun W => large_any y W (by omega))
      cases hbig : bigB y
      · simp only [hbig] at HLG
        obtain ⟨hys, hyl, hyx⟩ := bigB_no' hbig
        by_cases hbb : 65536 < b1
        · have hd5 : (65536 : Int) < (b1 : Int) := by omega
          have HBM := hide (HBB.out hbb)
          clear hbb HBB hbig
          go_wp2_with fail
          refine (HLG.out _).mono ?_
          rintro e w3 ⟨rfl, hb3'⟩
          have hbe := hww.trans (hb3'.mono hww.size)
          go_wp2_with fail
          go_ret2
          exact ⟨⟨_, _, rfl, .inl ⟨HBM.out, rfl, rfl⟩⟩, hbe⟩
        · have hd5 : ¬ ((65536 : Int) < (b1 : Int)) := by omega
          have HGK := hide (HGN.out hbig)
          have HLI := hide (fun W => lines_any y W (by omega))
          clear HBB hbig HGN
          have hls' : (c0 : Int) + ((linesOf y).length : Int) = (c1 : Int) := by have := HLSH.out; omega
          have hc1b : (c1 : Int) ≤ 10000 := by omega
          have HYX := hide hyx
          obtain ⟨m, hm⟩ : ∃ m, linesOf y = m := ⟨_, rfl⟩
          rw [hm] at HTK HLI hls' hyl HYX
          clear hyx hm
          go_wp2_with fail
          refine (HLG.out _).mono ?_
          rintro e w3 ⟨rfl, hb3'⟩
          have HB3 := hide (HBx.out.trans (hb3'.mono HBx.out.size))
          have HW3 := hide hb3'
          clear hb3' hc
          go_wp2_with fail
          refine (HLI.out _).mono ?_
          rintro e w4 ⟨u, rfl, hr⟩
          have hbl := linesRes_below hr
          have HB4 := hide (HB3.out.trans (hbl.mono HB3.out.size))
          have HST := hide (linesRes_strs hr (fun x hx => by have := HYX.out x hx; unfold maxLen; omega) (by unfold maxLen; omega))
          have hlie := linesRes_lies hr
          obtain ⟨vs, hrows⟩ := HR.out
          have hrw : Below wr.heap.size wr w4 := HW3.out.trans (hbl.mono HW3.out.size)
          have hne : ∀ q, u.ownBlock = some q → u9.ownBlock ≠ some q := fun q hq e => by
            have h1 := hlie.2 q hq
            have h2 := own_lt hrows.own q e
            have h3 := HW3.out.size
            omega
          obtain ⟨UA, rfl⟩ := linesRes_len hr
          obtain ⟨RS, hRS⟩ : ∃ RS, (l.take k).map linesOf = RS := ⟨_, rfl⟩
          rw [hRS] at hrows HTK HLT
          obtain ⟨RA, rc, rfl⟩ := own_slice hrows.own
          have HR4 := hide (hrows.below hrw)
          have HLIE := hide hlie.1
          have hz4 := HB4.out.size
          have HNE := hide hne
          clear hr hbl hrows hrw hne hlie hRS HR
          go_wp2_with (at_builtin; refine wpList_app_row rfl _ _ rfl w1.heap.size _ vs RS rfl HR4.out HST.out HLIE.out HNE.out rfl (by have := HLT.out; omega) hz4 ?_)
          intro g6 c6 w6 hr6 hb6
          have HR6 := hide hr6
          have HB6 := hide (HB4.out.trans hb6)
          clear hr6 hb6
          by_cases hcc : 4096 < c1
          · have hd6 : (4096 : Int) < (c1 : Int) := by omega
            have HBM := hide (HBL.out hcc)
            have hbe := HB1.out.trans (HB6.out.mono HB1.out.size)
            clear hcc HBL
            go_wp2_with fail
            go_ret2
            exact ⟨⟨_, _, rfl, .inl ⟨HBM.out, rfl, rfl⟩⟩, hbe⟩
          · have hd6 : ¬ ((4096 : Int) < (c1 : Int)) := by omega
            go_wp2_with fail
            go_roundw
            case rel => exact ⟨k + 1, by omega, by go_num, by rw [HB1'.out], by rw [HC1.out], hide ⟨_, by rw [HTK.out]; exact HR6.out⟩, HB6, HGK, by rw [HB1'.out]; omega, by rw [HC1.out]; omega⟩
            case measure => simp [intOf]; omega
      · simp only [hbig] at HLG
        have HBM := hide (HBO.out hbig)
        clear hbig
        go_wp2_with fail
        refine (HLG.out _).mono ?_
        rintro e w3 ⟨rfl, hb3'⟩
        have hbe := hww.trans (hb3'.mono hww.size)
        go_wp2_with fail
        go_ret2
        exact ⟨⟨_, _, rfl, .inl ⟨HBM.out, rfl, rfl⟩⟩, hbe⟩
    · obtain rfl : k = l.length := by omega
      rw [List.take_length] at HR HG hby hli ⊢
      have hbm : bigM l = false := bigM_all (fun k hk => HG.out _ (List.getElem_mem hk)) hby hli
      have HBM := hide hbm
      have hd4 : ¬ ((l.length : Int) < (l.length : Int)) := by omega
      have hok := bigM_none hbm
      have hall : ∀ r ∈ l.map linesOf, r.length ≤ 4096 ∧ ∀ x ∈ r, x.size ≤ 65536 := fun r hr => by
        obtain ⟨s, hs, rfl⟩ := List.mem_map.1 hr
        exact (bigB_no' (hok.1 s hs)).2
      have HALL := hide hall
      have hfl : (l.map linesOf).flatten = linesL l := rfl
      have HFL : Hid ((l.map linesOf).flatten.length ≤ 4096) := hide (by rw [hfl]; exact hli)
      have HMS : Hid ((∀ r ∈ l.map linesOf, Srt (ltOf (ordCmp o)) r) → mrgs (ltOf (ordCmp o)) (l.map linesOf) = isrt (ltOf (ordCmp o)) (linesL l)) := hide (fun h => by rw [mrgs_sorted (ordCmp_cmp3 o).swo h, hfl])
      obtain ⟨vs, hrows⟩ := HR.out
      have hln : (l.map linesOf).length = l.length := List.length_map ..
      obtain ⟨b0, hb0⟩ : ∃ b, bytesL l = b := ⟨_, rfl⟩
      obtain ⟨c0, hc0⟩ : ∃ c, (linesL l).length = c := ⟨_, rfl⟩
      rw [hb0, hc0]
      obtain ⟨RS, hRS⟩ : ∃ RS, l.map linesOf = RS := ⟨_, rfl⟩
      rw [hRS] at hrows HALL HFL HMS hln
      have hRn : RS.length ≤ 16 ∧ 0 < RS.length := by omega
      clear hln
      have HRN := hide hRn
      obtain ⟨hRn1, hRn2⟩ := hRn
      obtain ⟨RA, rc, rfl⟩ := own_slice hrows.own
      have HRS := hide hRS
      obtain ⟨g, c', eg, hg1, hg2⟩ := World.ownsRow.form hrows.own (by omega)
      injection eg with eg _ ec
      subst eg ec
      have hn6 := HN1.out.below HBx.out HN1.out.lt
      obtain ⟨d0, d1, d2, d3, d4⟩ := hn6.cells
      have hww : Below w.heap.size w wr := HB1.out.trans (HBx.out.mono HB1.out.size)
      have HR6 := hide hrows
      have HWW := hide hww
      clear hbm hok hall hfl hb0 hc0 hRS hrows hww hby hli HG HR HX HZ hn6
      have HN5 : Hid (SpIn (wr.alloc (.cells #[.string o.sep, (.slice A o.keys.length cap), .bool o.reverse, .bool o.stable, .bool o.unique] 52)) wr.heap.size 52 o (.slice A o.keys.length cap)) := hide (heap_alloc_new _ _)
      have hal := (Below.refl wr.heap.size wr).alloc (Nat.le_refl _) (.cells #[.string o.sep, (.slice A o.keys.length cap), .bool o.reverse, .bool o.stable, .bool o.unique] 52)
      obtain ⟨W5, hW5⟩ : ∃ W5, wr.alloc (.cells #[.string o.sep, (.slice A o.keys.length cap), .bool o.reverse, .bool o.stable, .bool o.unique] 52) = W5 := ⟨_, rfl⟩
      have HW5 := hide hW5
      rw [hW5] at HN5 hal
      have HB5 := hide (HWW.out.trans (hal.mono HWW.out.size))
      have HR5 := hide (HR6.out.below hal)
      have hz5 : wr.heap.size < W5.heap.size := by rw [← hW5]; simp
      have HCF := hide (containsFalls_any o (.slice A o.keys.length cap) _ vs RS wr.heap.size w1.heap.size W5 HN5.out (HK.out.below HB5.out) HGD.out HR5.out (fun r hr => (HALL.out r hr).2) (fun r hr => by have := (HALL.out r hr).1; omega) (by omega))
      clear hal hW5
      go_wp2_with fail
      rw [HW5.out]
      refine HCF.out.mono ?_
      rintro e w6 ⟨b, rfl, hb, hb6⟩
      have HB6 := hide (HB5.out.trans (hb6.mono HB5.out.size))
      have HN6 := hide (HN5.out.below hb6 HN5.out.lt)
      have HR7 := hide (HR5.out.below hb6)
      have hz6 := hb6.size
      clear hb6 d0 d1 d2 d3 d4 HCF
      cases b
      · have hso : ∀ r ∈ RS, Srt (ltOf (ordCmp o)) r := fun r hr => Classical.byContradiction fun h => by have := hb.2 ⟨r, hr, h⟩; cases this
        have HSO := hide hso
        clear hb hso
        have hml := HMS.out HSO.out
        have hMl : (isrt (ltOf (ordCmp o)) (linesL l)).length ≤ 4096 := by rw [← hml, mrgs_len]; exact HFL.out
        have hMx : ∀ x ∈ isrt (ltOf (ordCmp o)) (linesL l), x.size ≤ 65536 := fun x hx => by
          rw [← hml] at hx
          obtain ⟨r, hr, hxr⟩ := mrgs_mem hx
          exact (HALL.out r hr).2 x hxr
        have hsw : Below w6.heap.size w6 w6.drew := below_drew1 (Below.refl _ _)
        have hw1 := HB1.out.size
        have HMG : Hid (Calls Tryz.prog 29 #[spV o (.slice A o.keys.length cap), .slice (some ⟨g, 0, none⟩) RS.length rc] w6.drew fun e w' => ∃ v', e = .returned v' ∧ OwnS 9 w' (w6.heap.size + 1) v' (mrgs (ltOf (ordCmp o)) RS) ∧ But w6.heap.size g w6 w') := hide (by
          refine (merged_any o (.slice A o.keys.length cap) g RS.length rc RS w6.drew (show g < w6.heap.size by omega) rfl (by omega) ⟨vs, (HR7.out.below hsw).runs rfl⟩ (fun x y W z1 z2 hb => ?_) HSO.out (fun r hr => (HALL.out r hr).2) (by have := HFL.out; omega)).mono ?_
          · exact compare_any o (.slice A o.keys.length cap) x y W (Rd.keep HK.out (Nat.le_trans HB6.out.size hb.size) fun p hp => (hb.cell (show p.block < w6.heap.size by have := HB6.out.size; omega) (by omega)).trans (HB6.out.cell hp)) HGD.out (by omega) (by omega)
          · rintro e w' ⟨v', h1, h2, h3⟩
            exact ⟨v', h1, h2, ⟨h3.os, h3.tape, h3.output, h3.size, h3.block⟩⟩)
        rw [hml] at HMG
        have HTD := hide (fun (v7 : Value) (w7 : World) (ho : OwnS 9 w7 (w6.heap.size + 1) v7 (isrt (ltOf (ordCmp o)) (linesL l))) (hb : But w6.heap.size g w6 w7) =>
          told_any o (.slice A o.keys.length cap) v7 _ w7 (HK.out.below (HB6.out.trans (hb.below HB6.out.size (by omega)))) HGD.out (ho.strs (fun x hx => by have := hMx x hx; unfold maxLen; omega)) hMx (by omega))
        unfold spV at HMG HTD
        obtain ⟨M, hM⟩ : ∃ M, isrt (ltOf (ordCmp o)) (linesL l) = M := ⟨_, rfl⟩
        rw [hM] at HMG HTD
        have HM := hide hM
        clear hml hMl hMx hM
        have hlt6 : wr.heap.size < w6.heap.size := by omega
        obtain ⟨d0, d1, d2, d3, d4⟩ := HN6.out.cells
        go_wp2_with fail
        go_region_held3 (fun w' => w'.cell? ⟨wr.heap.size, 0, none⟩ = some (.string o.sep) ∧ w'.cell? ⟨wr.heap.size, 1, none⟩ = some (.slice A o.keys.length cap) ∧ w'.cell? ⟨wr.heap.size, 2, none⟩ = some (.bool o.reverse) ∧ w'.cell? ⟨wr.heap.size, 3, none⟩ = some (.bool o.stable) ∧ w'.cell? ⟨wr.heap.size, 4, none⟩ = some (.bool o.unique)) (go_keep) (first
          | (go_at_call 29; (with_reducible refine HMG.out.mono ?_); rintro e w7 ⟨v7, rfl, ho7, hb7⟩; have HO7 := hide ho7; have HB7 := hide hb7; have hn7 := HN6.out.but hb7 hlt6 (by omega); obtain ⟨e0, e1, e2, e3, e4⟩ := hn7.cells)
          | (go_at_call 28; (with_reducible refine (HTD.out v7 w7 HO7.out HB7.out).mono ?_); rintro e w8 ⟨rfl, hb8⟩; have hn8 := hn7.below hb8 hn7.lt; obtain ⟨g0, g1, g2, g3, g4⟩ := hn8.cells))
        all_goals
          have hbe := HB6.out.trans ((HB7.out.below HB6.out.size (by omega)).trans (hb8.mono (Nat.le_trans HB6.out.size HB7.out.size)))
          go_wp2_with fail
          go_ret2
          exact ⟨⟨_, _, rfl, .inr (.inr ⟨HBM.out, by rw [HRS.out]; exact HSO.out, by rw [HM.out], rfl⟩)⟩, hbe⟩
      · have HFA := hide (hb.1 rfl)
        clear hb
        go_wp2_with fail
        go_ret2
        exact ⟨⟨_, _, rfl, .inr (.inl ⟨HBM.out, by rw [HRS.out]; exact HFA.out, rfl, rfl⟩)⟩, HB6.out⟩
end Go.Proofs.YtkikbejpgfhfoaaGreatDoor

/- MergeM -/
set_option linter.unusedVariables false
set_option linter.unusedSimpArgs false
namespace Go.Pw
open Go.RowKit
theorem bytesL_mem {l : List ByteArray} {s : ByteArray} (h : s ∈ l) : s.size ≤ bytesL l := by
  unfold bytesL
  induction l with
  | nil => cases h
  | cons a l ih =>
    rw [List.map_cons, List.sum_cons]
    rcases List.mem_cons.1 h with rfl | h
    · omega
    · have := ih h; omega
theorem linesL_bound : ∀ l : List ByteArray, (linesL l).length ≤ bytesL l + l.length
  | [] => by simp [linesL]
  | s :: l => by
    have h1 := linesL_bound l
    have h2 := (linesOf_bound s).1
    have e1 : linesL (s :: l) = linesOf s ++ linesL l := rfl
    have e2 : bytesL (s :: l) = s.size + bytesL l := rfl
    rw [e1, e2, List.length_append, List.length_cons]
    omega
end Go.Pw
namespace Go.Proofs.YtkikbejpgfhfoaaGreatDoor
open Go.RowKit Go.Pw
theorem rd_three' (w : World) (x y z : Int) (t : TypeId) : Rd (w.alloc (.cells #[.int .i64 x, .int .i64 y, .int .i64 z] t)) 1 (.slice (some ⟨w.heap.size, 0, none⟩) 3 3) 3 ([x, y, z].map (Value.int .i64)) := by
  refine ⟨rfl, _, _, rfl, Nat.le_refl _, by unfold maxLen; omega, fun _ => ⟨w.heap.size, 0, rfl, by simp, fun j u hu => ?_⟩⟩
  rw [World.cell?_alloc_new]
  simpa using hu
theorem rd_two2 (w : World) (x y : Int) (t : TypeId) : Rd (w.alloc (.cells #[.int .i64 x, .int .i64 y] t)) 1 (.slice (some ⟨w.heap.size, 0, none⟩) 2 2) 2 ([x, y].map (Value.int .i64)) := by
  refine ⟨rfl, _, _, rfl, Nat.le_refl _, by unfold maxLen; omega, fun _ => ⟨w.heap.size, 0, rfl, by simp, fun j u hu => ?_⟩⟩
  rw [World.cell?_alloc_new]
  simpa using hu
theorem firstThree'_any (w : World) (x y z : Int) : Calls Tryz.prog 6 #[.slice (some ⟨w.heap.size, 0, none⟩) 3 3] (w.alloc (.cells #[.int .i64 x, .int .i64 y, .int .i64 z] 26)) fun e w' => e = .returned (.int .i64 (firstNZ [x, y, z])) ∧ w' = w.alloc (.cells #[.int .i64 x, .int .i64 y, .int .i64 z] 26) :=
  (first_any _ [x, y, z] _ (rd_three' w x y z _)).mono fun e w' ⟨h1, h2⟩ => ⟨h1, h2.symm⟩
theorem firstTwo2_any (w : World) (x y : Int) : Calls Tryz.prog 6 #[.slice (some ⟨w.heap.size, 0, none⟩) 2 2] (w.alloc (.cells #[.int .i64 x, .int .i64 y] 26)) fun e w' => e = .returned (.int .i64 (firstNZ [x, y])) ∧ w' = w.alloc (.cells #[.int .i64 x, .int .i64 y] 26) :=
  (first_any _ [x, y] _ (rd_two2 w x y _)).mono fun e w' ⟨h1, h2⟩ => ⟨h1, h2.symm⟩
theorem briefM_any (s : ByteArray) (w : World) : Calls Tryz.prog 11 #[.string s] w fun e w' => e = .returned (.bool (decide (s.size ≤ 3000))) ∧ w = w' := by
  go_enter Tryz.func11, Tryz.ntmps11
  go_wp2_with fail
  go_ret
  exact ⟨ret_bool (decide_eq_decide.2 (by omega)), rfl⟩
theorem largeM_any (s : ByteArray) (w : World) (hs : s.size ≤ maxLen) : Calls Tryz.prog 9 #[.slice (some ⟨w.heap.size, 0, none⟩) 1 1] (w.alloc (.cells #[.string s] 9)) fun e w' => e = .returned (.int .i64 (if bigB s then 2 else 0)) ∧ Below w.heap.size w w' :=
  (largeL_any _ [s] _ (strs_one w s 9 hs)).mono fun e w' ⟨h1, h2⟩ => ⟨by rw [h1]; simp, ((Below.refl _ _).alloc (Nat.le_refl _) _).trans (h2.mono (by simp))⟩
theorem mergeWhens (l : List ByteArray) : ∃ x1 x2 : Int, x1 = (if l.length = 0 then 23 else 0) ∧ x2 = (if 16 < l.length then 2 else 0)
    ∧ (∀ W, Calls Tryz.prog 8 #[.bool ((l.length : Int) == 0), .int .i64 23] W fun e w' => e = .returned (.int .i64 x1) ∧ W = w')
    ∧ (∀ W, Calls Tryz.prog 8 #[.bool (decide ((16 : Int) < (l.length : Int))), .int .i64 2] W fun e w' => e = .returned (.int .i64 x2) ∧ W = w') := by
  refine ⟨_, _, rfl, rfl, fun W => ?_, fun W => ?_⟩
  · refine (when_any _ _ W).mono fun e w' ⟨h1, h2⟩ => ⟨?_, h2⟩
    rw [h1]
    by_cases a : l.length = 0 <;> simp [a]
  · refine (when_any _ _ W).mono fun e w' ⟨h1, h2⟩ => ⟨?_, h2⟩
    rw [h1]
    by_cases a : 16 < l.length
    · have : (16 : Int) < (l.length : Int) := by omega
      simp [a, this]
    · have : ¬ (16 : Int) < (l.length : Int) := by omega
      simp [a, this]
set_option maxHeartbeats 4000000 in
set_option maxRecDepth 100000 in
theorem mergeMatches_bad (o : Sp) (kv v : Value) (l : List ByteArray) (n : Int) (w : World) (hk : KeysIn w kv o.keys) (hsep : o.sep.size ≤ maxLen) (h : Strs w v l) (hby : bytesL l ≤ 2000000) (hlen : l.length ≤ 2000000) (hn : n ≠ 0) (hsp : mergeErr0 o l = n) :
    Calls Tryz.prog 3 #[spV o kv, v] w fun e w' => e = .returned (.bool true) ∧ Below w.heap.size w w' := by
  unfold maxLen at hsep
  have hsep' : o.sep.size ≤ 9223372036854775807 := by omega
  obtain ⟨A, cap, rfl⟩ : ∃ A cap, kv = .slice A o.keys.length cap := by
    obtain ⟨_, A, cap, h, _⟩ := hk
    exact ⟨A, cap, h⟩
  have hB0 := ((Below.refl w.heap.size w).alloc (Nat.le_refl _) (.cells #[.string o.sep, (.slice A o.keys.length cap), .bool o.reverse, .bool o.stable, .bool o.unique] 24))
  have HN0 : Hid (SpIn (w.alloc (.cells #[.string o.sep, (.slice A o.keys.length cap), .bool o.reverse, .bool o.stable, .bool o.unique] 24)) w.heap.size 24 o (.slice A o.keys.length cap)) := hide (heap_alloc_new _ _)
  have HB0 := hide hB0
  have HK := hide hk
  have HMB := hide (fun W hb => textMerge_bad o (.slice A o.keys.length cap) v l n W (HK.out.below hb) hsep' (h.below hb) hn hsp)
  have HOE := hide (fun W h => orderError_any o (.slice A o.keys.length cap) W h hsep')
  have hnb : (n != 0) = true := by simpa using hn
  have hn0 : (n == 0) = false := by simpa using hn
  have hnn : (n == n) = true := by simp
  obtain ⟨x1, x2, e1, e2, g1, g2⟩ := mergeWhens l
  unfold mergeErr0 at hsp
  rw [← e1, ← e2] at hsp
  obtain ⟨x0, hx0⟩ : ∃ x, ordErr o = x := ⟨_, rfl⟩
  simp only [hx0] at HOE
  rw [hx0] at hsp
  have HF := hide hsp
  have HG1 := hide g1
  have HG2 := hide g2
  have hfn : ∀ x, firstNZ [n, x] = n := fun x => by simp [firstNZ, hn]
  have HFN := hide hfn
  obtain ⟨⟨_, A2, c2, rfl, hcap, hmax, hx⟩, _⟩ := h
  unfold maxLen at hmax
  have HX := hide hx
  have HBY := hide (fun k => bytesL_le l k)
  clear e1 e2 g1 g2 hx0 hk hB0 hsp hn hfn hx
  unfold spV at HMB HOE ⊢
  go_enter Tryz.func3, Tryz.ntmps3
  go_wp2_with fail
  refine (HMB.out _ HB0.out).mono ?_
  rintro e w1 ⟨rfl, hb1⟩
  have HB1 := hide (HB0.out.trans (hb1.mono (by simp)))
  have HN1 := hide (HN0.out.below hb1 (by simp))
  clear hb1
  obtain ⟨c0, c1, c2', c3, c4⟩ := HN1.out.cells
  go_wp2_with fail
  refine (HOE.out _ (HK.out.below HB1.out)).mono ?_
  rintro e w3 ⟨rfl, hb3⟩
  have HB3 := hide (HB1.out.trans (hb3.mono HB1.out.size))
  have HN3 := hide (HN1.out.below hb3 HN1.out.lt)
  clear hb3 c0 c1 c2' c3 c4
  go_wp2_with fail
  refine (HG1.out _).mono ?_
  rintro e w' ⟨rfl, rfl⟩
  go_wp2_with fail
  refine (HG2.out _).mono ?_
  rintro e w' ⟨rfl, rfl⟩
  go_wp2_with fail
  refine (firstThree'_any _ _ _ _).mono ?_
  rintro e w4 ⟨rfl, rfl⟩
  rw [HF.out]
  have hal := (Below.refl w3.heap.size w3).alloc (Nat.le_refl _) (.cells #[.int .i64 x0, .int .i64 x1, .int .i64 x2] 26)
  have HB4 := hide (HB3.out.trans (hal.mono HB3.out.size))
  have HN4 := hide (HN3.out.below hal HN3.out.lt)
  obtain ⟨w4, hw4⟩ : ∃ w4, w3.alloc (.cells #[.int .i64 x0, .int .i64 x1, .int .i64 x2] 26) = w4 := ⟨_, rfl⟩
  rw [hw4] at HB4 HN4 ⊢
  clear hw4 hal
  go_wp2_with fail
  go_loop [7, 8, 9, 35] (fun want al many i => ∃ k : Nat, k ≤ l.length ∧ i = .int .i64 (k : Int) ∧ want = .int .i64 n ∧ al = .slice none 0 0 ∧ many = .int .i64 (bytesL (l.take k) : Int)) (fun _ _ _ i => l.length - (intOf i).toNat)
  case atStart => exact ⟨0, by omega, rfl, rfl, rfl, rfl⟩
  case round =>
    obtain ⟨k, hk, rfl, rfl, rfl, rfl⟩ := hrel
    by_cases hlt : k < l.length
    · obtain ⟨b3, o3, rfl, hb3, hj3⟩ := HX.out (by omega)
      have hc : w4.cell? ⟨b3, o3 + k, none⟩ = some (.string l[k]) := (HB4.out.cell (p := ⟨b3, o3 + k, none⟩) hb3).trans (hj3 k _ (by simp [hlt]))
      have hs := bytesL_snoc l k hlt
      have hle := HBY.out (k + 1)
      obtain ⟨y, hy⟩ : ∃ y, l[k] = y := ⟨_, rfl⟩
      rw [hy] at hc hs
      obtain ⟨b0, hb0⟩ : ∃ b, bytesL (l.take k) = b := ⟨_, rfl⟩
      obtain ⟨b1, hb1⟩ : ∃ b, bytesL (l.take (k + 1)) = b := ⟨_, rfl⟩
      rw [hb1, hb0] at hs
      rw [hb1] at hle
      rw [hb0]
      have hs' : (b0 : Int) + (y.size : Int) = (b1 : Int) := by omega
      have hb1b : (b1 : Int) ≤ 3000000 := by omega
      have HB1' := hide hb1
      clear hs hle hb0 hb1 hj3 hy
      have hd4 : (k : Int) < (l.length : Int) := by omega
      go_wp2_with fail
      go_round
      case rel => exact ⟨k + 1, by omega, by go_num, rfl, rfl, by rw [HB1'.out]⟩
      case measure => simp [intOf]; omega
    · obtain rfl : k = l.length := by omega
      rw [List.take_length]
      have hd4 : ¬ ((l.length : Int) < (l.length : Int)) := by omega
      obtain ⟨b0, hb0⟩ : ∃ b, bytesL l = b := ⟨_, rfl⟩
      rw [hb0]
      clear hb0 hby HBY
      by_cases hbig : 65536 < b0
      · have hd5 : (65536 : Int) < (b0 : Int) := by omega
        go_wp2_with fail
        refine (when_any _ _ _).mono ?_
        rintro e w' ⟨rfl, rfl⟩
        go_wp2_with fail
        refine (firstTwo2_any _ _ _).mono ?_
        rintro e w5 ⟨rfl, rfl⟩
        rw [HFN.out]
        have hal := (Below.refl w4.heap.size w4).alloc (Nat.le_refl _) (.cells #[.int .i64 n, .int .i64 2] 26)
        have HB5 := hide (HB4.out.trans (hal.mono HB4.out.size))
        have HN5 := hide (HN4.out.below hal HN4.out.lt)
        obtain ⟨w5, hw5⟩ : ∃ w5, w4.alloc (.cells #[.int .i64 n, .int .i64 2] 26) = w5 := ⟨_, rfl⟩
        rw [hw5] at HB5 HN5 ⊢
        clear hw5 hal
        obtain ⟨c0, c1, c2', c3, c4⟩ := HN5.out.cells
        have hal := (Below.refl w5.heap.size w5).alloc (Nat.le_refl _) (.cells #[.string o.sep, (.slice A o.keys.length cap), .bool o.reverse, .bool o.stable, .bool false] 24)
        have HB6 := hide (HB5.out.trans (hal.mono HB5.out.size))
        clear hal
        go_wp2_with fail
        obtain ⟨w6, hw6⟩ : ∃ w6, w5.alloc (.cells #[.string o.sep, (.slice A o.keys.length cap), .bool o.reverse, .bool o.stable, .bool false] 24) = w6 := ⟨_, rfl⟩
        rw [hw6] at HB6 ⊢
        clear hw6 c0 c1 c2' c3 c4
        go_loop [7, 68] (fun want i => want = .int .i64 n ∧ ∃ k : Nat, k ≤ l.length ∧ i = .int .i64 (k : Int)) (fun _ i => l.length - (intOf i).toNat)
        case atStart => exact ⟨rfl, 0, by omega, rfl⟩
        case round =>
          obtain ⟨rfl, k, hk, rfl⟩ := hrel
          by_cases hlt : k < l.length
          · obtain ⟨b3, o3, rfl, hb3, hj3⟩ := HX.out (by omega)
            have hc : w6.cell? ⟨b3, o3 + k, none⟩ = some (.string l[k]) := (HB6.out.cell (p := ⟨b3, o3 + k, none⟩) hb3).trans (hj3 k _ (by simp [hlt]))
            have hd4 : (k : Int) < (l.length : Int) := by omega
            clear hj3
            go_wp2_with fail
            go_round
            case rel => exact ⟨rfl, k + 1, by omega, by go_num⟩
            case measure => simp [intOf]; omega
          · obtain rfl : k = l.length := by omega
            have hd4 : ¬ ((l.length : Int) < (l.length : Int)) := by omega
            go_wp2_with fail
            refine (sorts_any _).mono ?_
            rintro e w7 ⟨rfl, hb7⟩
            have HB7 := hide (HB6.out.trans (hb7.mono HB6.out.size))
            clear hb7
            go_wp2_with fail
            refine (sorts_any _).mono ?_
            rintro e w8 ⟨rfl, hb8⟩
            have HB8 := hide (HB7.out.trans (hb8.mono HB7.out.size))
            clear hb8
            go_wp2_with fail
            go_ret
            exact ⟨ret_bool (by simp), HB8.out⟩
      · have hd5 : ¬ ((65536 : Int) < (b0 : Int)) := by omega
        go_wp2_with fail
        refine (when_any _ _ _).mono ?_
        rintro e w' ⟨rfl, rfl⟩
        go_wp2_with fail
        refine (firstTwo2_any _ _ _).mono ?_
        rintro e w5 ⟨rfl, rfl⟩
        rw [HFN.out]
        have hal := (Below.refl w4.heap.size w4).alloc (Nat.le_refl _) (.cells #[.int .i64 n, .int .i64 0] 26)
        have HB5 := hide (HB4.out.trans (hal.mono HB4.out.size))
        have HN5 := hide (HN4.out.below hal HN4.out.lt)
        obtain ⟨w5, hw5⟩ : ∃ w5, w4.alloc (.cells #[.int .i64 n, .int .i64 0] 26) = w5 := ⟨_, rfl⟩
        rw [hw5] at HB5 HN5 ⊢
        clear hw5 hal
        obtain ⟨c0, c1, c2', c3, c4⟩ := HN5.out.cells
        have hal := (Below.refl w5.heap.size w5).alloc (Nat.le_refl _) (.cells #[.string o.sep, (.slice A o.keys.length cap), .bool o.reverse, .bool o.stable, .bool false] 24)
        have HB6 := hide (HB5.out.trans (hal.mono HB5.out.size))
        clear hal
        go_wp2_with fail
        obtain ⟨w6, hw6⟩ : ∃ w6, w5.alloc (.cells #[.string o.sep, (.slice A o.keys.length cap), .bool o.reverse, .bool o.stable, .bool false] 24) = w6 := ⟨_, rfl⟩
        rw [hw6] at HB6 ⊢
        clear hw6 c0 c1 c2' c3 c4
        go_loop [7, 68] (fun want i => want = .int .i64 n ∧ ∃ k : Nat, k ≤ l.length ∧ i = .int .i64 (k : Int)) (fun _ i => l.length - (intOf i).toNat)
        case atStart => exact ⟨rfl, 0, by omega, rfl⟩
        case round =>
          obtain ⟨rfl, k, hk, rfl⟩ := hrel
          by_cases hlt : k < l.length
          · obtain ⟨b3, o3, rfl, hb3, hj3⟩ := HX.out (by omega)
            have hc : w6.cell? ⟨b3, o3 + k, none⟩ = some (.string l[k]) := (HB6.out.cell (p := ⟨b3, o3 + k, none⟩) hb3).trans (hj3 k _ (by simp [hlt]))
            have hd4 : (k : Int) < (l.length : Int) := by omega
            clear hj3
            go_wp2_with fail
            go_round
            case rel => exact ⟨rfl, k + 1, by omega, by go_num⟩
            case measure => simp [intOf]; omega
          · obtain rfl : k = l.length := by omega
            have hd4 : ¬ ((l.length : Int) < (l.length : Int)) := by omega
            go_wp2_with fail
            refine (sorts_any _).mono ?_
            rintro e w7 ⟨rfl, hb7⟩
            have HB7 := hide (HB6.out.trans (hb7.mono HB6.out.size))
            clear hb7
            go_wp2_with fail
            refine (sorts_any _).mono ?_
            rintro e w8 ⟨rfl, hb8⟩
            have HB8 := hide (HB7.out.trans (hb8.mono HB7.out.size))
            clear hb8
            go_wp2_with fail
            go_ret
            exact ⟨ret_bool (by simp), HB8.out⟩
end Go.Proofs.YtkikbejpgfhfoaaGreatDoor

/- MergeN -/
set_option linter.unusedVariables false
set_option linter.unusedSimpArgs false
namespace Go.Pw
open Go.RowKit
/-- the order without 'unique', in which lines count as equal as before -/
def Sp.loose (o : Sp) : Sp := { o with unique := false, stable := o.stable || o.unique }
theorem ordCmp_loose (o : Sp) : ordCmp o.loose = ordCmp o := by
  funext a b
  unfold ordCmp
  have e1 : keysCmp o.loose a b = keysCmp o a b := rfl
  have e2 : wholeCmp o.loose a b = wholeCmp o a b := rfl
  have e3 : o.loose.keys = o.keys := rfl
  have e4 : (o.loose.stable = true ∨ o.loose.unique = true) ↔ (o.stable = true ∨ o.unique = true) := by
    unfold Sp.loose
    simp
  rw [e1, e2, e3]
  have e5 := or_congr (Iff.refl (keysCmp o a b ≠ 0)) (and_congr (Iff.refl (o.keys ≠ [])) e4)
  by_cases h : keysCmp o a b ≠ 0 ∨ (o.keys ≠ [] ∧ (o.stable = true ∨ o.unique = true))
  · rw [if_pos h, if_pos (e5.2 h)]
  · rw [if_neg h, if_neg (fun h' => h (e5.1 h'))]
theorem mergeRes_big {lt : ByteArray → ByteArray → Bool} {told : List ByteArray → List ByteArray} {l : List ByteArray} {T : ByteArray} {E : Int} (h : MergeRes lt told l T E) (hb : bigM l = true) : T = ⟨#[]⟩ ∧ E = 2 := by
  rcases h with ⟨_, h1, h2⟩ | ⟨h0, _⟩ | ⟨h0, _⟩
  · exact ⟨h1, h2⟩
  · rw [hb] at h0; cases h0
  · rw [hb] at h0; cases h0
theorem mergeRes_falls {lt : ByteArray → ByteArray → Bool} {told : List ByteArray → List ByteArray} {l : List ByteArray} {T : ByteArray} {E : Int} (h : MergeRes lt told l T E) (hb : bigM l = false) (hf : ∃ r ∈ l.map linesOf, ¬ Srt lt r) : T = ⟨#[]⟩ ∧ E = 9 := by
  rcases h with ⟨h0, _⟩ | ⟨_, _, h1, h2⟩ | ⟨_, h0, _⟩
  · rw [hb] at h0; cases h0
  · exact ⟨h1, h2⟩
  · obtain ⟨r, hr, hn⟩ := hf
    exact absurd (h0 r hr) hn
theorem mergeRes_good {lt : ByteArray → ByteArray → Bool} {told : List ByteArray → List ByteArray} {l : List ByteArray} {T : ByteArray} {E : Int} (h : MergeRes lt told l T E) (hb : bigM l = false) (hf : ∀ r ∈ l.map linesOf, Srt lt r) : T = mkB (resL (told (isrt lt (linesL l)))) ∧ E = 0 := by
  rcases h with ⟨h0, _⟩ | ⟨_, h0, _⟩ | ⟨_, _, h1, h2⟩
  · rw [hb] at h0; cases h0
  · obtain ⟨r, hr, hn⟩ := h0
    exact absurd (hf r hr) hn
  · exact ⟨h1, h2⟩
theorem bigM_of_big {l : List ByteArray} (h : ∃ s ∈ l, bigB s = true) : bigM l = true := by
  obtain ⟨s, hs, hb⟩ := h
  obtain ⟨k, hk, rfl⟩ := List.getElem_of_mem hs
  exact bigM_one hk hb
theorem bigM_of_bytes {l : List ByteArray} (h : 65536 < bytesL l) : bigM l = true := bigM_bytes (k := l.length) (by rw [List.take_length]; exact h)
theorem bigM_of_lines {l : List ByteArray} (h : 4096 < (linesL l).length) : bigM l = true := bigM_lines (k := l.length) (by rw [List.take_length]; exact h)
end Go.Pw
namespace Go.Proofs.YtkikbejpgfhfoaaGreatDoor
open Go.RowKit Go.Pw
theorem sortR_told (o : Sp) (L : List ByteArray) : sortR (ordCmp o) o.unique L = toldL o (isrt (ltOf (ordCmp o)) L) := by
  unfold toldL
  cases o.unique
  · exact sortR_plain (ordCmp_cmp3 o) _
  · exact sortR_unique (ordCmp_cmp3 o) _
theorem info_spec : (Tryz.prog.info? 24).map (·.size) = some 5 := by kernel_rfl
theorem results_sp {fn : Func} {p : Tmp} (h : fn.results = #[.cell p 24]) (tmps : Array Value) (w : World) (g : Nat) (o : Sp) (kv : Value)
    (hp : tmps.getD p undef = .pointer (some ⟨g, 0, none⟩)) (hg : SpIn w g 24 o kv) : (results fn tmps).run Tryz.prog w = .ok (spV o kv) w := by
  have hl := run_loadVar_row (P := Tryz.prog) w g 24 24 #[.string o.sep, kv, .bool o.reverse, .bool o.stable, .bool o.unique] (0, 0) _ hg Tryz.underlying24 rfl info_spec
  have hp' : tmps[p]?.getD undef = .pointer (some ⟨g, 0, none⟩) := by simpa using hp
  simp [results, h, hp', asAddr, hl, Result.andThen, spV]
set_option maxHeartbeats 1000000 in
set_option maxRecDepth 100000 in
theorem unstable_any (o : Sp) (A : Option Addr) (n cap : Nat) (w : World) :
    Calls Tryz.prog 13 #[spV o (.slice A n cap), spV { o with unique := false } (.slice A n cap)] w fun e w' => e = .returned (spV o.loose (.slice A n cap)) ∧ Below w.heap.size w w' := by
  have HL : Hid (spV o.loose (.slice A n cap) = .agg #[.string o.sep, .slice A n cap, .bool o.reverse, .bool (o.stable || o.unique), .bool false]) := hide rfl
  unfold spV at *
  obtain ⟨u, hu⟩ : ∃ u, o.unique = u := ⟨_, rfl⟩
  rw [hu] at HL ⊢
  go_enter Tryz.func13, Tryz.ntmps13
  cases u
  · go_wp2_with fail
    have hsp : SpIn (((w.alloc (.cells #[.string o.sep, .slice A n cap, .bool o.reverse, .bool o.stable, .bool false] 24)).alloc (.cells #[.string o.sep, .slice A n cap, .bool o.reverse, .bool o.stable, .bool false] 24)).alloc (.cells #[.string o.sep, .slice A n cap, .bool o.reverse, .bool o.stable, .bool false] 24)) (w.heap.size + 1 + 1) 24 { o with stable := o.stable, unique := false } (.slice A n cap) := by
      have := heap_alloc_new ((w.alloc (.cells #[.string o.sep, .slice A n cap, .bool o.reverse, .bool o.stable, .bool false] 24)).alloc (.cells #[.string o.sep, .slice A n cap, .bool o.reverse, .bool o.stable, .bool false] 24)) (.cells #[.string o.sep, .slice A n cap, .bool o.reverse, .bool o.stable, .bool false] 24)
      rw [World.size_alloc, World.size_alloc] at this
      exact this
    (try simp only [Exit.inBlock, Exit.then])
    refine bodyPost_ret (results_sp rfl _ _ _ _ _ rfl hsp) rfl ?_
    exact ⟨by rw [HL.out]; simp [spV], (((Below.refl _ _).alloc (Nat.le_refl _) _).alloc (by simp) _).alloc (by simp; omega) _⟩
  · go_wp2_with fail
    have hsp : SpIn (((w.alloc (.cells #[.string o.sep, .slice A n cap, .bool o.reverse, .bool o.stable, .bool true] 24)).alloc (.cells #[.string o.sep, .slice A n cap, .bool o.reverse, .bool true, .bool false] 24)).alloc (.cells #[.string o.sep, .slice A n cap, .bool o.reverse, .bool true, .bool false] 24)) (w.heap.size + 1 + 1) 24 { o with stable := true, unique := false } (.slice A n cap) := by
      have := heap_alloc_new ((w.alloc (.cells #[.string o.sep, .slice A n cap, .bool o.reverse, .bool o.stable, .bool true] 24)).alloc (.cells #[.string o.sep, .slice A n cap, .bool o.reverse, .bool true, .bool false] 24)) (.cells #[.string o.sep, .slice A n cap, .bool o.reverse, .bool true, .bool false] 24)
      rw [World.size_alloc, World.size_alloc] at this
      exact this
    (try simp only [Exit.inBlock, Exit.then])
    refine bodyPost_ret (results_sp rfl _ _ _ _ _ rfl hsp) rfl ?_
    exact ⟨by rw [HL.out]; simp [spV], (((Below.refl _ _).alloc (Nat.le_refl _) _).alloc (by simp) _).alloc (by simp; omega) _⟩
set_option maxHeartbeats 8000000 in
set_option maxRecDepth 100000 in
theorem mergeMatches_good (o : Sp) (kv v : Value) (l : List ByteArray) (w : World) (hk : KeysIn w kv o.keys) (h : Strs w v l) (hby : bytesL l ≤ 1500000) (he : mergeErr0 o l = 0) :
    Calls Tryz.prog 3 #[spV o kv, v] w fun e w' => e = .returned (.bool true) ∧ Below w.heap.size w w' := by
  obtain ⟨A, cap, rfl⟩ : ∃ A cap, kv = .slice A o.keys.length cap := by
    obtain ⟨_, A, cap, h, _⟩ := hk
    exact ⟨A, cap, h⟩
  obtain ⟨he0, h0, h16⟩ : ordErr o = 0 ∧ l.length ≠ 0 ∧ l.length ≤ 16 := by
    unfold mergeErr0 at he
    simp only [firstNZ] at he
    by_cases h1 : ordErr o = 0
    · by_cases h2 : l.length = 0
      · simp [h1, h2] at he
      · by_cases h3 : 16 < l.length
        · simp [h1, h2, h3] at he
        · exact ⟨h1, h2, by omega⟩
    · rw [if_neg h1] at he; exact absurd he h1
  have hz : ∀ s ∈ l, s.size ≤ 1500000 := fun s hs => Nat.le_trans (bytesL_mem hs) hby
  have hB0 := ((Below.refl w.heap.size w).alloc (Nat.le_refl _) (.cells #[.string o.sep, (.slice A o.keys.length cap), .bool o.reverse, .bool o.stable, .bool o.unique] 24))
  have HN0 : Hid (SpIn (w.alloc (.cells #[.string o.sep, (.slice A o.keys.length cap), .bool o.reverse, .bool o.stable, .bool o.unique] 24)) w.heap.size 24 o (.slice A o.keys.length cap)) := hide (heap_alloc_new _ _)
  have HB0 := hide hB0
  have HK := hide hk
  have HGD := hide (good_of_valid he0)
  have HMB := hide (fun W hb => textMerge_any o (.slice A o.keys.length cap) v l W (HK.out.below hb) (h.below hb) (fun s hs => by have := hz s hs; omega) he)
  have HOE := hide (fun W h => orderError_any o (.slice A o.keys.length cap) W h (sep_size he0))
  rw [he0] at HOE
  obtain ⟨x1, x2, e1, e2, g1, g2⟩ := mergeWhens l
  rw [if_neg h0] at e1
  rw [if_neg (by omega)] at e2
  subst e1 e2
  have HG1 := hide g1
  have HG2 := hide g2
  obtain ⟨⟨_, A2, c2, rfl, hcap, hmax, hx⟩, _⟩ := h
  unfold maxLen at hmax
  have HX := hide hx
  have HZ := hide hz
  have HBY := hide (fun k => bytesL_le l k)
  have HLB := hide (fun k => Nat.le_trans (linesL_le l k) (linesL_bound l))
  clear g1 g2 hk hB0 hx hz
  unfold spV at HMB HOE ⊢
  go_enter Tryz.func3, Tryz.ntmps3
  go_wp2_with fail
  refine (HMB.out _ HB0.out).mono ?_
  rintro e w1 ⟨⟨T, E, rfl, hres⟩, hb1⟩
  have HRES := hide hres
  have HB1 := hide (HB0.out.trans (hb1.mono (by simp)))
  have HN1 := hide (HN0.out.below hb1 (by simp))
  clear hb1 hres
  obtain ⟨c0, c1, c2', c3, c4⟩ := HN1.out.cells
  go_wp2_with fail
  refine (HOE.out _ (HK.out.below HB1.out)).mono ?_
  rintro e w3 ⟨rfl, hb3⟩
  have HB3 := hide (HB1.out.trans (hb3.mono HB1.out.size))
  have HN3 := hide (HN1.out.below hb3 HN1.out.lt)
  clear hb3 c0 c1 c2' c3 c4
  go_wp2_with fail
  refine (HG1.out _).mono ?_
  rintro e w' ⟨rfl, rfl⟩
  go_wp2_with fail
  refine (HG2.out _).mono ?_
  rintro e w' ⟨rfl, rfl⟩
  go_wp2_with fail
  refine (firstThree'_any _ _ _ _).mono ?_
  rintro e w4 ⟨rfl, rfl⟩
  rw [show firstNZ [(0 : Int), 0, 0] = 0 from rfl]
  have hal := (Below.refl w3.heap.size w3).alloc (Nat.le_refl _) (.cells #[.int .i64 0, .int .i64 0, .int .i64 0] 26)
  have HB4 := hide (HB3.out.trans (hal.mono HB3.out.size))
  have HN4 := hide (HN3.out.below hal HN3.out.lt)
  obtain ⟨w4, hw4⟩ : ∃ w4, w3.alloc (.cells #[.int .i64 0, .int .i64 0, .int .i64 0] 26) = w4 := ⟨_, rfl⟩
  rw [hw4] at HB4 HN4 ⊢
  clear hw4 hal
  go_wp2_with fail
  go_loopw [7, 8, 9, 35] (fun want al many i wr => ∃ (k : Nat) (L' : List ByteArray), k ≤ l.length ∧ i = .int .i64 (k : Int) ∧ many = .int .i64 (bytesL (l.take k) : Int) ∧ Hid (OwnS 9 wr w4.heap.size al L') ∧ L'.length ≤ 3000000 ∧ Hid (Below w4.heap.size w4 wr) ∧ ((want = .int .i64 0 ∧ Hid (∀ s ∈ l.take k, bigB s = false) ∧ Hid (L' = linesL (l.take k))) ∨ (want = .int .i64 2 ∧ Hid (∃ s ∈ l, bigB s = true)))) (fun _ _ _ i _ => l.length - (intOf i).toNat)
  case atStart => exact ⟨0, [], by omega, rfl, rfl, World.ownsRow_nil _ _ _ _, by simp, Below.refl _ _, .inl ⟨rfl, hide (fun s h => by simp at h), hide rfl⟩⟩
  case round =>
    obtain ⟨k, L', hk, rfl, rfl, HO, hLl, HB, hst⟩ := hrel
    by_cases hlt : k < l.length
    · obtain ⟨b3, o3, rfl, hb3, hj3⟩ := HX.out (by omega)
      have hww : Below w.heap.size w wr := HB4.out.trans (HB.out.mono HB4.out.size)
      have hc : wr.cell? ⟨b3, o3 + k, none⟩ = some (.string l[k]) := (hww.cell (p := ⟨b3, o3 + k, none⟩) hb3).trans (hj3 k _ (by simp [hlt]))
      have hs := bytesL_snoc l k hlt
      have hle := HBY.out (k + 1)
      have hyz := HZ.out _ (List.getElem_mem hlt)
      have HLN := hide (linesL_snoc l k hlt)
      have HMEM := hide (List.getElem_mem hlt)
      have HTG : Hid (∀ s ∈ l.take (k + 1), s ∈ l.take k ∨ s = l[k]) := hide (fun s hs => by
        rw [List.take_succ_eq_append_getElem hlt] at hs
        rcases List.mem_append.1 hs with hs | hs
        · exact .inl hs
        · simp at hs; exact .inr hs)
      have HLBK := hide (HLB.out (k + 1))
      obtain ⟨y, hy⟩ : ∃ y, l[k] = y := ⟨_, rfl⟩
      rw [hy] at hc hs hyz HLN HMEM HTG
      obtain ⟨b0, hb0⟩ : ∃ b, bytesL (l.take k) = b := ⟨_, rfl⟩
      obtain ⟨b1, hb1⟩ : ∃ b, bytesL (l.take (k + 1)) = b := ⟨_, rfl⟩
      rw [hb1, hb0] at hs
      rw [hb1] at hle
      rw [hb0]
      have hs' : (b0 : Int) + (y.size : Int) = (b1 : Int) := by omega
      have hb1b : (b1 : Int) ≤ 3000000 := by omega
      have HB1' := hide hb1
      clear hs hle hb0 hb1 hj3 hy
      have hd4 : (k : Int) < (l.length : Int) := by omega
      rcases hst with ⟨rfl, HG, HL'⟩ | ⟨rfl, HBG⟩
      · have HLG := hide (fun W => largeM_any y W (by unfold maxLen; omega))
        obtain ⟨n7, hn7⟩ : ∃ n : Int, (if bigB y then (2 : Int) else 0) = n := ⟨_, rfl⟩
        have HN7 := hide hn7
        simp only [hn7] at HLG
        clear hn7 hww
        go_wp2_with fail
        refine (HLG.out _).mono ?_
        rintro e w5 ⟨rfl, hb5⟩
        have HB5 := hide (HB.out.trans (hb5.mono HB.out.size))
        have HO5 := hide (own_below HO.out hb5)
        clear hb5 hc
        go_wp2_with fail
        refine (linesOf_any y _ (by omega)).mono ?_
        rintro e w6 ⟨v6, rfl, ho6, hb6⟩
        have HB6 := hide (HB5.out.trans (hb6.mono HB5.out.size))
        have HO6 := hide (own_below HO5.out hb6)
        have hly := linesOf_bound y
        have HS6 := hide (ho6.strs (fun x hx => by have := hly.2 x hx; unfold maxLen; omega))
        have hlen6 : (linesOf y).length ≤ 1500001 := by have := hly.1; omega
        have hz6 := HB6.out.size
        clear hb6 ho6 hly
        obtain ⟨m, hm⟩ : ∃ m, linesOf y = m := ⟨_, rfl⟩
        rw [hm] at HS6 hlen6 HLN
        clear hm
        obtain ⟨LA, lc, rfl⟩ := own_slice HO.out
        have hown := HO6.out
        unfold OwnS at hown
        have HBG' : Hid (L'.length + m.length ≤ 1000000000000) := hide (by omega)
        go_wp2_with (at_builtin; refine wpList_app_strs rfl _ _ rfl w4.heap.size _ L' rfl hown _ m rfl HS6.out HBG'.out hz6 ?_)
        intro v' w7 hown' hgrow
        have HO7 : Hid (OwnS 9 w7 w4.heap.size v' (linesL (l.take (k + 1)))) := hide (by rw [HLN.out, ← HL'.out]; unfold OwnS; rw [List.length_append, List.map_append]; simpa using hown')
        have HB7 := hide (HB6.out.trans ((Below.refl _ _).grown hgrow hz6 (own_ge hown)))
        clear hown hown' hgrow
        go_wp2_with fail
        go_roundw
        case rel =>
          refine ⟨k + 1, linesL (l.take (k + 1)), by omega, by go_num, by rw [HB1'.out], HO7, by have := HLBK.out; omega, HB7, ?_⟩
          have hn := HN7.out
          cases hbig : bigB y
          · rw [hbig] at hn
            subst hn
            refine .inl ⟨rfl, hide (fun s hs => ?_), hide rfl⟩
            rcases HTG.out s hs with h1 | h1
            · exact HG.out s h1
            · subst h1; exact hbig
          · rw [hbig] at hn
            subst hn
            exact .inr ⟨rfl, hide ⟨y, HMEM.out, hbig⟩⟩
        case measure => simp [intOf]; omega
      · go_wp2_with fail
        go_roundw
        case rel => exact ⟨k + 1, L', by omega, by go_num, by rw [HB1'.out], HO, hLl, HB, .inr ⟨rfl, HBG⟩⟩
        case measure => simp [intOf]; omega
    · obtain rfl : k = l.length := by omega
      rw [List.take_length] at hst ⊢
      have hd4 : ¬ ((l.length : Int) < (l.length : Int)) := by omega
      have HBX := hide (HB4.out.trans (HB.out.mono HB4.out.size))
      have HNX := hide (HN4.out.below HB.out HN4.out.lt)
      have HBB := hide (bigM_of_bytes (l := l))
      have HBL := hide (bigM_of_lines (l := l))
      obtain ⟨LA0, lc0, rfl⟩ := own_slice HO.out
      rcases hst with ⟨rfl, HG, HL'⟩ | ⟨rfl, HBG⟩
      · have hLL := HL'.out
        subst hLL
        by_cases hb : 65536 < bytesL l
        · obtain ⟨rfl, rfl⟩ := mergeRes_big HRES.out (HBB.out hb)
          obtain ⟨b0, hb0⟩ : ∃ b, bytesL l = b := ⟨_, rfl⟩
          rw [hb0] at hb ⊢
          have hd5 : (65536 : Int) < (b0 : Int) := by omega
          clear hb0 hby HBY
          go_wp2_with fail
          refine (when_any _ _ _).mono ?_
          rintro e w' ⟨rfl, rfl⟩
          go_wp2_with fail
          refine (firstTwo2_any _ _ _).mono ?_
          rintro e w5 ⟨rfl, rfl⟩
          rw [show firstNZ [(0 : Int), 2] = 2 from rfl]
          have hal := (Below.refl wr.heap.size wr).alloc (Nat.le_refl _) (.cells #[.int .i64 (0 : Int), .int .i64 2] 26)
          have HB5 := hide (HBX.out.trans (hal.mono HBX.out.size))
          have HN5 := hide (HNX.out.below hal HNX.out.lt)
          obtain ⟨w5, hw5⟩ : ∃ w5, wr.alloc (.cells #[.int .i64 (0 : Int), .int .i64 2] 26) = w5 := ⟨_, rfl⟩
          rw [hw5] at HB5 HN5 ⊢
          clear hw5 hal
          obtain ⟨c0, c1, c2', c3, c4⟩ := HN5.out.cells
          have hal := (Below.refl w5.heap.size w5).alloc (Nat.le_refl _) (.cells #[.string o.sep, (.slice A o.keys.length cap), .bool o.reverse, .bool o.stable, .bool false] 24)
          have HB6 := hide (HB5.out.trans (hal.mono HB5.out.size))
          clear hal
          go_wp2_with fail
          obtain ⟨w6, hw6⟩ : ∃ w6, w5.alloc (.cells #[.string o.sep, (.slice A o.keys.length cap), .bool o.reverse, .bool o.stable, .bool false] 24) = w6 := ⟨_, rfl⟩
          rw [hw6] at HB6 ⊢
          clear hw6 c0 c1 c2' c3 c4
          go_loop [7, 68] (fun want i => want = .int .i64 2 ∧ ∃ k : Nat, k ≤ l.length ∧ i = .int .i64 (k : Int)) (fun _ i => l.length - (intOf i).toNat)
          case atStart => exact ⟨rfl, 0, by omega, rfl⟩
          case round =>
            obtain ⟨rfl, k, hk, rfl⟩ := hrel
            by_cases hlt : k < l.length
            · obtain ⟨b3, o3, rfl, hb3, hj3⟩ := HX.out (by omega)
              have hc : w6.cell? ⟨b3, o3 + k, none⟩ = some (.string l[k]) := (HB6.out.cell (p := ⟨b3, o3 + k, none⟩) hb3).trans (hj3 k _ (by simp [hlt]))
              have hd4 : (k : Int) < (l.length : Int) := by omega
              clear hj3
              go_wp2_with fail
              go_round
              case rel => exact ⟨rfl, k + 1, by omega, by go_num⟩
              case measure => simp [intOf]; omega
            · obtain rfl : k = l.length := by omega
              have hd4 : ¬ ((l.length : Int) < (l.length : Int)) := by omega
              go_wp2_with fail
              refine (sorts_any _).mono ?_
              rintro e w7 ⟨rfl, hb7⟩
              have HB7 := hide (HB6.out.trans (hb7.mono HB6.out.size))
              clear hb7
              go_wp2_with fail
              refine (sorts_any _).mono ?_
              rintro e w8 ⟨rfl, hb8⟩
              have HB8 := hide (HB7.out.trans (hb8.mono HB7.out.size))
              clear hb8
              go_wp2_with fail
              go_ret
              exact ⟨ret_bool (by simp), HB8.out⟩
        · by_cases hc : 4096 < (linesL l).length
          · obtain ⟨rfl, rfl⟩ := mergeRes_big HRES.out (HBL.out hc)
            obtain ⟨b0, hb0⟩ : ∃ b, bytesL l = b := ⟨_, rfl⟩
            obtain ⟨c9, hc9⟩ : ∃ c, (linesL l).length = c := ⟨_, rfl⟩
            rw [hb0] at hb ⊢
            rw [hc9] at hc ⊢
            have hd5 : ¬ ((65536 : Int) < (b0 : Int)) := by omega
            have hd6 : (4096 : Int) < (c9 : Int) := by omega
            clear hb0 hby HBY
            go_wp2_with fail
            refine (when_any _ _ _).mono ?_
            rintro e w' ⟨rfl, rfl⟩
            go_wp2_with fail
            refine (firstTwo2_any _ _ _).mono ?_
            rintro e w5 ⟨rfl, rfl⟩
            rw [show firstNZ [(0 : Int), 2] = 2 from rfl]
            have hal := (Below.refl wr.heap.size wr).alloc (Nat.le_refl _) (.cells #[.int .i64 (0 : Int), .int .i64 2] 26)
            have HB5 := hide (HBX.out.trans (hal.mono HBX.out.size))
            have HN5 := hide (HNX.out.below hal HNX.out.lt)
            obtain ⟨w5, hw5⟩ : ∃ w5, wr.alloc (.cells #[.int .i64 (0 : Int), .int .i64 2] 26) = w5 := ⟨_, rfl⟩
            rw [hw5] at HB5 HN5 ⊢
            clear hw5 hal
            obtain ⟨c0, c1, c2', c3, c4⟩ := HN5.out.cells
            have hal := (Below.refl w5.heap.size w5).alloc (Nat.le_refl _) (.cells #[.string o.sep, (.slice A o.keys.length cap), .bool o.reverse, .bool o.stable, .bool false] 24)
            have HB6 := hide (HB5.out.trans (hal.mono HB5.out.size))
            clear hal
            go_wp2_with fail
            obtain ⟨w6, hw6⟩ : ∃ w6, w5.alloc (.cells #[.string o.sep, (.slice A o.keys.length cap), .bool o.reverse, .bool o.stable, .bool false] 24) = w6 := ⟨_, rfl⟩
            rw [hw6] at HB6 ⊢
            clear hw6 c0 c1 c2' c3 c4
            go_loop [7, 68] (fun want i => want = .int .i64 2 ∧ ∃ k : Nat, k ≤ l.length ∧ i = .int .i64 (k : Int)) (fun _ i => l.length - (intOf i).toNat)
            case atStart => exact ⟨rfl, 0, by omega, rfl⟩
            case round =>
              obtain ⟨rfl, k, hk, rfl⟩ := hrel
              by_cases hlt : k < l.length
              · obtain ⟨b3, o3, rfl, hb3, hj3⟩ := HX.out (by omega)
                have hc : w6.cell? ⟨b3, o3 + k, none⟩ = some (.string l[k]) := (HB6.out.cell (p := ⟨b3, o3 + k, none⟩) hb3).trans (hj3 k _ (by simp [hlt]))
                have hd4 : (k : Int) < (l.length : Int) := by omega
                clear hj3
                go_wp2_with fail
                go_round
                case rel => exact ⟨rfl, k + 1, by omega, by go_num⟩
                case measure => simp [intOf]; omega
              · obtain rfl : k = l.length := by omega
                have hd4 : ¬ ((l.length : Int) < (l.length : Int)) := by omega
                go_wp2_with fail
                refine (sorts_any _).mono ?_
                rintro e w7 ⟨rfl, hb7⟩
                have HB7 := hide (HB6.out.trans (hb7.mono HB6.out.size))
                clear hb7
                go_wp2_with fail
                refine (sorts_any _).mono ?_
                rintro e w8 ⟨rfl, hb8⟩
                have HB8 := hide (HB7.out.trans (hb8.mono HB7.out.size))
                clear hb8
                go_wp2_with fail
                go_ret
                exact ⟨ret_bool (by simp), HB8.out⟩
          · have HBM : Hid (bigM l = false) := hide (bigM_all (fun k hk => HG.out _ (List.getElem_mem hk)) (by omega) (by omega))
            have HNB := HG
            have HLN : Hid ((linesL l).length ≤ 4096) := hide (by omega)
            have HLX : Hid (∀ x ∈ linesL l, x.size ≤ 65536) := hide (fun x hx => by
              obtain ⟨r, hr, hxr⟩ := List.mem_flatten.1 hx
              obtain ⟨s, hs, rfl⟩ := List.mem_map.1 hr
              exact (bigB_no' (HG.out s hs)).2.2 x hxr)
            have hd5 : ¬ ((65536 : Int) < (bytesL l : Int)) := by omega
            have hd6 : ¬ ((4096 : Int) < ((linesL l).length : Int)) := by omega
            go_wp2_with fail
            refine (when_any _ _ _).mono ?_
            rintro e w' ⟨rfl, rfl⟩
            go_wp2_with fail
            refine (firstTwo2_any _ _ _).mono ?_
            rintro e w5 ⟨rfl, rfl⟩
            rw [show firstNZ [(0 : Int), 0] = 0 from rfl]
            have hal := (Below.refl wr.heap.size wr).alloc (Nat.le_refl _) (.cells #[.int .i64 0, .int .i64 0] 26)
            have HB5 := hide (HBX.out.trans (hal.mono HBX.out.size))
            have HN5 := hide (HNX.out.below hal HNX.out.lt)
            have HO5 := hide (own_below HO.out hal)
            have HA5 := hide (HB.out.trans (hal.mono HB.out.size))
            obtain ⟨w5, hw5⟩ : ∃ w5, wr.alloc (.cells #[.int .i64 0, .int .i64 0] 26) = w5 := ⟨_, rfl⟩
            rw [hw5] at HB5 HN5 HO5 HA5 ⊢
            clear hw5 hal
            obtain ⟨c0, c1, c2', c3, c4⟩ := HN5.out.cells
            have hal := (Below.refl w5.heap.size w5).alloc (Nat.le_refl _) (.cells #[.string o.sep, (.slice A o.keys.length cap), .bool o.reverse, .bool o.stable, .bool false] 24)
            have HB6 := hide (HB5.out.trans (hal.mono HB5.out.size))
            have HN6 := hide (HN5.out.below hal HN5.out.lt)
            have HO6 := hide (own_below HO5.out hal)
            have HA6 := hide (HA5.out.trans (hal.mono HA5.out.size))
            have HP6 : Hid (SpIn (w5.alloc (.cells #[.string o.sep, (.slice A o.keys.length cap), .bool o.reverse, .bool o.stable, .bool false] 24)) w5.heap.size 24 { o with unique := false } (.slice A o.keys.length cap)) := hide (heap_alloc_new _ _)
            clear hal
            go_wp2_with fail
            obtain ⟨w6, hw6⟩ : ∃ w6, w5.alloc (.cells #[.string o.sep, (.slice A o.keys.length cap), .bool o.reverse, .bool o.stable, .bool false] 24) = w6 := ⟨_, rfl⟩
            rw [hw6] at HB6 HN6 HO6 HA6 HP6 ⊢
            clear hw6 c0 c1 c2' c3 c4 HO5 HA5 HN5 HO HB

            go_loopw [7, 68] (fun want i wq => ∃ k : Nat, k ≤ l.length ∧ i = .int .i64 (k : Int) ∧ Hid (SpIn wq w.heap.size 24 o (.slice A o.keys.length cap)) ∧ Hid (SpIn wq w5.heap.size 24 { o with unique := false } (.slice A o.keys.length cap)) ∧ Hid (OwnS 9 wq w4.heap.size (.slice LA0 (linesL l).length lc0) (linesL l)) ∧ Hid (Below w.heap.size w wq) ∧ ((want = .int .i64 0 ∧ Hid (∀ r ∈ (l.take k).map linesOf, Srt (ltOf (ordCmp o)) r)) ∨ (want = .int .i64 9 ∧ Hid (∃ r ∈ l.map linesOf, ¬ Srt (ltOf (ordCmp o)) r)))) (fun _ i _ => l.length - (intOf i).toNat)
            case atStart => exact ⟨0, by omega, rfl, HN6, HP6, HO6, HB6, .inl ⟨rfl, hide (fun r h => by simp at h)⟩⟩
            case round =>
              clear HN6 HP6 HO6 HB6 HA6
              obtain ⟨k, hk, rfl, HN, HP, HL, HW, hst⟩ := hrel
              by_cases hlt : k < l.length
              · obtain ⟨b3, o3, rfl, hb3, hj3⟩ := HX.out (by omega)
                have hc : wr.cell? ⟨b3, o3 + k, none⟩ = some (.string l[k]) := (HW.out.cell (p := ⟨b3, o3 + k, none⟩) hb3).trans (hj3 k _ (by simp [hlt]))
                have hd4 : (k : Int) < (l.length : Int) := by omega
                have HME : Hid (linesOf l[k] ∈ l.map linesOf) := hide (List.mem_map.2 ⟨_, List.getElem_mem hlt, rfl⟩)
                have HTK : Hid ((l.take (k + 1)).map linesOf = (l.take k).map linesOf ++ [linesOf l[k]]) := hide (by rw [List.take_succ_eq_append_getElem hlt, List.map_append]; rfl)
                obtain ⟨hys, hyl, hyx⟩ := bigB_no' (HNB.out _ (List.getElem_mem hlt))
                have HYX := hide hyx
                obtain ⟨y, hy⟩ : ∃ y, l[k] = y := ⟨_, rfl⟩
                rw [hy] at hc HME HTK hys hyl HYX
                clear hj3 hy hyx
                rcases hst with ⟨rfl, HS⟩ | ⟨rfl, HF⟩
                · go_wp2_with fail
                  refine (briefM_any _ _).mono ?_
                  rintro e w' ⟨rfl, rfl⟩
                  cases hbr : decide (y.size ≤ 3000)
                  · clear hbr
                    go_wp2_with fail
                    go_ret
                    exact ⟨rfl, HW.out⟩
                  · clear hbr
                    obtain ⟨c0, c1, c2', c3, c4⟩ := HN.out.cells
                    obtain ⟨d0, d1, d2, d3, d4⟩ := HP.out.cells
                    have HUS := hide (fun W => unstable_any o A o.keys.length cap W)
                    unfold spV at HUS
                    go_wp2_with fail
                    refine (HUS.out _).mono ?_
                    rintro e w7 ⟨rfl, hb7⟩
                    have HW7 := hide (HW.out.trans (hb7.mono HW.out.size))
                    have HN7 := hide (HN.out.below hb7 HN.out.lt)
                    have HP7 := hide (HP.out.below hb7 HP.out.lt)
                    have HL7 := hide (own_below HL.out hb7)
                    clear hb7 c0 c1 c2' c3 c4 d0 d1 d2 d3 d4
                    go_wp2_with fail
                    refine (linesOf_any y _ (by omega)).mono ?_
                    rintro e w8 ⟨v8, rfl, ho8, hb8⟩
                    have HW8 := hide (HW7.out.trans (hb8.mono HW7.out.size))
                    have HN8 := hide (HN7.out.below hb8 HN7.out.lt)
                    have HP8 := hide (HP7.out.below hb8 HP7.out.lt)
                    have HL8 := hide (own_below HL7.out hb8)
                    have hst8 := ho8.strs (fun x hx => by have := HYX.out x hx; unfold maxLen; omega)
                    obtain ⟨r, hr⟩ := unord_exists (ordCmp o.loose) false (linesOf y)
                    have hun := unorderedR_any o.loose (.slice A o.keys.length cap) v8 (linesOf y) r w8 (HK.out.below HW8.out) HGD.out hst8 (fun x hx => by have := HYX.out x hx; omega) (by omega) (hide hr)
                    rw [ordCmp_loose] at hr
                    have HUS2 := hide (unord_srt (ordCmp_cmp3 o) hr)
                    unfold spV at hun
                    have HUN := hide hun
                    clear hb8 ho8 hst8 hr hun HN7 HP7 HL7
                    go_wp2_with fail
                    refine HUN.out.mono ?_
                    rintro e w9 ⟨rfl, hb9⟩
                    have HW9 := hide (HW8.out.trans (hb9.mono HW8.out.size))
                    have HN9 := hide (HN8.out.below hb9 HN8.out.lt)
                    have HP9 := hide (HP8.out.below hb9 HP8.out.lt)
                    have HL9 := hide (own_below HL8.out hb9)
                    clear hb9 HUN HN8 HP8 HL8
                    by_cases hr0 : 0 < r
                    · have HF9 := hide (HUS2.out.1.1 hr0)
                      go_wp2_with fail
                      go_roundw
                      case rel => exact ⟨k + 1, by omega, by go_num, HN9, HP9, HL9, HW9, .inr ⟨rfl, hide ⟨_, HME.out, HF9.out⟩⟩⟩
                      case measure => simp [intOf]; omega
                    · have HS9 := hide (Classical.byContradiction fun h => hr0 (HUS2.out.1.2 h))
                      go_wp2_with fail
                      go_roundw
                      case rel =>
                        refine ⟨k + 1, by omega, by go_num, HN9, HP9, HL9, HW9, .inl ⟨rfl, hide (fun q hq => ?_)⟩⟩
                        rw [HTK.out] at hq
                        rcases List.mem_append.1 hq with hq | hq
                        · exact HS.out q hq
                        · simp at hq
                          subst hq
                          exact HS9.out
                      case measure => simp [intOf]; omega
                · go_wp2_with fail
                  go_roundw
                  case rel => exact ⟨k + 1, by omega, by go_num, HN, HP, HL, HW, .inr ⟨rfl, HF⟩⟩
                  case measure => simp [intOf]; omega
              · obtain rfl : k = l.length := by omega
                have hd4 : ¬ ((l.length : Int) < (l.length : Int)) := by omega
                rw [List.take_length] at hst
                rcases hst with ⟨rfl, HS⟩ | ⟨rfl, HF⟩
                · obtain ⟨rfl, rfl⟩ := mergeRes_good HRES.out HBM.out HS.out
                  have hLst := HL.out.strs (fun x hx => by have := HLX.out x hx; unfold maxLen; omega)
                  have HLS8 := hide hLst
                  go_wp2_with fail
                  refine (sorts_any _).mono ?_
                  rintro e w7 ⟨rfl, hb7⟩
                  have HW7 := hide (HW.out.trans (hb7.mono HW.out.size))
                  have HN7 := hide (HN.out.below hb7 HN.out.lt)
                  have HV7 := hide (HLS8.out.below hb7)
                  clear hb7 hLst
                  obtain ⟨c0, c1, c2', c3, c4⟩ := HN7.out.cells
                  have hsr := sortedR_any o (.slice A o.keys.length cap) _ (linesL l) w7 (HK.out.below HW7.out) HGD.out HV7.out (fun x hx => by have := HLX.out x hx; omega) (by have := HLN.out; omega)
                  rw [sortR_told] at hsr
                  unfold spV at hsr
                  have HSR := hide hsr
                  obtain ⟨M, hM⟩ : ∃ M, toldL o (isrt (ltOf (ordCmp o)) (linesL l)) = M := ⟨_, rfl⟩
                  rw [hM] at HSR ⊢
                  have HMX : Hid (M.length ≤ 4096 ∧ ∀ x ∈ M, x.size ≤ 65536) := hide (by
                    subst hM
                    refine ⟨?_, fun x hx => HLX.out x (isrt_mem _ (toldL_mem hx))⟩
                    have h1 := toldL_len o (isrt (ltOf (ordCmp o)) (linesL l))
                    rw [isrt_len] at h1
                    have := HLN.out
                    omega)
                  clear hM hsr
                  go_wp2_with fail
                  refine HSR.out.mono ?_
                  rintro e w8 ⟨v8, rfl, ho8, hb8⟩
                  have HW8 := hide (HW7.out.trans (hb8.mono HW7.out.size))
                  have hst8 := OwnS.strs ho8 (fun x hx => by have := HMX.out.2 x hx; unfold maxLen; omega)
                  have hrl := resL_le HMX.out.2
                  have hrm : M.length * (65536 + 1) ≤ 4096 * 65537 := Nat.mul_le_mul HMX.out.1 (Nat.le_refl _)
                  have HRS := hide (resultOf_any v8 M w8 hst8 (by omega))
                  clear ho8 hb8 hst8 hrl hrm HSR c0 c1 c2' c3 c4
                  go_wp2_with fail
                  refine HRS.out.mono ?_
                  rintro e w' ⟨rfl, rfl⟩
                  go_wp2_with fail
                  go_ret
                  exact ⟨ret_bool (by simp), HW8.out⟩
                · obtain ⟨rfl, rfl⟩ := mergeRes_falls HRES.out HBM.out HF.out
                  go_wp2_with fail
                  refine (sorts_any _).mono ?_
                  rintro e w7 ⟨rfl, hb7⟩
                  have HB7 := hide (HW.out.trans (hb7.mono HW.out.size))
                  clear hb7
                  go_wp2_with fail
                  refine (sorts_any _).mono ?_
                  rintro e w8 ⟨rfl, hb8⟩
                  have HB8 := hide (HB7.out.trans (hb8.mono HB7.out.size))
                  clear hb8
                  go_wp2_with fail
                  go_ret
                  exact ⟨ret_bool (by simp), HB8.out⟩
      · obtain ⟨rfl, rfl⟩ := mergeRes_big HRES.out (bigM_of_big HBG.out)
        obtain ⟨b0, hb0⟩ : ∃ b, bytesL l = b := ⟨_, rfl⟩
        rw [hb0]
        clear hb0 hby HBY
        by_cases hb : 65536 < b0
        · have hd5 : (65536 : Int) < (b0 : Int) := by omega
          go_wp2_with fail
          refine (when_any _ _ _).mono ?_
          rintro e w' ⟨rfl, rfl⟩
          go_wp2_with fail
          refine (firstTwo2_any _ _ _).mono ?_
          rintro e w5 ⟨rfl, rfl⟩
          rw [show firstNZ [(2 : Int), 2] = 2 from rfl]
          have hal := (Below.refl wr.heap.size wr).alloc (Nat.le_refl _) (.cells #[.int .i64 (2 : Int), .int .i64 2] 26)
          have HB5 := hide (HBX.out.trans (hal.mono HBX.out.size))
          have HN5 := hide (HNX.out.below hal HNX.out.lt)
          obtain ⟨w5, hw5⟩ : ∃ w5, wr.alloc (.cells #[.int .i64 (2 : Int), .int .i64 2] 26) = w5 := ⟨_, rfl⟩
          rw [hw5] at HB5 HN5 ⊢
          clear hw5 hal
          obtain ⟨c0, c1, c2', c3, c4⟩ := HN5.out.cells
          have hal := (Below.refl w5.heap.size w5).alloc (Nat.le_refl _) (.cells #[.string o.sep, (.slice A o.keys.length cap), .bool o.reverse, .bool o.stable, .bool false] 24)
          have HB6 := hide (HB5.out.trans (hal.mono HB5.out.size))
          clear hal
          go_wp2_with fail
          obtain ⟨w6, hw6⟩ : ∃ w6, w5.alloc (.cells #[.string o.sep, (.slice A o.keys.length cap), .bool o.reverse, .bool o.stable, .bool false] 24) = w6 := ⟨_, rfl⟩
          rw [hw6] at HB6 ⊢
          clear hw6 c0 c1 c2' c3 c4
          go_loop [7, 68] (fun want i => want = .int .i64 2 ∧ ∃ k : Nat, k ≤ l.length ∧ i = .int .i64 (k : Int)) (fun _ i => l.length - (intOf i).toNat)
          case atStart => exact ⟨rfl, 0, by omega, rfl⟩
          case round =>
            obtain ⟨rfl, k, hk, rfl⟩ := hrel
            by_cases hlt : k < l.length
            · obtain ⟨b3, o3, rfl, hb3, hj3⟩ := HX.out (by omega)
              have hc : w6.cell? ⟨b3, o3 + k, none⟩ = some (.string l[k]) := (HB6.out.cell (p := ⟨b3, o3 + k, none⟩) hb3).trans (hj3 k _ (by simp [hlt]))
              have hd4 : (k : Int) < (l.length : Int) := by omega
              clear hj3
              go_wp2_with fail
              go_round
              case rel => exact ⟨rfl, k + 1, by omega, by go_num⟩
              case measure => simp [intOf]; omega
            · obtain rfl : k = l.length := by omega
              have hd4 : ¬ ((l.length : Int) < (l.length : Int)) := by omega
              go_wp2_with fail
              refine (sorts_any _).mono ?_
              rintro e w7 ⟨rfl, hb7⟩
              have HB7 := hide (HB6.out.trans (hb7.mono HB6.out.size))
              clear hb7
              go_wp2_with fail
              refine (sorts_any _).mono ?_
              rintro e w8 ⟨rfl, hb8⟩
              have HB8 := hide (HB7.out.trans (hb8.mono HB7.out.size))
              clear hb8
              go_wp2_with fail
              go_ret
              exact ⟨ret_bool (by simp), HB8.out⟩
        · have hd5 : ¬ ((65536 : Int) < (b0 : Int)) := by omega
          by_cases hc : 4096 < L'.length
          · have hd6 : (4096 : Int) < (L'.length : Int) := by omega
            go_wp2_with fail
            refine (when_any _ _ _).mono ?_
            rintro e w' ⟨rfl, rfl⟩
            go_wp2_with fail
            refine (firstTwo2_any _ _ _).mono ?_
            rintro e w5 ⟨rfl, rfl⟩
            rw [show firstNZ [(2 : Int), 2] = 2 from rfl]
            have hal := (Below.refl wr.heap.size wr).alloc (Nat.le_refl _) (.cells #[.int .i64 (2 : Int), .int .i64 2] 26)
            have HB5 := hide (HBX.out.trans (hal.mono HBX.out.size))
            have HN5 := hide (HNX.out.below hal HNX.out.lt)
            obtain ⟨w5, hw5⟩ : ∃ w5, wr.alloc (.cells #[.int .i64 (2 : Int), .int .i64 2] 26) = w5 := ⟨_, rfl⟩
            rw [hw5] at HB5 HN5 ⊢
            clear hw5 hal
            obtain ⟨c0, c1, c2', c3, c4⟩ := HN5.out.cells
            have hal := (Below.refl w5.heap.size w5).alloc (Nat.le_refl _) (.cells #[.string o.sep, (.slice A o.keys.length cap), .bool o.reverse, .bool o.stable, .bool false] 24)
            have HB6 := hide (HB5.out.trans (hal.mono HB5.out.size))
            clear hal
            go_wp2_with fail
            obtain ⟨w6, hw6⟩ : ∃ w6, w5.alloc (.cells #[.string o.sep, (.slice A o.keys.length cap), .bool o.reverse, .bool o.stable, .bool false] 24) = w6 := ⟨_, rfl⟩
            rw [hw6] at HB6 ⊢
            clear hw6 c0 c1 c2' c3 c4
            go_loop [7, 68] (fun want i => want = .int .i64 2 ∧ ∃ k : Nat, k ≤ l.length ∧ i = .int .i64 (k : Int)) (fun _ i => l.length - (intOf i).toNat)
            case atStart => exact ⟨rfl, 0, by omega, rfl⟩
            case round =>
              obtain ⟨rfl, k, hk, rfl⟩ := hrel
              by_cases hlt : k < l.length
              · obtain ⟨b3, o3, rfl, hb3, hj3⟩ := HX.out (by omega)
                have hc : w6.cell? ⟨b3, o3 + k, none⟩ = some (.string l[k]) := (HB6.out.cell (p := ⟨b3, o3 + k, none⟩) hb3).trans (hj3 k _ (by simp [hlt]))
                have hd4 : (k : Int) < (l.length : Int) := by omega
                clear hj3
                go_wp2_with fail
                go_round
                case rel => exact ⟨rfl, k + 1, by omega, by go_num⟩
                case measure => simp [intOf]; omega
              · obtain rfl : k = l.length := by omega
                have hd4 : ¬ ((l.length : Int) < (l.length : Int)) := by omega
                go_wp2_with fail
                refine (sorts_any _).mono ?_
                rintro e w7 ⟨rfl, hb7⟩
                have HB7 := hide (HB6.out.trans (hb7.mono HB6.out.size))
                clear hb7
                go_wp2_with fail
                refine (sorts_any _).mono ?_
                rintro e w8 ⟨rfl, hb8⟩
                have HB8 := hide (HB7.out.trans (hb8.mono HB7.out.size))
                clear hb8
                go_wp2_with fail
                go_ret
                exact ⟨ret_bool (by simp), HB8.out⟩
          · have hd6 : ¬ ((4096 : Int) < (L'.length : Int)) := by omega
            go_wp2_with fail
            refine (when_any _ _ _).mono ?_
            rintro e w' ⟨rfl, rfl⟩
            go_wp2_with fail
            refine (firstTwo2_any _ _ _).mono ?_
            rintro e w5 ⟨rfl, rfl⟩
            rw [show firstNZ [(2 : Int), 0] = 2 from rfl]
            have hal := (Below.refl wr.heap.size wr).alloc (Nat.le_refl _) (.cells #[.int .i64 (2 : Int), .int .i64 0] 26)
            have HB5 := hide (HBX.out.trans (hal.mono HBX.out.size))
            have HN5 := hide (HNX.out.below hal HNX.out.lt)
            obtain ⟨w5, hw5⟩ : ∃ w5, wr.alloc (.cells #[.int .i64 (2 : Int), .int .i64 0] 26) = w5 := ⟨_, rfl⟩
            rw [hw5] at HB5 HN5 ⊢
            clear hw5 hal
            obtain ⟨c0, c1, c2', c3, c4⟩ := HN5.out.cells
            have hal := (Below.refl w5.heap.size w5).alloc (Nat.le_refl _) (.cells #[.string o.sep, (.slice A o.keys.length cap), .bool o.reverse, .bool o.stable, .bool false] 24)
            have HB6 := hide (HB5.out.trans (hal.mono HB5.out.size))
            clear hal
            go_wp2_with fail
            obtain ⟨w6, hw6⟩ : ∃ w6, w5.alloc (.cells #[.string o.sep, (.slice A o.keys.length cap), .bool o.reverse, .bool o.stable, .bool false] 24) = w6 := ⟨_, rfl⟩
            rw [hw6] at HB6 ⊢
            clear hw6 c0 c1 c2' c3 c4
            go_loop [7, 68] (fun want i => want = .int .i64 2 ∧ ∃ k : Nat, k ≤ l.length ∧ i = .int .i64 (k : Int)) (fun _ i => l.length - (intOf i).toNat)
            case atStart => exact ⟨rfl, 0, by omega, rfl⟩
            case round =>
              obtain ⟨rfl, k, hk, rfl⟩ := hrel
              by_cases hlt : k < l.length
              · obtain ⟨b3, o3, rfl, hb3, hj3⟩ := HX.out (by omega)
                have hc : w6.cell? ⟨b3, o3 + k, none⟩ = some (.string l[k]) := (HB6.out.cell (p := ⟨b3, o3 + k, none⟩) hb3).trans (hj3 k _ (by simp [hlt]))
                have hd4 : (k : Int) < (l.length : Int) := by omega
                clear hj3
                go_wp2_with fail
                go_round
                case rel => exact ⟨rfl, k + 1, by omega, by go_num⟩
                case measure => simp [intOf]; omega
              · obtain rfl : k = l.length := by omega
                have hd4 : ¬ ((l.length : Int) < (l.length : Int)) := by omega
                go_wp2_with fail
                refine (sorts_any _).mono ?_
                rintro e w7 ⟨rfl, hb7⟩
                have HB7 := hide (HB6.out.trans (hb7.mono HB6.out.size))
                clear hb7
                go_wp2_with fail
                refine (sorts_any _).mono ?_
                rintro e w8 ⟨rfl, hb8⟩
                have HB8 := hide (HB7.out.trans (hb8.mono HB7.out.size))
                clear hb8
                go_wp2_with fail
                go_ret
                exact ⟨ret_bool (by simp), HB8.out⟩
theorem mergeMatches_any (o : Sp) (kv v : Value) (l : List ByteArray) (w : World) (hk : KeysIn w kv o.keys) (hsep : o.sep.size ≤ maxLen) (h : Strs w v l) (hby : bytesL l ≤ 1100000) (hlen : l.length ≤ 1100000) :
    Calls Tryz.prog 3 #[spV o kv, v] w fun e w' => e = .returned (.bool true) ∧ Below w.heap.size w w' := by
  by_cases he : mergeErr0 o l = 0
  · exact mergeMatches_good o kv v l w hk h (by omega) he
  · exact mergeMatches_bad o kv v l _ w hk hsep h (by omega) (by omega) he rfl
end Go.Proofs.YtkikbejpgfhfoaaGreatDoor

/- OpenM -/
set_option linter.unusedVariables false
namespace Go.Proofs.YtkikbejpgfhfoaaGreatDoor
open Go.ChangeShapes Go.WideShapes Go.ChangeAt Go.RowKit Go.Pw Go.Deep
open Go.ChangeMaps (open_string shut_string)
theorem bulkB_strs {H : Type} (l : List ByteArray) : Rows.uptoBulkAll (strs (H := H) l) = bytesL l + l.length := by
  induction l with
  | nil => rfl
  | cons s l ih =>
    have e : s.data.toList.length = s.size := Array.length_toList
    have e2 : bytesL (s :: l) = s.size + bytesL l := rfl
    simp only [strs, List.map_cons, Rows.uptoBulkAll, Rows.uptoBulk, e, List.length_cons, e2] at ih ⊢
    omega
set_option maxRecDepth 100000 in
/-- a slice of strings that came in, with its bulk -/
theorem strs_inB {H : Type} {enc : TypeId × Value → H} {W : World} {n : Nat} {v : Value} {d : DataW H} {p : List MemPlace} (h : DataW.trod enc Tryz.prog W 0 (fun _ => true) true n 25 [v] = some (d, p)) :
    ∃ l, Strs W v l ∧ bytesL l + l.length + 1 ≤ Rows.uptoBulk d := by
  rcases open_strings Tryz.underlying25 Tryz.underlying9 (by kernel_rfl) h with ⟨hcs, hy⟩ | ⟨x, l, c, ss, hcs, _, hl, hm, hz, hy, hcell, hws⟩
  · simp at hcs
    injection hy with hy _
    subst hcs hy
    exact ⟨[], ⟨Rd.nil _ _, by simp⟩, by simp [bytesL, Rows.uptoBulk]⟩
  · simp at hcs
    injection hy with hy _
    subst hcs hy
    have hlen : ss.length = c := by simpa using hz
    have hl2 : (ss.take l).length = l := by simp; omega
    refine ⟨ss.take l, ⟨⟨by simp, some x, c, by rw [hl2], by rw [hl2]; exact hl, hm, fun hn => ?_⟩, fun s hs => hws s (List.mem_of_mem_take hs)⟩, ?_⟩
    · rw [hl2] at hn
      have h0 := hcell 0 (by omega)
      have h00 : x.add 0 = x := by simp [Addr.add]
      rw [h00] at h0
      have hsp := spot_none h0
      refine ⟨x.block, x.off, by obtain ⟨_, _, s⟩ := x; simp only at hsp; subst hsp; rfl, World.block_lt_of_cell? W x h0, fun j u hu => ?_⟩
      rw [List.getElem?_map, Option.map_eq_some_iff] at hu
      obtain ⟨s, hs, rfl⟩ := hu
      rw [List.getElem?_take] at hs
      split at hs
      · have hj : j < ss.length := (List.getElem?_eq_some_iff.1 hs).1
        have := hcell j hj
        rw [show ss.getD j ByteArray.empty = s by simp [hs], addr_add x hsp] at this
        exact this
      · cases hs
    · simp only [Rows.uptoBulk]
      rw [bulkB_strs]
      omega
end Go.Proofs.YtkikbejpgfhfoaaGreatDoor
