/- slices.CompactFunc with the closure of told. -/
import Derived.Test.YtkikbejpgfhfoaaDoorSortedP
import Derived.Test.YtkikbejpgfhfoaaDoorSorts
import Derived.Test.YtkikbejpgfhfoaaDoorStabV
import Derived.Lib.SliceRun
import Derived.Test.YtkikbejpgfhfoaaDoorRefL
import Derived.Test.YtkikbejpgfhfoaaDoorTell
/- Compact -/
set_option linter.unusedVariables false
set_option linter.unusedSimpArgs false
namespace Go.Pw
open Go.RowKit
theorem But.setCells {N B : Nat} {a : World} : ∀ (vs : List Value) (o : Nat) (w : World), But N B a w → But N B a (w.setCells B o vs)
  | [], _, _, h => h
  | v :: vs, o, w, h => But.setCells vs (o + 1) _ (h.setCell o v)
theorem RowS.cell0 {w : World} {B i : Nat} {l : List ByteArray} {s : ByteArray} (h : RowS w B 0 l) (hs : l[i]? = some s) : w.cell? ⟨B, i, none⟩ = some (.string s) ∧ w.frozen? ⟨B, i, none⟩ = false := by
  have := h.2 i s hs
  simpa only [Nat.zero_add] using this
theorem RowS.set0 {w : World} {B i : Nat} {l : List ByteArray} (h : RowS w B 0 l) (s : ByteArray) (hi : i < l.length) : RowS (w.setCell ⟨B, i, none⟩ (.string s)) B 0 (l.set i s) := by
  have := h.set s hi
  simpa only [Nat.zero_add] using this
section
variable {f : ByteArray → ByteArray → Int}
/-- all lines up to place k are kept -/
def KeptTo (f : ByteArray → ByteArray → Int) (l : List ByteArray) (k : Nat) : Prop := ∀ p, l[k - 1]? = some p → cpt f l = l.take k ++ cptA f p (l.drop k)
theorem KeptTo.one {l : List ByteArray} (h : 0 < l.length) : KeptTo f l 1 := fun p hp => by
  cases l with
  | nil => simp at h
  | cons a l => simp at hp; subst hp; rfl
theorem KeptTo.next {l : List ByteArray} {k : Nat} {p y : ByteArray} (h : KeptTo f l k) (hk : 1 ≤ k) (hp : l[k - 1]? = some p) (hy : l[k]? = some y) (hne : ¬ f y p = 0) : KeptTo f l (k + 1) := fun q hq => by
  rw [Nat.add_sub_cancel, hy] at hq
  injection hq with hq
  subst hq
  obtain ⟨hlt, he⟩ := List.getElem?_eq_some_iff.1 hy
  rw [h p hp, List.drop_eq_getElem_cons hlt, he, cptA, if_neg hne, List.take_succ_eq_append_getElem hlt, he]
  simp
theorem KeptTo.all {l : List ByteArray} (h : KeptTo f l l.length) : cpt f l = l := by
  cases l with
  | nil => rfl
  | cons a l =>
    have := h (l.getLastD a) (by
      simp only [List.length_cons, Nat.add_sub_cancel]
      rw [List.getElem?_eq_getElem (by simp), lastD_at])
    rw [this, List.take_length, List.drop_length, cptA, List.append_nil]
/-- where the second loop stands: m is the list in memory, q the next place that is read, kk the next one that is written -/
structure CpAt (f : ByteArray → ByteArray → Int) (l m : List ByteArray) (q kk : Nat) : Prop where
  len : m.length = l.length
  lt : kk + 1 ≤ q
  le : q ≤ l.length
  rest : m.drop (q - 1) = l.drop (q - 1)
  out : ∀ p, l[q - 1]? = some p → cpt f l = m.take kk ++ cptA f p (l.drop q)
  mem : ∀ s ∈ m, s ∈ l
theorem CpAt.start {l : List ByteArray} {k : Nat} {p y : ByteArray} (h : KeptTo f l k) (hk : 1 ≤ k) (hp : l[k - 1]? = some p) (hy : l[k]? = some y) (he : f y p = 0) : CpAt f l l (k + 1) k := by
  obtain ⟨hlt, hye⟩ := List.getElem?_eq_some_iff.1 hy
  refine ⟨rfl, Nat.le_refl _, hlt, rfl, fun q hq => ?_, fun s hs => hs⟩
  rw [Nat.add_sub_cancel, hy] at hq
  injection hq with hq
  subst hq
  rw [h p hp, List.drop_eq_getElem_cons hlt, hye, cptA, if_pos he]
theorem CpAt.at {l m : List ByteArray} {q kk j : Nat} (h : CpAt f l m q kk) (hj : q - 1 ≤ j) : m[j]? = l[j]? := by
  have := congrArg (fun z => z[j - (q - 1)]?) h.rest
  simp only [List.getElem?_drop] at this
  rwa [show q - 1 + (j - (q - 1)) = j by omega] at this
theorem CpAt.skip {l m : List ByteArray} {q kk : Nat} {p y : ByteArray} (h : CpAt f l m q kk) (hp : l[q - 1]? = some p) (hy : l[q]? = some y) (he : f y p = 0) : CpAt f l m (q + 1) kk := by
  obtain ⟨hlt, hye⟩ := List.getElem?_eq_some_iff.1 hy
  have h1 := h.lt
  refine ⟨h.len, by omega, hlt, ?_, fun z hz => ?_, h.mem⟩
  · have := congrArg (List.drop 1) h.rest
    rw [List.drop_drop, List.drop_drop, show q - 1 + 1 = q by omega] at this
    exact this
  · rw [Nat.add_sub_cancel, hy] at hz
    injection hz with hz
    subst hz
    rw [h.out p hp, List.drop_eq_getElem_cons hlt, hye, cptA, if_pos he]
theorem CpAt.keep {l m : List ByteArray} {q kk : Nat} {p y : ByteArray} (h : CpAt f l m q kk) (hp : l[q - 1]? = some p) (hy : l[q]? = some y) (he : ¬ f y p = 0) : CpAt f l (m.set kk y) (q + 1) (kk + 1) := by
  obtain ⟨hlt, hye⟩ := List.getElem?_eq_some_iff.1 hy
  have h1 := h.lt
  have h2 := h.len
  refine ⟨by rw [List.length_set]; exact h2, by omega, hlt, ?_, fun z hz => ?_, fun s hs => ?_⟩
  · have := congrArg (List.drop 1) h.rest
    rw [List.drop_drop, List.drop_drop, show q - 1 + 1 = q by omega] at this
    rw [Nat.add_sub_cancel, ← this, List.drop_set_of_lt (by omega)]
  · rw [Nat.add_sub_cancel, hy] at hz
    injection hz with hz
    subst hz
    rw [h.out p hp, List.drop_eq_getElem_cons hlt, hye, cptA, if_neg he]
    have e : (m.set kk y).take (kk + 1) = m.take kk ++ [y] := by
      rw [List.take_succ_eq_append_getElem (by rw [List.length_set]; omega), List.getElem_set_self, List.take_set_of_le (Nat.le_refl _)]
    rw [e]; simp
  · rcases List.mem_or_eq_of_mem_set hs with hs | hs
    · exact h.mem s hs
    · subst hs; exact List.mem_of_getElem? hy
theorem CpAt.fin {l m : List ByteArray} {q kk : Nat} (h : CpAt f l m q kk) (hq : q = l.length) : cpt f l = m.take kk := by
  have h1 := h.lt
  have h2 := h.len
  subst hq
  have := h.out (l[l.length - 1]'(by omega)) (List.getElem?_eq_getElem _)
  rw [List.drop_length, cptA, List.append_nil] at this
  exact this
end
end Go.Pw
namespace Go.Proofs.YtkikbejpgfhfoaaDoor
open Go.RowKit Go.Pw
set_option maxHeartbeats 4000000 in
set_option maxRecDepth 100000 in
theorem compactFunc_any (f : ByteArray → ByteArray → Int) (pv : Value) (N B cap len : Nat) (l : List ByteArray) (w : World) (hB : B < N) (hN : N ≤ w.heap.size) (hrow : RowS w B 0 l) (hlen : l.length = len) (hcap : len ≤ cap) (hc2 : cap ≤ 9223372036854775807) (hl2 : len ≤ 1000000000) (hsz : ∀ s ∈ l, s.size ≤ 65536)
    (hcmp : ∀ (x y : ByteArray) (w1 : World), x.size ≤ 65536 → y.size ≤ 65536 → But N B w w1 → Calls Tryd.prog 112 #[.string x, .string y, pv] w1 fun e w2 => e = .returned (.bool (f x y == 0)) ∧ Below w1.heap.size w1 w2) :
    Calls Tryd.prog 110 #[.slice (some ⟨B, 0, none⟩) len cap, .func (.func 112) #[] #[pv]] w
      fun e w' => e = .returned (.slice (some ⟨B, 0, none⟩) (cpt f l).length cap) ∧ RowS w' B 0 (cpt f l) ∧ But N B w w' := by
  have HSZ := hide hsz
  have HC := hide hcmp
  have HL := hide hlen
  clear hsz hcmp
  by_cases h2 : len < 2
  · have hd : (len : Int) < 2 := by omega
    have he : cpt f l = l := by
      match l, hlen with
      | [], _ => rfl
      | [x], _ => rfl
      | x :: y :: t, h => simp at h; omega
    have HE := hide he
    clear he hlen
    go_enter Tryd.func110, Tryd.ntmps110
    go_wp2_with fail
    go_ret
    exact ⟨by rw [HE.out, HL.out]; rfl, by rw [HE.out]; exact hrow, But.refl _ _ _⟩
  · have hd : ¬ ((len : Int) < 2) := by omega
    clear hlen
    go_enter Tryd.func110, Tryd.ntmps110
    go_wp2_with fail
    go_loopw [5] (fun i wr => ∃ k : Nat, 1 ≤ k ∧ k ≤ len ∧ i = .int .i64 (k : Int) ∧ Hid (KeptTo f l k) ∧ RowS wr B 0 l ∧ But N B w wr) (fun i _ => len - (intOf i).toNat)
    case atStart => exact ⟨1, Nat.le_refl _, by omega, rfl, hide (KeptTo.one (by have := HL.out; omega)), hrow, But.refl _ _ _⟩
    case round =>
      clear hrow
      obtain ⟨k, hk1, hk2, rfl, HK, hr, hb⟩ := hrel
      by_cases hlt : k < len
      · have hd1 : (k : Int) < (len : Int) := by omega
        have hll := HL.out
        have q1 : l[k - 1]? = some (l[k - 1]'(by omega)) := List.getElem?_eq_getElem _
        have q2 : l[k]? = some (l[k]'(by omega)) := List.getElem?_eq_getElem _
        obtain ⟨c1, f1⟩ := hr.cell0 q1
        obtain ⟨c2, f2⟩ := hr.cell0 q2
        have z1 := HSZ.out _ (List.mem_of_getElem? q1)
        have z2 := HSZ.out _ (List.mem_of_getElem? q2)
        have HNX := hide (fun h => HK.out.next hk1 q1 q2 h)
        have HST := hide (fun h => CpAt.start HK.out hk1 q1 q2 h)
        have hlB := hr.1
        obtain ⟨p, hp⟩ : ∃ p, l[k - 1]'(by omega) = p := ⟨_, rfl⟩
        obtain ⟨y, hy⟩ : ∃ y, l[k]'(by omega) = y := ⟨_, rfl⟩
        rw [hp] at c1 z1 HNX HST
        rw [hy] at c2 z2 HNX HST
        clear q1 q2 f1 f2 hp hy hll
        have hw1 : IntKind.i64.wrap ((k : Int) - 1) = (k : Int) - 1 := IntWalk.i64_in _ (by omega)
        have hw2 : ((k : Int) - 1).toNat = k - 1 := by omega
        have hw3 : (0 : Int) ≤ (k : Int) - 1 := by omega
        have hw4 : (k : Int) - 1 < (len : Int) := by omega
        have hw6 : (1 : Int) ≤ (k : Int) := by omega
        by_cases hdup : f y p = 0
        · have he : (f y p == 0) = true := by simpa using hdup
          have HS := hide (HST.out hdup)
          clear HNX HST hdup
          go_wp2_with fail
          go_region_held3 (fun w' => w'.cell? ⟨B, k, none⟩ = some (.string y) ∧ w'.cell? ⟨B, k - 1, none⟩ = some (.string p)) (go_keep) ((go_at_call 112; (with_reducible refine (HC.out y p _ z2 z1 (But.drew hb)).mono ?_); rintro e w1 ⟨rfl, hbl⟩; have hbl' : Below wr.heap.size wr w1 := ⟨hbl.os, hbl.tape, hbl.output, hbl.size, hbl.block⟩; have q1 : w1.cell? ⟨B, k, none⟩ = some (.string y) := (hbl'.cell hlB).trans c2; have q2 : w1.cell? ⟨B, k - 1, none⟩ = some (.string p) := (hbl'.cell hlB).trans c1))
          have hr2 : RowS w1 B 0 l := hr.below hbl' hlB
          have hb2 : But N B w w1 := hb.trans (But.of_below hbl' (by have := hb.size; omega))
          have hkc : ¬ cap = k := by omega
          have hkc2 : ¬ k = cap := by omega
          clear hbl hbl' c1 c2 hr hb hlB
          go_wp2_with fail
          go_loopw [5, 7] (fun x z wr => ∃ (kk j : Nat) (m : List ByteArray), x = .int .i64 (kk : Int) ∧ z = .int .i64 (j : Int) ∧ 1 ≤ j ∧ k + j ≤ len ∧ Hid (CpAt f l m (k + j) kk) ∧ RowS wr B 0 m ∧ But N B w wr) (fun _ z _ => len - k - (intOf z).toNat)
          case atStart => exact ⟨k, 1, l, rfl, rfl, Nat.le_refl _, by omega, HS, hr2, hb2⟩
          case round =>
            clear hr2 hb2 HS
            obtain ⟨kk, j, m, rfl, rfl, hj1, hj2, hat, hr, hb⟩ := hrel
            have hkk := hat.out.lt
            have hml := hat.out.len
            have hll := HL.out
            have hlB := hr.1
            by_cases hlj : k + j < len
            · have hd2 : (j : Int) < ((len - k : Nat) : Int) := by omega
              have q1 : l[k + j - 1]? = some (l[k + j - 1]'(by omega)) := List.getElem?_eq_getElem _
              have q2 : l[k + j]? = some (l[k + j]'(by omega)) := List.getElem?_eq_getElem _
              obtain ⟨c1, f1⟩ := hr.cell0 ((hat.out.at (by omega)).trans q1)
              obtain ⟨c2, f2⟩ := hr.cell0 ((hat.out.at (by omega)).trans q2)
              obtain ⟨t, qk⟩ : ∃ t, m[kk]? = some t := ⟨_, List.getElem?_eq_getElem (by omega)⟩
              obtain ⟨c3, f3⟩ := hr.cell0 qk
              have z1 := HSZ.out _ (List.mem_of_getElem? q1)
              have z2 := HSZ.out _ (List.mem_of_getElem? q2)
              have HSK := hide (fun h => hat.out.skip q1 q2 h)
              have HKP := hide (fun h => hat.out.keep q1 q2 h)
              obtain ⟨u, hu⟩ : ∃ u, l[k + j - 1]'(by omega) = u := ⟨_, rfl⟩
              obtain ⟨v, hv⟩ : ∃ v, l[k + j]'(by omega) = v := ⟨_, rfl⟩
              rw [hu] at c1 z1 HSK HKP
              rw [hv] at c2 z2 HSK HKP
              rw [show k + j - 1 = k + (j - 1) by omega] at c1
              have hr3 := fun w1 (h : RowS w1 B 0 m) => h.set0 v (i := kk) (by omega)
              have HR3 := hide hr3
              clear q1 q2 qk f1 f2 hu hv hll hr3 hat
              have hx1 : IntKind.i64.wrap ((j : Int) - 1) = (j : Int) - 1 := IntWalk.i64_in _ (by omega)
              have hx2 : ((j : Int) - 1).toNat = j - 1 := by omega
              have hx3 : (0 : Int) ≤ (j : Int) - 1 := by omega
              have hx4 : (j : Int) - 1 < ((len - k : Nat) : Int) := by omega
              have hx6 : (1 : Int) ≤ (j : Int) := by omega
              have hx7 : (kk : Int) < (len : Int) := by omega
              by_cases hdup : f v u = 0
              · have he2 : (f v u == 0) = true := by simpa using hdup
                have HS := hide (HSK.out hdup)
                clear HSK HKP hdup c3 f3
                go_wp2_with fail
                go_region_held3 (fun w' => w'.cell? ⟨B, k + j, none⟩ = some (.string v) ∧ w'.cell? ⟨B, k + (j - 1), none⟩ = some (.string u)) (go_keep) ((go_at_call 112; (with_reducible refine (HC.out v u _ z2 z1 (But.drew hb)).mono ?_); rintro e w1 ⟨rfl, hbl⟩; have hbl' : Below wr.heap.size wr w1 := ⟨hbl.os, hbl.tape, hbl.output, hbl.size, hbl.block⟩; have q1 : w1.cell? ⟨B, k + j, none⟩ = some (.string v) := (hbl'.cell hlB).trans c2; have q2 : w1.cell? ⟨B, k + (j - 1), none⟩ = some (.string u) := (hbl'.cell hlB).trans c1))
                have hr2 : RowS w1 B 0 m := hr.below hbl' hlB
                have hb2 : But N B w w1 := hb.trans (But.of_below hbl' (by have := hb.size; omega))
                clear hbl hbl' c1 c2 hr hb hlB
                go_wp2_with fail
                go_roundw
                case rel => exact ⟨kk, j + 1, m, rfl, by go_num, by omega, by omega, HS, hr2, hb2⟩
                case measure => simp [intOf]; omega
              · have he2 : (f v u == 0) = false := by simpa using hdup
                have HS := hide (HKP.out hdup)
                clear HSK HKP hdup
                go_wp2_with fail
                go_region_held3 (fun w' => w'.cell? ⟨B, k + j, none⟩ = some (.string v) ∧ w'.cell? ⟨B, k + (j - 1), none⟩ = some (.string u)) (go_keep) ((go_at_call 112; (with_reducible refine (HC.out v u _ z2 z1 (But.drew hb)).mono ?_); rintro e w1 ⟨rfl, hbl⟩; have hbl' : Below wr.heap.size wr w1 := ⟨hbl.os, hbl.tape, hbl.output, hbl.size, hbl.block⟩; have q1 : w1.cell? ⟨B, k + j, none⟩ = some (.string v) := (hbl'.cell hlB).trans c2; have q2 : w1.cell? ⟨B, k + (j - 1), none⟩ = some (.string u) := (hbl'.cell hlB).trans c1))
                have hr2 : RowS w1 B 0 m := hr.below hbl' hlB
                have hb2 : But N B w w1 := hb.trans (But.of_below hbl' (by have := hb.size; omega))
                have c3' : w1.cell? ⟨B, kk, none⟩ = some (.string t) := (hbl'.cell (p := ⟨B, kk, none⟩) hlB).trans c3
                have f3' : w1.frozen? ⟨B, kk, none⟩ = false := (hbl'.frozen (p := ⟨B, kk, none⟩) hlB).trans f3
                have hr4 := hide (HR3.out _ hr2)
                have hb4 := hide (hb2.setCell kk (.string v))
                clear hbl hbl' c1 hr hb hlB c3 f3
                go_wp2_with fail
                go_roundw
                case rel => exact ⟨kk + 1, j + 1, _, by go_num, by go_num, by omega, by omega, HS, hr4.out, hb4.out⟩
                case measure => simp [intOf]; omega
            · have hd2 : ¬ ((j : Int) < ((len - k : Nat) : Int)) := by omega
              have HF := hide (hat.out.fin (by omega))
              have hcl : ∀ ty, (Builtin.clear_ #[40] ty #[.slice (some ⟨B, kk, none⟩) (len - kk) (cap - kk)]).run Tryd.prog wr = .ok (.tuple #[]) (wr.setCells B kk (List.replicate (len - kk) (.string ⟨#[]⟩))) := fun ty =>
                Lib.run_clear_slice wr _ _ ty _ Tryd.underlying40 Tryd.zeroValue9 rfl rfl B kk _ _ (by omega)
                  (fun i hi => by rw [(hr.cell0 (List.getElem?_eq_getElem (show kk + i < m.length by omega))).1]; rfl)
                  (fun i hi => (hr.cell0 (List.getElem?_eq_getElem (show kk + i < m.length by omega))).2)
              have HRF : Hid (RowS (wr.setCells B kk (List.replicate (len - kk) (.string ⟨#[]⟩))) B 0 (cpt f l)) := hide (by
                rw [HF.out]
                have hbs := (But.setCells (N := N) (B := B) (List.replicate (len - kk) (.string ⟨#[]⟩)) kk wr (But.refl _ _ wr)).size
                refine ⟨by omega, fun i s hs => ?_⟩
                rw [List.getElem?_take] at hs
                split at hs
                · obtain ⟨g1, g2⟩ := hr.cell0 hs
                  rw [Nat.zero_add, World.cell?_setCells_out _ _ _ _ _ (fun _ _ => .inl (by show i < kk; omega)), World.frozen?_setCells]
                  exact ⟨g1, g2⟩
                · cases hs)
              have HBF := hide (But.setCells (List.replicate (len - kk) (.string ⟨#[]⟩)) kk wr hb)
              have hkc3 : ¬ cap = kk := by omega
              have hkc4 : ¬ kk = cap := by omega
              have hx7 : (kk : Int) ≤ (len : Int) := by omega
              clear hr hb
              go_wp2_with fail
              have hlk : (cpt f l).length = kk := by rw [HF.out, List.length_take]; omega
              go_ret
              exact ⟨by rw [hlk]; rfl, HRF.out, HBF.out⟩
        · have he : (f y p == 0) = false := by simpa using hdup
          have HS := hide (HNX.out hdup)
          clear HNX HST hdup
          go_wp2_with fail
          go_region_held3 (fun w' => w'.cell? ⟨B, k, none⟩ = some (.string y) ∧ w'.cell? ⟨B, k - 1, none⟩ = some (.string p)) (go_keep) ((go_at_call 112; (with_reducible refine (HC.out y p _ z2 z1 (But.drew hb)).mono ?_); rintro e w1 ⟨rfl, hbl⟩; have hbl' : Below wr.heap.size wr w1 := ⟨hbl.os, hbl.tape, hbl.output, hbl.size, hbl.block⟩; have q1 : w1.cell? ⟨B, k, none⟩ = some (.string y) := (hbl'.cell hlB).trans c2; have q2 : w1.cell? ⟨B, k - 1, none⟩ = some (.string p) := (hbl'.cell hlB).trans c1))
          have hr2 : RowS w1 B 0 l := hr.below hbl' hlB
          have hb2 : But N B w w1 := hb.trans (But.of_below hbl' (by have := hb.size; omega))
          clear hbl hbl' c1 c2 hr hb hlB
          go_wp2_with fail
          go_roundw
          case rel => exact ⟨k + 1, by omega, by omega, by go_num, HS, hr2, hb2⟩
          case measure => simp [intOf]; omega
      · obtain rfl : k = len := by omega
        have he := HK.out
        rw [← HL.out] at he
        have HE := hide he.all
        clear he
        go_wp2_with fail
        go_ret
        exact ⟨by rw [HE.out, HL.out]; rfl, by rw [HE.out]; exact hr, hb⟩
end Go.Proofs.YtkikbejpgfhfoaaDoor

/- Told -/
set_option linter.unusedVariables false
set_option linter.unusedSimpArgs false
namespace Go.Proofs.YtkikbejpgfhfoaaDoor
open Go.RowKit Go.Pw
set_option maxHeartbeats 1000000 in
theorem told1_any (o : Sp) (B : Option Addr) (cb : Nat) (a b : ByteArray) (bx : Nat) (w : World) (hk : KeysIn w (.slice B o.keys.length cb) o.keys) (hg : ∀ k ∈ o.keys, k.good) (hs : SpIn w bx 90 o (.slice B o.keys.length cb)) (ha : a.size ≤ 65536) (hb : b.size ≤ 65536) :
    Calls Tryd.prog 112 #[.string a, .string b, .pointer (some ⟨bx, 0, none⟩)] w fun e w2 => e = .returned (.bool (ordCmp o a b == 0)) ∧ Below w.heap.size w w2 := by
  have HC := hide (compare_any o (.slice B o.keys.length cb) a b w hk hg (by omega) (by omega))
  obtain ⟨d0, d1, d2, d3, d4⟩ := hs.cells
  unfold spV at HC
  clear hk hg hs
  go_enter Tryd.func112, Tryd.ntmps112
  go_wp2_with fail
  refine HC.out.mono ?_
  rintro e w2 ⟨rfl, hb2⟩
  go_wp2_with fail
  go_ret
  exact ⟨rfl, hb2⟩
theorem cloneS_any (A : Option Addr) (cap : Nat) (l : List ByteArray) (w : World) (h : Strs w (.slice A l.length cap) l) (h0 : 0 < l.length) (hl : l.length * 16 ≤ 140737488355328) :
    Calls Tryd.prog 111 #[.slice A l.length cap] w fun e w' => ∃ g c, e = .returned (.slice (some ⟨g, 0, none⟩) l.length c) ∧ RowS w' g 0 l ∧ w.heap.size ≤ g ∧ l.length ≤ c ∧ c ≤ maxLen ∧ Below w.heap.size w w' := by
  obtain ⟨⟨_, A', cap', e, hcap, hmax, hx⟩, hsz⟩ := h
  injection e with e1 _ e3
  subst e1 e3
  obtain ⟨b, o, rfl, hb, hj⟩ := hx h0
  refine (Tryd.slices_Clone_string b o l.length cap l w (Nat.le_refl _) hl (fun j hj' => hj j _ (by simp [hj']))).mono ?_
  rintro e w' ⟨v', rfl, hown, _, hbl⟩
  rw [List.take_length] at hown
  obtain ⟨_, A2, c, e, h1, h2, _⟩ := Rd.of_own hown
  obtain ⟨g, c2, e2, hg, hg2⟩ := World.ownsRow.form hown h0
  subst e2
  injection e with e1 _ e3
  subst e1 e3
  refine ⟨g, c2, rfl, ⟨hg2, fun i s hi => ?_⟩, hg, h1, h2, hbl⟩
  have hil := (List.getElem?_eq_some_iff.1 hi).1
  rw [Nat.zero_add]
  refine ⟨?_, World.ownsRow.frozenAt hown i⟩
  rw [World.ownsRow.cellAt hown i (by omega), List.getElem?_map, hi]; rfl
theorem compactNil_any (A : Option Addr) (n cap : Nat) (fv : Value) (w : World) (hn : n < 2) : Calls Tryd.prog 110 #[.slice A n cap, fv] w fun e w' => e = .returned (.slice A n cap) ∧ w = w' := by
  have hd : (n : Int) < 2 := by omega
  go_enter Tryd.func110, Tryd.ntmps110
  go_wp2_with fail
  go_ret
  exact ⟨rfl, rfl⟩
theorem cloneNil_any (A : Option Addr) (cap : Nat) (w : World) : Calls Tryd.prog 111 #[.slice A 0 cap] w fun e w' => ∃ A' c, e = .returned (.slice A' 0 c) ∧ c ≤ maxLen ∧ Below w.heap.size w w' := by
  cases A with
  | none =>
    refine (Tryd.slices_Clone_string_nil 0 cap w).mono ?_
    rintro e w' ⟨rfl, rfl⟩
    exact ⟨none, 0, rfl, Nat.zero_le _, Below.refl _ _⟩
  | some a =>
    refine (Tryd.slices_Clone_string_zero a cap w).mono ?_
    rintro e w' ⟨v', rfl, hown, _, hbl⟩
    obtain ⟨_, A', c, rfl, _, h2, _⟩ := Rd.of_own hown
    exact ⟨A', c, rfl, h2, hbl⟩
/-- what is told of lines in order -/
def toldL (o : Sp) (l : List ByteArray) : List ByteArray := if o.unique then cpt (ordCmp o) l else l
theorem toldL_len (o : Sp) (l : List ByteArray) : (toldL o l).length ≤ l.length := by
  unfold toldL; split
  · exact cpt_len l
  · exact Nat.le_refl _
theorem toldL_mem {o : Sp} {l : List ByteArray} {z : ByteArray} (h : z ∈ toldL o l) : z ∈ l := by
  unfold toldL at h; split at h
  · exact cpt_mem h
  · exact h
set_option maxHeartbeats 2000000 in
set_option maxRecDepth 100000 in
theorem told_any (o : Sp) (kv v : Value) (l : List ByteArray) (w : World) (hk : KeysIn w kv o.keys) (hg : ∀ k ∈ o.keys, k.good) (h : Strs w v l) (hsz : ∀ s ∈ l, s.size ≤ 65536) (hlen : l.length ≤ 8192) :
    Calls Tryd.prog 62 #[spV o kv, v] w fun e w' => e = .returned (.string (mkB (resL (toldL o l)))) ∧ Below w.heap.size w w' := by
  have hrl : (resL (toldL o l)).length ≤ 1000000000 := by
    have h1 := resL_le (m := 65536) (l := toldL o l) (fun s hs => hsz s (toldL_mem hs))
    have h2 : (toldL o l).length * (65536 + 1) ≤ 8192 * 65537 := Nat.mul_le_mul (by have := toldL_len o l; omega) (Nat.le_refl _)
    omega
  cases hu : o.unique
  · have e : toldL o l = l := by unfold toldL; rw [hu]; rfl
    rw [e] at hrl ⊢
    exact told_plain o kv v l w hu h hrl
  · have e : toldL o l = cpt (ordCmp o) l := by unfold toldL; rw [hu]; rfl
    rw [e] at hrl ⊢
    clear e
    obtain ⟨B, cb, rfl⟩ : ∃ B cb, kv = .slice B o.keys.length cb := by
      obtain ⟨_, A, cap, h, _⟩ := hk
      exact ⟨A, cap, h⟩
    have h' := h
    obtain ⟨⟨_, A, cap, rfl, _⟩, _⟩ := h'
    have hB0 := ((Below.refl w.heap.size w).alloc (Nat.le_refl _) (.cells #[.string o.sep, .slice B o.keys.length cb, .bool o.reverse, .bool o.stable, .bool o.unique] 90))
    have HN0 : Hid (SpIn (w.alloc (.cells #[.string o.sep, .slice B o.keys.length cb, .bool o.reverse, .bool o.stable, .bool o.unique] 90)) w.heap.size 90 o (.slice B o.keys.length cb)) := hide (heap_alloc_new _ _)
    obtain ⟨w1, hw1⟩ : ∃ w1, w.alloc (.cells #[.string o.sep, .slice B o.keys.length cb, .bool o.reverse, .bool o.stable, .bool o.unique] 90) = w1 := ⟨_, rfl⟩
    have hz1 : w1.heap.size = w.heap.size + 1 := by rw [← hw1]; simp
    rw [hw1] at hB0 HN0
    have HS1 := hide (h.below hB0)
    have HK1 := hide (hk.below hB0)
    have HB0 := hide hB0
    have HG := hide hg
    have HZ := hide hsz
    have HU := hide hu
    have HRL := hide hrl
    obtain ⟨d0, d1, d2, d3, d4⟩ := HN0.out.cells
    rw [hu] at d4
    clear h hk hg hB0 hu hsz hrl
    unfold spV
    go_enter Tryd.func62, Tryd.ntmps62
    by_cases h0 : 0 < l.length
    · go_wp2_with fail
      refine (cloneS_any A cap l w1 HS1.out h0 (by omega)).mono ?_
      rintro e w2 ⟨g, c, rfl, hr2, hg2, hc1, hc2, hb2⟩
      have HN2 := hide (HN0.out.below hb2 (by omega))
      have HK2 := hide (HK1.out.below hb2)
      have HB2 := hide (HB0.out.trans (hb2.mono (by omega)))
      have hz2 := hb2.size
      unfold maxLen at hc2
      have hcall := compactFunc_any (ordCmp o) (.pointer (some ⟨w.heap.size, 0, none⟩)) w2.heap.size g c l.length l w2 hr2.1 (Nat.le_refl _) hr2 rfl hc1 (by omega) (by omega) HZ.out (fun x y w3 q1 q2 q3 =>
        told1_any o B cb x y w.heap.size w3 (HK1.out.keep (by have := q3.size; omega) (fun p hp => (q3.cell (by omega) (by omega)).trans (hb2.cell hp))) HG.out (HN2.out.but q3 (by omega) (by omega)) q1 q2)
      have HCALL := hide hcall
      clear hcall hr2 hb2
      go_wp2_with fail
      refine HCALL.out.mono ?_
      rintro e w3 ⟨rfl, hr3, hb3⟩
      have hst := strs_of_row (n := 0) (cap := c) hr3 (by have := cpt_len (f := ordCmp o) l; omega) (by unfold maxLen; omega) (fun s hs => by have := HZ.out s (cpt_mem hs); unfold maxLen; omega)
      have HR := hide (result_any _ (cpt (ordCmp o) l) w3 hst HRL.out)
      have HB3 := hide (HB2.out.trans (hb3.below (by omega) (by omega) : Below w.heap.size w2 w3))
      clear hst hr3 hb3
      go_wp2_with fail
      refine HR.out.mono ?_
      rintro e w4 ⟨rfl, hb4⟩
      have HB4 := hide (HB3.out.trans (hb4.mono HB3.out.size))
      go_wp2_with fail
      go_ret
      exact ⟨rfl, HB4.out⟩
    · obtain rfl : l = [] := List.eq_nil_of_length_eq_zero (by omega)
      simp only [List.length_nil]
      go_wp2_with fail
      refine (cloneNil_any A cap w1).mono ?_
      rintro e w2 ⟨A2, c2, rfl, hcm2, hb2⟩
      have HB2 := hide (HB0.out.trans (hb2.mono (by omega)))
      clear hb2
      go_wp2_with fail
      refine (compactNil_any A2 0 c2 _ w2 (by omega)).mono ?_
      rintro e w' ⟨rfl, rfl⟩
      have HR := hide (result_any (.slice A2 0 c2) [] w2 ⟨⟨rfl, A2, c2, rfl, Nat.zero_le _, hcm2, fun h => absurd h (by simp)⟩, by simp⟩ (by simp [resL]))
      go_wp2_with fail
      refine HR.out.mono ?_
      rintro e w4 ⟨rfl, hb4⟩
      have HB4 := hide (HB2.out.trans (hb4.mono HB2.out.size))
      go_wp2_with fail
      go_ret
      exact ⟨rfl, HB4.out⟩
end Go.Proofs.YtkikbejpgfhfoaaDoor

/- SortG -/
set_option linter.unusedVariables false
set_option linter.unusedSimpArgs false
namespace Go.Pw
open Go.RowKit
theorem bigB_false {s : ByteArray} (h : bigB s = false) : s.size ≤ 65536 ∧ (linesOf s).length ≤ 4096 ∧ ∀ x ∈ linesOf s, x.size ≤ 65536 := by
  have h1 := (linesOf_bound s).2
  unfold bigB at h
  simp at h
  exact ⟨by omega, by omega, fun x hx => by have := h1 x hx; omega⟩
end Go.Pw
namespace Go.Proofs.YtkikbejpgfhfoaaDoor
open Go.RowKit Go.Pw
/-- the lines of a text in order -/
def sortL (o : Sp) (s : ByteArray) : List ByteArray := toldL o (isrt (ltOf (ordCmp o)) (linesOf s))
/-- what text.Sort and text.Ordered say first -/
def specErr (o : Sp) (s : ByteArray) : Int := firstNZ [ordErr o, if bigB s then 2 else 0]
theorem sep_size {o : Sp} (he : ordErr o = 0) : o.sep.size ≤ 9223372036854775807 := by
  unfold ordErr at he
  split at he
  · cases he
  · rename_i h; omega
theorem insertionNil_any (fv : Value) (w : World) : Calls Tryd.prog 147 #[.slice none 0 0, .int .i64 0, .int .i64 0, fv] w fun e w' => e = .returned (.tuple #[]) ∧ w = w' := by
  go_enter Tryd.func147, Tryd.ntmps147
  go_wp2_with fail
  go_loop [8] (fun i => i = .int .i64 1) (fun _ => 0)
  case atStart => rfl
  case round =>
    obtain rfl := hrel
    go_wp2_with fail
    go_end0
    exact ⟨rfl, rfl⟩
theorem stableNil_any (fv : Value) (w : World) : Calls Tryd.prog 109 #[.slice none 0 0, .int .i64 0, fv] w fun e w' => e = .returned (.tuple #[]) ∧ w = w' := by
  go_enter Tryd.func109, Tryd.ntmps109
  go_wp2_with fail
  go_loop [7, 8] (fun x y => x = .int .i64 0 ∧ y = .int .i64 20) (fun _ _ => 0)
  case atStart => exact ⟨rfl, rfl⟩
  case round =>
    obtain ⟨rfl, rfl⟩ := hrel
    go_wp2_with fail
    refine (insertionNil_any _ _).mono ?_
    rintro e w' ⟨rfl, rfl⟩
    go_wp2_with fail
    go_loop [6] (fun x => x = .int .i64 20) (fun _ => 0)
    case atStart => rfl
    case round =>
      obtain rfl := hrel
      go_wp2_with fail
      go_end0
      exact ⟨rfl, rfl⟩
theorem sortStableNil_any (fv : Value) (w : World) : Calls Tryd.prog 61 #[.slice none 0 0, fv] w fun e w' => e = .returned (.tuple #[]) ∧ w = w' := by
  go_enter Tryd.func61, Tryd.ntmps61
  go_wp2_with fail
  refine (stableNil_any _ _).mono ?_
  rintro e w' ⟨rfl, rfl⟩
  go_wp2_with fail
  go_end0
  exact ⟨rfl, rfl⟩
set_option maxHeartbeats 2000000 in
set_option maxRecDepth 100000 in
theorem sort_good (o : Sp) (kv : Value) (s : ByteArray) (w : World) (hk : KeysIn w kv o.keys) (he : ordErr o = 0) (hb : bigB s = false) :
    Calls Tryd.prog 20 #[spV o kv, .string s] w fun e w' => e = .returned (.tuple #[.string (mkB (resL (sortL o s))), .int .i64 0]) ∧ Below w.heap.size w w' := by
  obtain ⟨A, cap, rfl⟩ : ∃ A cap, kv = .slice A o.keys.length cap := by
    obtain ⟨_, A, cap, h, _⟩ := hk
    exact ⟨A, cap, h⟩
  obtain ⟨hsz, hln, hls⟩ := bigB_false hb
  have hB0 := ((Below.refl w.heap.size w).alloc (Nat.le_refl _) (.cells #[.string o.sep, (.slice A o.keys.length cap), .bool o.reverse, .bool o.stable, .bool o.unique] 24))
  have HN0 : Hid (SpIn (w.alloc (.cells #[.string o.sep, (.slice A o.keys.length cap), .bool o.reverse, .bool o.stable, .bool o.unique] 24)) w.heap.size 24 o (.slice A o.keys.length cap)) := hide (heap_alloc_new _ _)
  have HV := hide (valid_any o (.slice A o.keys.length cap) _ (hk.below hB0) (sep_size he))
  have HGD := hide (good_of_valid he)
  have HK := hide hk
  have HB0 := hide hB0
  rw [he] at HV
  have HBIG := hide hb
  have HLS := hide hls
  clear hk hB0 he hb hls
  unfold spV at HV ⊢
  go_enter Tryd.func20, Tryd.ntmps20
  go_wp2_with fail
  obtain ⟨W1, hW1⟩ : ∃ W1, w.alloc (.cells #[.string o.sep, (.slice A o.keys.length cap), .bool o.reverse, .bool o.stable, .bool o.unique] 24) = W1 := ⟨_, rfl⟩
  have hz1 : W1.heap.size = w.heap.size + 1 := by rw [← hW1]; simp
  rw [hW1] at HV HB0 HN0 ⊢
  have HZ1 := hide hz1
  clear hW1 hz1
  refine HV.out.mono ?_
  rintro e w1 ⟨rfl, hb1⟩
  have n1 := HN0.out.below hb1 (by rw [HZ1.out]; omega)
  have HB1 := hide (HB0.out.trans (hb1.mono (by rw [HZ1.out]; omega)))
  have HN1 := hide n1
  clear hb1 n1 HV
  have HST := hide (sized_any _ [s] _ (strs_one w1 s 9 (by unfold maxLen; omega)))
  have e0 : ([s].any bigB) = false := by simp [HBIG.out]
  rw [e0] at HST
  clear e0
  go_wp2_with fail
  refine HST.out.mono ?_
  rintro e w2 ⟨rfl, hb2⟩
  have hb2' : Below w1.heap.size w1 w2 := ((Below.refl w1.heap.size w1).alloc (Nat.le_refl _) _).trans (hb2.mono (by simp))
  have n2 := HN1.out.below hb2' HN1.out.lt
  obtain ⟨c0, c1, c2, c3, c4⟩ := n2.cells
  have HB2 := hide (HB1.out.trans (hb2'.mono HB1.out.size))
  clear hb2 hb2' n2 HST
  have HN3 : Hid (SpIn (w2.alloc (.cells #[.string o.sep, (.slice A o.keys.length cap), .bool o.reverse, .bool o.stable, .bool o.unique] 90)) w2.heap.size 90 o (.slice A o.keys.length cap)) := hide (heap_alloc_new _ _)
  have HB3 := hide (HB2.out.alloc HB2.out.size (.cells #[.string o.sep, (.slice A o.keys.length cap), .bool o.reverse, .bool o.stable, .bool o.unique] 90))
  go_wp2_with fail
  obtain ⟨W3, hW3⟩ : ∃ W3, w2.alloc (.cells #[.string o.sep, (.slice A o.keys.length cap), .bool o.reverse, .bool o.stable, .bool o.unique] 90) = W3 := ⟨_, rfl⟩
  have hz3 : W3.heap.size = w2.heap.size + 1 := by rw [← hW3]; simp
  rw [hW3] at HN3 HB3 ⊢
  have HZ3 := hide hz3
  clear hW3 hz3 c0 c1 c2 c3 c4
  refine (lines_any s _ (by omega)).mono ?_
  rintro e w4 ⟨v, rfl, hr⟩
  have hb4 := linesRes_below hr
  have hwz : w.heap.size ≤ W3.heap.size := HB3.out.size
  have HB4 := hide (HB3.out.trans (hb4.mono hwz))
  have HN4 := hide (HN3.out.below hb4 (by rw [HZ3.out]; omega))
  obtain ⟨c0, c1, c2, c3, c4⟩ := HN4.out.cells
  have HKW := hide (HK.out.below HB4.out)
  have HST4 := hide (linesRes_strs hr (fun x hx => by have := HLS.out x hx; unfold maxLen; omega) (by unfold maxLen; omega))
  have hn4 := HN4.out.lt
  by_cases h0 : 0 < (linesOf s).length
  · obtain ⟨rfl, hrow⟩ := linesRes_row hr h0
    have HSS := hide (sortStable_any (ordCmp o) (spV o (.slice A o.keys.length cap)) w4.heap.size W3.heap.size 0 (linesOf s).length (linesOf s).length (linesOf s) w4 hrow.1 (Nat.le_refl _) hrow rfl (Nat.le_refl _) (by omega) HLS.out (ordCmp_cmp3 o).swo (fun x y w5 z1 z2 hb5 =>
      compare_any o (.slice A o.keys.length cap) x y w5 (Rd.keep HK.out (Nat.le_trans HB4.out.size hb5.size) fun p hp => (hb5.cell (by have := HB4.out.size; omega) (by omega)).trans (HB4.out.cell hp)) HGD.out (by omega) (by omega)))
    unfold spV at HSS
    clear hr hrow hb4
    go_wp2_with fail
    refine HSS.out.mono ?_
    rintro e w5 ⟨rfl, hr5, hb5⟩
    have n5 := HN4.out.but hb5 HN4.out.lt (by rw [HZ3.out]; omega)
    have HB5 := hide (HB4.out.trans (hb5.below HB4.out.size hwz))
    obtain ⟨d0, d1, d2, d3, d4⟩ := n5.cells
    have hil := isrt_len (ltOf (ordCmp o)) (linesOf s)
    have him : ∀ x ∈ isrt (ltOf (ordCmp o)) (linesOf s), x.size ≤ 65536 := fun x hx => HLS.out x (isrt_mem _ hx)
    have hst := strs_of_row (n := 0) (cap := (linesOf s).length) hr5 (by omega) (by unfold maxLen; omega) (fun x hx => by have := him x hx; unfold maxLen; omega)
    rw [hil] at hst
    have HTD := hide (told_any o (.slice A o.keys.length cap) _ (isrt (ltOf (ordCmp o)) (linesOf s)) w5 (HK.out.below HB5.out) HGD.out hst him (by omega))
    unfold spV at HTD
    clear c0 c1 c2 c3 c4 n5 hr5 hb5 hst hil him HSS HB4 HN4 HKW
    go_wp2_with fail
    refine HTD.out.mono ?_
    rintro e w6 ⟨rfl, hb6⟩
    have HB6 := hide (HB5.out.trans (hb6.mono HB5.out.size))
    clear hb6 d0 d1 d2 d3 d4 HTD
    go_wp2_with fail
    go_ret2
    exact ⟨rfl, HB6.out⟩
  · have hl0 : linesOf s = [] := List.eq_nil_of_length_eq_zero (by omega)
    have HL0 : Hid (sortL o s = toldL o []) := hide (by unfold sortL; rw [hl0]; rfl)
    rcases hr with ⟨_, rfl, rfl⟩ | ⟨h1, _⟩
    · have HTD := hide (told_any o (.slice A o.keys.length cap) (.slice none 0 0) [] w4 (HK.out.below HB3.out) HGD.out ⟨Rd.nil _ _, by simp⟩ (by simp) (by simp))
      unfold spV at HTD
      clear hl0 hb4 h0
      go_wp2_with fail
      refine (sortStableNil_any _ _).mono ?_
      rintro e w' ⟨rfl, rfl⟩
      go_wp2_with fail
      refine HTD.out.mono ?_
      rintro e w6 ⟨rfl, hb6⟩
      have HB6 := hide (HB3.out.trans (hb6.mono HB3.out.size))
      clear hb6 HTD
      go_wp2_with fail
      go_ret2
      exact ⟨by rw [HL0.out]; rfl, HB6.out⟩
    · exact absurd h1 h0
set_option maxHeartbeats 1000000 in
set_option maxRecDepth 100000 in
theorem sort_bad (o : Sp) (kv : Value) (s : ByteArray) (n : Int) (w : World) (hk : KeysIn w kv o.keys) (hsep : o.sep.size ≤ 9223372036854775807) (hs : s.size ≤ maxLen) (hn : n ≠ 0) (hsp : specErr o s = n) :
    Calls Tryd.prog 20 #[spV o kv, .string s] w fun e w' => e = .returned (.tuple #[.string ⟨#[]⟩, .int .i64 n]) ∧ Below w.heap.size w w' := by
  obtain ⟨A, cap, rfl⟩ : ∃ A cap, kv = .slice A o.keys.length cap := by
    obtain ⟨_, A, cap, h, _⟩ := hk
    exact ⟨A, cap, h⟩
  have hB0 := ((Below.refl w.heap.size w).alloc (Nat.le_refl _) (.cells #[.string o.sep, (.slice A o.keys.length cap), .bool o.reverse, .bool o.stable, .bool o.unique] 24))
  have HV := hide (valid_any o (.slice A o.keys.length cap) _ (hk.below hB0) hsep)
  have HB0 := hide hB0
  have hne : (n != 0) = true := by simpa using hn
  unfold specErr at hsp
  clear hk hB0
  unfold spV at HV ⊢
  by_cases he : ordErr o = 0
  · have hbg : bigB s = true ∧ n = 2 := by
      rw [he] at hsp
      cases hb : bigB s
      · rw [hb] at hsp; simp [firstNZ] at hsp; omega
      · rw [hb] at hsp; simp [firstNZ] at hsp; exact ⟨rfl, hsp.symm⟩
    obtain ⟨hbig, rfl⟩ := hbg
    have HBIG := hide hbig
    rw [he] at HV
    clear hsp he hbig hn
    go_enter Tryd.func20, Tryd.ntmps20
    go_wp2_with fail
    refine HV.out.mono ?_
    rintro e w1 ⟨rfl, hb1⟩
    have HB1 := hide (HB0.out.trans (hb1.mono (by simp)))
    have HST := hide (sized_any _ [s] _ (strs_one w1 s 9 hs))
    have e0 : ([s].any bigB) = true := by simp [HBIG.out]
    rw [e0] at HST
    clear e0 hb1
    go_wp2_with fail
    refine HST.out.mono ?_
    rintro e w2 ⟨rfl, hb2⟩
    have HB2 := hide (HB1.out.trans ((((Below.refl w1.heap.size w1).alloc (Nat.le_refl _) _).trans (hb2.mono (by simp)) : Below w1.heap.size w1 w2).mono HB1.out.size))
    clear hb2
    go_wp2_with fail
    go_ret2
    exact ⟨rfl, HB2.out⟩
  · have hn2 : ordErr o = n := by rw [firstNZ, if_neg he] at hsp; exact hsp
    rw [hn2] at HV
    clear hsp he hn2
    go_enter Tryd.func20, Tryd.ntmps20
    go_wp2_with fail
    refine HV.out.mono ?_
    rintro e w1 ⟨rfl, hb1⟩
    have HB1 := hide (HB0.out.trans (hb1.mono (by simp)))
    clear hb1
    go_wp2_with fail
    go_ret2
    exact ⟨rfl, HB1.out⟩
set_option maxHeartbeats 1000000 in
set_option maxRecDepth 100000 in
theorem ordered_bad (o : Sp) (kv : Value) (s : ByteArray) (n : Int) (w : World) (hk : KeysIn w kv o.keys) (hsep : o.sep.size ≤ 9223372036854775807) (hs : s.size ≤ maxLen) (hn : n ≠ 0) (hsp : specErr o s = n) :
    Calls Tryd.prog 21 #[spV o kv, .string s] w fun e w' => e = .returned (.tuple #[.int .i64 0, .int .i64 n]) ∧ Below w.heap.size w w' := by
  obtain ⟨A, cap, rfl⟩ : ∃ A cap, kv = .slice A o.keys.length cap := by
    obtain ⟨_, A, cap, h, _⟩ := hk
    exact ⟨A, cap, h⟩
  have hB0 := ((Below.refl w.heap.size w).alloc (Nat.le_refl _) (.cells #[.string o.sep, (.slice A o.keys.length cap), .bool o.reverse, .bool o.stable, .bool o.unique] 24))
  have HV := hide (valid_any o (.slice A o.keys.length cap) _ (hk.below hB0) hsep)
  have HB0 := hide hB0
  have hne : (n != 0) = true := by simpa using hn
  unfold specErr at hsp
  clear hk hB0
  unfold spV at HV ⊢
  by_cases he : ordErr o = 0
  · have hbg : bigB s = true ∧ n = 2 := by
      rw [he] at hsp
      cases hb : bigB s
      · rw [hb] at hsp; simp [firstNZ] at hsp; omega
      · rw [hb] at hsp; simp [firstNZ] at hsp; exact ⟨rfl, hsp.symm⟩
    obtain ⟨hbig, rfl⟩ := hbg
    have HBIG := hide hbig
    rw [he] at HV
    clear hsp he hbig hn
    go_enter Tryd.func21, Tryd.ntmps21
    go_wp2_with fail
    refine HV.out.mono ?_
    rintro e w1 ⟨rfl, hb1⟩
    have HB1 := hide (HB0.out.trans (hb1.mono (by simp)))
    have HST := hide (sized_any _ [s] _ (strs_one w1 s 9 hs))
    have e0 : ([s].any bigB) = true := by simp [HBIG.out]
    rw [e0] at HST
    clear e0 hb1
    go_wp2_with fail
    refine HST.out.mono ?_
    rintro e w2 ⟨rfl, hb2⟩
    have HB2 := hide (HB1.out.trans ((((Below.refl w1.heap.size w1).alloc (Nat.le_refl _) _).trans (hb2.mono (by simp)) : Below w1.heap.size w1 w2).mono HB1.out.size))
    clear hb2
    go_wp2_with fail
    go_ret2
    exact ⟨rfl, HB2.out⟩
  · have hn2 : ordErr o = n := by rw [firstNZ, if_neg he] at hsp; exact hsp
    rw [hn2] at HV
    clear hsp he hn2
    go_enter Tryd.func21, Tryd.ntmps21
    go_wp2_with fail
    refine HV.out.mono ?_
    rintro e w1 ⟨rfl, hb1⟩
    have HB1 := hide (HB0.out.trans (hb1.mono (by simp)))
    clear hb1
    go_wp2_with fail
    go_ret2
    exact ⟨rfl, HB1.out⟩
end Go.Proofs.YtkikbejpgfhfoaaDoor

/- RunsB -/
set_option linter.unusedVariables false
set_option linter.unusedSimpArgs false
namespace Go.Pw
open Go.RowKit
def inB (lo hi n : Int) : Bool := decide (lo ≤ n) && decide (n ≤ hi)
end Go.Pw
namespace Go.Proofs.YtkikbejpgfhfoaaDoor
open Go.RowKit Go.Pw
/-- what text.Runs says first -/
def runsErr (o : Sp) (s : ByteArray) (mem ways : Int) : Int := firstNZ [ordErr o, if !inB 1 65536 mem then 3 else 0, if !inB 2 16 ways then 3 else 0, if bigB s then 2 else 0]
set_option maxHeartbeats 1000000 in
set_option maxRecDepth 100000 in
theorem textRuns_bad (o : Sp) (kv : Value) (s : ByteArray) (mem ways n : Int) (w : World) (hk : KeysIn w kv o.keys) (hsep : o.sep.size ≤ 9223372036854775807) (hs : s.size ≤ maxLen) (hn : n ≠ 0) (hsp : runsErr o s mem ways = n) :
    Calls Tryd.prog 41 #[spV o kv, .string s, .int .i64 mem, .int .i64 ways] w fun e w' => e = .returned (.tuple #[.string ⟨#[]⟩, .int .i64 0, .int .i64 n]) ∧ Below w.heap.size w w' := by
  obtain ⟨A, cap, rfl⟩ : ∃ A cap, kv = .slice A o.keys.length cap := by
    obtain ⟨_, A, cap, h, _⟩ := hk
    exact ⟨A, cap, h⟩
  have hB0 := ((Below.refl w.heap.size w).alloc (Nat.le_refl _) (.cells #[.string o.sep, (.slice A o.keys.length cap), .bool o.reverse, .bool o.stable, .bool o.unique] 24))
  have HV := hide (valid_any o (.slice A o.keys.length cap) _ (hk.below hB0) hsep)
  have HB0 := hide hB0
  unfold maxLen at hs
  have HLG := hide (fun W => large_any s W (by omega))
  have hne : (n != 0) = true := by simpa using hn
  unfold runsErr at hsp
  clear hk hB0
  unfold spV at HV ⊢
  by_cases he : ordErr o = 0
  · rw [he] at HV hsp
    have HWM := hide (fun W => within_any mem 1 65536 W)
    have HWW := hide (fun W => within_any ways 2 16 W)
    have e1 : (decide (1 ≤ mem) && decide (mem ≤ 65536)) = inB 1 65536 mem := rfl
    have e2 : (decide (2 ≤ ways) && decide (ways ≤ 16)) = inB 2 16 ways := rfl
    simp only [e1] at HWM
    simp only [e2] at HWW
    clear e1 e2
    cases hm : inB 1 65536 mem
    · rw [hm] at hsp
      simp only [hm] at HWM
      obtain rfl : n = 3 := by simpa [firstNZ] using hsp.symm
      clear hsp he
      go_enter Tryd.func41, Tryd.ntmps41
      go_wp2_with fail
      refine HV.out.mono ?_
      rintro e w1 ⟨rfl, hb1⟩
      have HB1 := hide (HB0.out.trans (hb1.mono (by simp)))
      clear hb1
      go_wp2_with fail
      refine (HWM.out _).mono ?_
      rintro e w' ⟨rfl, rfl⟩
      go_wp2_with fail
      go_ret3
      exact ⟨rfl, HB1.out⟩
    · simp only [hm] at HWM
      cases hw : inB 2 16 ways
      · rw [hm, hw] at hsp
        simp only [hw] at HWW
        obtain rfl : n = 3 := by simpa [firstNZ] using hsp.symm
        clear hsp he
        go_enter Tryd.func41, Tryd.ntmps41
        go_wp2_with fail
        refine HV.out.mono ?_
        rintro e w1 ⟨rfl, hb1⟩
        have HB1 := hide (HB0.out.trans (hb1.mono (by simp)))
        clear hb1
        go_wp2_with fail
        refine (HWM.out _).mono ?_
        rintro e w' ⟨rfl, rfl⟩
        go_wp2_with fail
        refine (HWW.out _).mono ?_
        rintro e w' ⟨rfl, rfl⟩
        go_wp2_with fail
        go_ret3
        exact ⟨rfl, HB1.out⟩
      · simp only [hw] at HWW
        cases hb : bigB s
        · rw [hm, hw, hb] at hsp
          simp [firstNZ] at hsp
          exact absurd hsp.symm hn
        · rw [hm, hw, hb] at hsp
          simp only [hb] at HLG
          obtain rfl : n = 2 := by simpa [firstNZ] using hsp.symm
          clear hsp he
          go_enter Tryd.func41, Tryd.ntmps41
          go_wp2_with fail
          refine HV.out.mono ?_
          rintro e w1 ⟨rfl, hb1⟩
          have HB1 := hide (HB0.out.trans (hb1.mono (by simp)))
          clear hb1
          go_wp2_with fail
          refine (HWM.out _).mono ?_
          rintro e w' ⟨rfl, rfl⟩
          go_wp2_with fail
          refine (HWW.out _).mono ?_
          rintro e w' ⟨rfl, rfl⟩
          go_wp2_with fail
          refine (HLG.out _).mono ?_
          rintro e w2 ⟨rfl, hb2⟩
          have HB2 := hide (HB1.out.trans (hb2.mono HB1.out.size))
          clear hb2
          go_wp2_with fail
          go_ret3
          exact ⟨rfl, HB2.out⟩
  · have hn2 : ordErr o = n := by rw [firstNZ, if_neg he] at hsp; exact hsp
    rw [hn2] at HV
    clear hsp he hn2
    go_enter Tryd.func41, Tryd.ntmps41
    go_wp2_with fail
    refine HV.out.mono ?_
    rintro e w1 ⟨rfl, hb1⟩
    have HB1 := hide (HB0.out.trans (hb1.mono (by simp)))
    clear hb1
    go_wp2_with fail
    go_ret3
    exact ⟨rfl, HB1.out⟩
end Go.Proofs.YtkikbejpgfhfoaaDoor
