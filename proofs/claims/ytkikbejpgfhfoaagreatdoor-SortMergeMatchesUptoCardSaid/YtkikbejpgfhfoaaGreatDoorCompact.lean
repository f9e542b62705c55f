/- slices.CompactFunc with the closure of told. -/
import Derived.Test.YtkikbejpgfhfoaaGreatDoorSortedP
import Derived.Test.YtkikbejpgfhfoaaGreatDoorSorts
import Derived.Test.YtkikbejpgfhfoaaGreatDoorStabV
import Derived.Lib.SliceRun
set_option linter.unusedVariables false
set_option linter.unusedSimpArgs false
namespace Go.Pw
open Go.RowKit
theorem But.setCells {N B : Nat} {a : World} : ∀ (vs : List Value) (o : Nat) (w : World), But N B a w → But N B a (w.setCells B o vs)
  | [], _, _, h => h
  | v :: vs, o, w, h => But.setCells vs (o + 1) _ (h.setCell o v)
theorem RowS.cell0 {w : World} {B i : Nat} {l : List ByteArray} {s : ByteArray} (h : RowS w B 0 l) (hs : l[i]? = some s) : w.cell? ⟨B, i, none⟩ = some (.string s) ∧ w.frozen? ⟨B, i, none⟩ = false := by
  have := h.2 i s hs
  simpa only [Nat.zero_add] using this
theorem RowS.set0 {w : World} {B i : Nat} {l : List ByteArray} (h : RowS w B 0 l) (s : ByteArray) (hi : i < l.length) : RowS (w.setCell ⟨B, i, none⟩ (.string s)) B 0 (l.set i s) := by
  have := h.set s hi
  simpa only [Nat.zero_add] using this
section
variable {f : ByteArray → ByteArray → Int}
/-- all lines up to place k are kept -/
def KeptTo (f : ByteArray → ByteArray → Int) (l : List ByteArray) (k : Nat) : Prop := ∀ p, l[k - 1]? = some p → cpt f l = l.take k ++ cptA f p (l.drop k)
theorem KeptTo.one {l : List ByteArray} (h : 0 < l.length) : KeptTo f l 1 := fun p hp => by
  cases l with
  | nil => simp at h
  | cons a l => simp at hp; subst hp; rfl
theorem KeptTo.next {l : List ByteArray} {k : Nat} {p y : ByteArray} (h : KeptTo f l k) (hk : 1 ≤ k) (hp : l[k - 1]? = some p) (hy : l[k]? = some y) (hne : ¬ f y p = 0) : KeptTo f l (k + 1) := fun q hq => by
  rw [Nat.add_sub_cancel, hy] at hq
  injection hq with hq
  subst hq
  obtain ⟨hlt, he⟩ := List.getElem?_eq_some_iff.1 hy
  rw [h p hp, List.drop_eq_getElem_cons hlt, he, cptA, if_neg hne, List.take_succ_eq_append_getElem hlt, he]
  simp
theorem KeptTo.all {l : List ByteArray} (h : KeptTo f l l.length) : cpt f l = l := by
  cases l with
  | nil => rfl
  | cons a l =>
    have := h (l.getLastD a) (by
      simp only [List.length_cons, Nat.add_sub_cancel]
      rw [List.getElem?_eq_getElem (by simp), lastD_at])
    rw [this, List.take_length, List.drop_length, cptA, List.append_nil]
/-- where the second loop stands: m is the list in memory, q the next place that is read, kk the next one that is written -/
structure CpAt (f : ByteArray → ByteArray → Int) (l m : List ByteArray) (q kk : Nat) : Prop where
  len : m.length = l.length
  lt : kk + 1 ≤ q
  le : q ≤ l.length
  rest : m.drop (q - 1) = l.drop (q - 1)
  out : ∀ p, l[q - 1]? = some p → cpt f l = m.take kk ++ cptA f p (l.drop q)
  mem : ∀ s ∈ m, s ∈ l
theorem CpAt.start {l : List ByteArray} {k : Nat} {p y : ByteArray} (h : KeptTo f l k) (hk : 1 ≤ k) (hp : l[k - 1]? = some p) (hy : l[k]? = some y) (he : f y p = 0) : CpAt f l l (k + 1) k := by
  obtain ⟨hlt, hye⟩ := List.getElem?_eq_some_iff.1 hy
  refine ⟨rfl, Nat.le_refl _, hlt, rfl, fun q hq => ?_, fun s hs => hs⟩
  rw [Nat.add_sub_cancel, hy] at hq
  injection hq with hq
  subst hq
  rw [h p hp, List.drop_eq_getElem_cons hlt, hye, cptA, if_pos he]
theorem CpAt.at {l m : List ByteArray} {q kk j : Nat} (h : CpAt f l m q kk) (hj : q - 1 ≤ j) : m[j]? = l[j]? := by
  have := congrArg (fun z => z[j - (q - 1)]?) h.rest
  simp only [List.getElem?_drop] at this
  rwa [show q - 1 + (j - (q - 1)) = j by omega] at this
theorem CpAt.skip {l m : List ByteArray} {q kk : Nat} {p y : ByteArray} (h : CpAt f l m q kk) (hp : l[q - 1]? = some p) (hy : l[q]? = some y) (he : f y p = 0) : CpAt f l m (q + 1) kk := by
  obtain ⟨hlt, hye⟩ := List.getElem?_eq_some_iff.1 hy
  have h1 := h.lt
  refine ⟨h.len, by omega, hlt, ?_, fun z hz => ?_, h.mem⟩
  · have := congrArg (List.drop 1) h.rest
    rw [List.drop_drop, List.drop_drop, show q - 1 + 1 = q by omega] at this
    exact this
  · rw [Nat.add_sub_cancel, hy] at hz
    injection hz with hz
    subst hz
    rw [h.out p hp, List.drop_eq_getElem_cons hlt, hye, cptA, if_pos he]
theorem CpAt.keep {l m : List ByteArray} {q kk : Nat} {p y : ByteArray} (h : CpAt f l m q kk) (hp : l[q - 1]? = some p) (hy : l[q]? = some y) (he : ¬ f y p = 0) : CpAt f l (m.set kk y) (q + 1) (kk + 1) := by
  obtain ⟨hlt, hye⟩ := List.getElem?_eq_some_iff.1 hy
  have h1 := h.lt
  have h2 := h.len
  refine ⟨by rw [List.length_set]; exact h2, by omega, hlt, ?_, fun z hz => ?_, fun s hs => ?_⟩
  · have := congrArg (List.drop 1) h.rest
    rw [List.drop_drop, List.drop_drop, show q - 1 + 1 = q by omega] at this
    rw [Nat.add_sub_cancel, ← this, List.drop_set_of_lt (by omega)]
  · rw [Nat.add_sub_cancel, hy] at hz
    injection hz with hz
    subst hz
    rw [h.out p hp, List.drop_eq_getElem_cons hlt, hye, cptA, if_neg he]
    have e : (m.set kk y).take (kk + 1) = m.take kk ++ [y] := by
      rw [List.take_succ_eq_append_getElem (by rw [List.length_set]; omega), List.getElem_set_self, List.take_set_of_le (Nat.le_refl _)]
    rw [e]; simp
  · rcases List.mem_or_eq_of_mem_set hs with hs | hs
    · exact h.mem s hs
    · subst hs; exact List.mem_of_getElem? hy
theorem CpAt.fin {l m : List ByteArray} {q kk : Nat} (h : CpAt f l m q kk) (hq : q = l.length) : cpt f l = m.take kk := by
  have h1 := h.lt
  have h2 := h.len
  subst hq
  have := h.out (l[l.length - 1]'(by omega)) (List.getElem?_eq_getElem _)
  rw [List.drop_length, cptA, List.append_nil] at this
  exact this
end
end Go.Pw
namespace Go.Proofs.YtkikbejpgfhfoaaGreatDoor
open Go.RowKit Go.Pw
set_option maxHeartbeats 4000000 in
set_option maxRecDepth 100000 in
theorem compactFunc_any (f : ByteArray → ByteArray → Int) (pv : Value) (N B cap len : Nat) (l : List ByteArray) (w : World) (hB : B < N) (hN : N ≤ w.heap.size) (hrow : RowS w B 0 l) (hlen : l.length = len) (hcap : len ≤ cap) (hc2 : cap ≤ 9223372036854775807) (hl2 : len ≤ 1000000000) (hsz : ∀ s ∈ l, s.size ≤ 65536)
    (hcmp : ∀ (x y : ByteArray) (w1 : World), x.size ≤ 65536 → y.size ≤ 65536 → But N B w w1 → Calls Tryz.prog 52 #[.string x, .string y, pv] w1 fun e w2 => e = .returned (.bool (f x y == 0)) ∧ Below w1.heap.size w1 w2) :
    Calls Tryz.prog 50 #[.slice (some ⟨B, 0, none⟩) len cap, .func (.func 52) #[] #[pv]] w
      fun e w' => e = .returned (.slice (some ⟨B, 0, none⟩) (cpt f l).length cap) ∧ RowS w' B 0 (cpt f l) ∧ But N B w w' := by
  have HSZ := hide hsz
  have HC := hide hcmp
  have HL := hide hlen
  clear hsz hcmp
  by_cases h2 : len < 2
  · have hd : (len : Int) < 2 := by omega
    have he : cpt f l = l := by
      match l, hlen with
      | [], _ => rfl
      | [x], _ => rfl
      | x :: y :: t, h => simp at h; omega
    have HE := hide he
    clear he hlen
    go_enter Tryz.func50, Tryz.ntmps50
    go_wp2_with fail
    go_ret
    exact ⟨by rw [HE.out, HL.out]; rfl, by rw [HE.out]; exact hrow, But.refl _ _ _⟩
  · have hd : ¬ ((len : Int) < 2) := by omega
    clear hlen
    go_enter Tryz.func50, Tryz.ntmps50
    go_wp2_with fail
    go_loopw [5] (fun i wr => ∃ k : Nat, 1 ≤ k ∧ k ≤ len ∧ i = .int .i64 (k : Int) ∧ Hid (KeptTo f l k) ∧ RowS wr B 0 l ∧ But N B w wr) (fun i _ => len - (intOf i).toNat)
    case atStart => exact ⟨1, Nat.le_refl _, by omega, rfl, hide (KeptTo.one (by have := HL.out; omega)), hrow, But.refl _ _ _⟩
    case round =>
      clear hrow
      obtain ⟨k, hk1, hk2, rfl, HK, hr, hb⟩ := hrel
      by_cases hlt : k < len
      · have hd1 : (k : Int) < (len : Int) := by omega
        have hll := HL.out
        have q1 : l[k - 1]? = some (l[k - 1]'(by omega)) := List.getElem?_eq_getElem _
        have q2 : l[k]? = some (l[k]'(by omega)) := List.getElem?_eq_getElem _
        obtain ⟨c1, f1⟩ := hr.cell0 q1
        obtain ⟨c2, f2⟩ := hr.cell0 q2
        have z1 := HSZ.out _ (List.mem_of_getElem? q1)
        have z2 := HSZ.out _ (List.mem_of_getElem? q2)
        have HNX := hide (fun h => HK.out.next hk1 q1 q2 h)
        have HST := hide (fun h => CpAt.start HK.out hk1 q1 q2 h)
        have hlB := hr.1
        obtain ⟨p, hp⟩ : ∃ p, l[k - 1]'(by omega) = p := ⟨_, rfl⟩
        obtain ⟨y, hy⟩ : ∃ y, l[k]'(by omega) = y := ⟨_, rfl⟩
        rw [hp] at c1 z1 HNX HST
        rw [hy] at c2 z2 HNX HST
        clear q1 q2 f1 f2 hp hy hll
        have hw1 : IntKind.i64.wrap ((k : Int) - 1) = (k : Int) - 1 := IntWalk.i64_in _ (by omega)
        have hw2 : ((k : Int) - 1).toNat = k - 1 := by omega
        have hw3 : (0 : Int) ≤ (k : Int) - 1 := by omega
        have hw4 : (k : Int) - 1 < (len : Int) := by omega
        have hw6 : (1 : Int) ≤ (k : Int) := by omega
        by_cases hdup : f y p = 0
        · have he : (f y p == 0) = true := by simpa using hdup
          have HS := hide (HST.out hdup)
          clear HNX HST hdup
          go_wp2_with fail
          go_region_held3 (fun w' => w'.cell? ⟨B, k, none⟩ = some (.string y) ∧ w'.cell? ⟨B, k - 1, none⟩ = some (.string p)) (go_keep) ((go_at_call 52; (with_reducible refine (HC.out y p _ z2 z1 (But.drew hb)).mono ?_); rintro e w1 ⟨rfl, hbl⟩; have hbl' : Below wr.heap.size wr w1 := ⟨hbl.os, hbl.tape, hbl.output, hbl.size, hbl.block⟩; have q1 : w1.cell? ⟨B, k, none⟩ = some (.string y) := (hbl'.cell hlB).trans c2; have q2 : w1.cell? ⟨B, k - 1, none⟩ = some (.string p) := (hbl'.cell hlB).trans c1))
          have hr2 : RowS w1 B 0 l := hr.below hbl' hlB
          have hb2 : But N B w w1 := hb.trans (But.of_below hbl' (by have := hb.size; omega))
          have hkc : ¬ cap = k := by omega
          have hkc2 : ¬ k = cap := by omega
          clear hbl hbl' c1 c2 hr hb hlB
          go_wp2_with fail
          go_loopw [5, 7] (fun x z wr => ∃ (kk j : Nat) (m : List ByteArray), x = .int .i64 (kk : Int) ∧ z = .int .i64 (j : Int) ∧ 1 ≤ j ∧ k + j ≤ len ∧ Hid (CpAt f l m (k + j) kk) ∧ RowS wr B 0 m ∧ But N B w wr) (fun _ z _ => len - k - (intOf z).toNat)
          case atStart => exact ⟨k, 1, l, rfl, rfl, Nat.le_refl _, by omega, HS, hr2, hb2⟩
          case round =>
            clear hr2 hb2 HS
            obtain ⟨kk, j, m, rfl, rfl, hj1, hj2, hat, hr, hb⟩ := hrel
            have hkk := hat.out.lt
            have hml := hat.out.len
            have hll := HL.out
            have hlB := hr.1
            by_cases hlj : k + j < len
            · have hd2 : (j : Int) < ((len - k : Nat) : Int) := by omega
              have q1 : l[k + j - 1]? = some (l[k + j - 1]'(by omega)) := List.getElem?_eq_getElem _
              have q2 : l[k + j]? = some (l[k + j]'(by omega)) := List.getElem?_eq_getElem _
              obtain ⟨c1, f1⟩ := hr.cell0 ((hat.out.at (by omega)).trans q1)
              obtain ⟨c2, f2⟩ := hr.cell0 ((hat.out.at (by omega)).trans q2)
              obtain ⟨t, qk⟩ : ∃ t, m[kk]? = some t := ⟨_, List.getElem?_eq_getElem (by omega)⟩
              obtain ⟨c3, f3⟩ := hr.cell0 qk
              have z1 := HSZ.out _ (List.mem_of_getElem? q1)
              have z2 := HSZ.out _ (List.mem_of_getElem? q2)
              have HSK := hide (fun h => hat.out.skip q1 q2 h)
              have HKP := hide (fun h => hat.out.keep q1 q2 h)
              obtain ⟨u, hu⟩ : ∃ u, l[k + j - 1]'(by omega) = u := ⟨_, rfl⟩
              obtain ⟨v, hv⟩ : ∃ v, l[k + j]'(by omega) = v := ⟨_, rfl⟩
              rw [hu] at c1 z1 HSK HKP
              rw [hv] at c2 z2 HSK HKP
              rw [show k + j - 1 = k + (j - 1) by omega] at c1
              have hr3 := fun w1 (h : RowS w1 B 0 m) => h.set0 v (i := kk) (by omega)
              have HR3 := hide hr3
              clear q1 q2 qk f1 f2 hu hv hll hr3 hat
              have hx1 : IntKind.i64.wrap ((j : Int) - 1) = (j : Int) - 1 := IntWalk.i64_in _ (by omega)
              have hx2 : ((j : Int) - 1).toNat = j - 1 := by omega
              have hx3 : (0 : Int) ≤ (j : Int) - 1 := by omega
              have hx4 : (j : Int) - 1 < ((len - k : Nat) : Int) := by omega
              have hx6 : (1 : Int) ≤ (j : Int) := by omega
              have hx7 : (kk : Int) < (len : Int) := by omega
              by_cases hdup : f v u = 0
              · have he2 : (f v u == 0) = true := by simpa using hdup
                have HS := hide (HSK.out hdup)
                clear HSK HKP hdup c3 f3
                go_wp2_with fail
                go_region_held3 (fun w' => w'.cell? ⟨B, k + j, none⟩ = some (.string v) ∧ w'.cell? ⟨B, k + (j - 1), none⟩ = some (.string u)) (go_keep) ((go_at_call 52; (with_reducible refine (HC.out v u _ z2 z1 (But.drew hb)).mono ?_); rintro e w1 ⟨rfl, hbl⟩; have hbl' : Below wr.heap.size wr w1 := ⟨hbl.os, hbl.tape, hbl.output, hbl.size, hbl.block⟩; have q1 : w1.cell? ⟨B, k + j, none⟩ = some (.string v) := (hbl'.cell hlB).trans c2; have q2 : w1.cell? ⟨B, k + (j - 1), none⟩ = some (.string u) := (hbl'.cell hlB).trans c1))
                have hr2 : RowS w1 B 0 m := hr.below hbl' hlB
                have hb2 : But N B w w1 := hb.trans (But.of_below hbl' (by have := hb.size; omega))
                clear hbl hbl' c1 c2 hr hb hlB
                go_wp2_with fail
                go_roundw
                case rel => exact ⟨kk, j + 1, m, rfl, by go_num, by omega, by omega, HS, hr2, hb2⟩
                case measure => simp [intOf]; omega
              · have he2 : (f v u == 0) = false := by simpa using hdup
                have HS := hide (HKP.out hdup)
                clear HSK HKP hdup
                go_wp2_with fail
                go_region_held3 (fun w' => w'.cell? ⟨B, k + j, none⟩ = some (.string v) ∧ w'.cell? ⟨B, k + (j - 1), none⟩ = some (.string u)) (go_keep) ((go_at_call 52; (with_reducible refine (HC.out v u _ z2 z1 (But.drew hb)).mono ?_); rintro e w1 ⟨rfl, hbl⟩; have hbl' : Below wr.heap.size wr w1 := ⟨hbl.os, hbl.tape, hbl.output, hbl.size, hbl.block⟩; have q1 : w1.cell? ⟨B, k + j, none⟩ = some (.string v) := (hbl'.cell hlB).trans c2; have q2 : w1.cell? ⟨B, k + (j - 1), none⟩ = some (.string u) := (hbl'.cell hlB).trans c1))
                have hr2 : RowS w1 B 0 m := hr.below hbl' hlB
                have hb2 : But N B w w1 := hb.trans (But.of_below hbl' (by have := hb.size; omega))
                have c3' : w1.cell? ⟨B, kk, none⟩ = some (.string t) := (hbl'.cell (p := ⟨B, kk, none⟩) hlB).trans c3
                have f3' : w1.frozen? ⟨B, kk, none⟩ = false := (hbl'.frozen (p := ⟨B, kk, none⟩) hlB).trans f3
                have hr4 := hide (HR3.out _ hr2)
                have hb4 := hide (hb2.setCell kk (.string v))
                clear hbl hbl' c1 hr hb hlB c3 f3
                go_wp2_with fail
                go_roundw
                case rel => exact ⟨kk + 1, j + 1, _, by go_num, by go_num, by omega, by omega, HS, hr4.out, hb4.out⟩
                case measure => simp [intOf]; omega
            · have hd2 : ¬ ((j : Int) < ((len - k : Nat) : Int)) := by omega
              have HF := hide (hat.out.fin (by omega))
              have hcl : ∀ ty, (Builtin.clear_ #[25] ty #[.slice (some ⟨B, kk, none⟩) (len - kk) (cap - kk)]).run Tryz.prog wr = .ok (.tuple #[]) (wr.setCells B kk (List.replicate (len - kk) (.string ⟨#[]⟩))) := fun ty =>
                Lib.run_clear_slice wr _ _ ty _ Tryz.underlying25 Tryz.zeroValue9 rfl rfl B kk _ _ (by omega)
                  (fun i hi => by rw [(hr.cell0 (List.getElem?_eq_getElem (show kk + i < m.length by omega))).1]; rfl)
                  (fun i hi => (hr.cell0 (List.getElem?_eq_getElem (show kk + i < m.length by omega))).2)
              have HRF : Hid (RowS (wr.setCells B kk (List.replicate (len - kk) (.string ⟨#[]⟩))) B 0 (cpt f l)) := hide (by
                rw [HF.out]
                have hbs := (But.setCells (N := N) (B := B) (List.replicate (len - kk) (.string ⟨#[]⟩)) kk wr (But.refl _ _ wr)).size
                refine ⟨by omega, fun i s hs => ?_⟩
                rw [List.getElem?_take] at hs
                split at hs
                · obtain ⟨g1, g2⟩ := hr.cell0 hs
                  rw [Nat.zero_add, World.cell?_setCells_out _ _ _ _ _ (fun _ _ => .inl (by show i < kk; omega)), World.frozen?_setCells]
                  exact ⟨g1, g2⟩
                · cases hs)
              have HBF := hide (But.setCells (List.replicate (len - kk) (.string ⟨#[]⟩)) kk wr hb)
              have hkc3 : ¬ cap = kk := by omega
              have hkc4 : ¬ kk = cap := by omega
              have hx7 : (kk : Int) ≤ (len : Int) := by omega
              clear hr hb
              go_wp2_with fail
              have hlk : (cpt f l).length = kk := by rw [HF.out, List.length_take]; omega
              go_ret
              exact ⟨by rw [hlk]; rfl, HRF.out, HBF.out⟩
        · have he : (f y p == 0) = false := by simpa using hdup
          have HS := hide (HNX.out hdup)
          clear HNX HST hdup
          go_wp2_with fail
          go_region_held3 (fun w' => w'.cell? ⟨B, k, none⟩ = some (.string y) ∧ w'.cell? ⟨B, k - 1, none⟩ = some (.string p)) (go_keep) ((go_at_call 52; (with_reducible refine (HC.out y p _ z2 z1 (But.drew hb)).mono ?_); rintro e w1 ⟨rfl, hbl⟩; have hbl' : Below wr.heap.size wr w1 := ⟨hbl.os, hbl.tape, hbl.output, hbl.size, hbl.block⟩; have q1 : w1.cell? ⟨B, k, none⟩ = some (.string y) := (hbl'.cell hlB).trans c2; have q2 : w1.cell? ⟨B, k - 1, none⟩ = some (.string p) := (hbl'.cell hlB).trans c1))
          have hr2 : RowS w1 B 0 l := hr.below hbl' hlB
          have hb2 : But N B w w1 := hb.trans (But.of_below hbl' (by have := hb.size; omega))
          clear hbl hbl' c1 c2 hr hb hlB
          go_wp2_with fail
          go_roundw
          case rel => exact ⟨k + 1, by omega, by omega, by go_num, HS, hr2, hb2⟩
          case measure => simp [intOf]; omega
      · obtain rfl : k = len := by omega
        have he := HK.out
        rw [← HL.out] at he
        have HE := hide he.all
        clear he
        go_wp2_with fail
        go_ret
        exact ⟨by rw [HE.out, HL.out]; rfl, by rw [HE.out]; exact hr, hb⟩
end Go.Proofs.YtkikbejpgfhfoaaGreatDoor
