/- Printf: written at any directive; what the main loop holds. -/
import Derived.Test.YtifpmigghplmoaaGreatDoorZPrE
import Derived.Test.YtifpmigghplmoaaGreatDoorZPfWn
import Derived.Test.YtifpmigghplmoaaGreatDoorShelf6
set_option linter.unusedVariables false
set_option linter.unusedSimpArgs false
namespace Go.Pw
open Go.RowKit
def texts (gs : List ByteArray) : List (List UInt8) := gs.map (·.data.toList)
/-- how far the program has come in its rounds -/
def LpAt (ds : List Dv) (l gs : List ByteArray) (out : List UInt8) (r : Nat) (tk : Bool) : Prop :=
  (gs.length ≤ l.length ∧ r + gs.length ≤ l.length + 1) ∧ (r ≠ 0 → tk = takP ds) ∧ lopP ds (l.length + 1) (texts l) [] = if r = 0 ∨ (tk = true ∧ gs ≠ []) then lopP ds (gs.length + 1) (texts gs) out else (out, 0)
theorem LpAt.start (ds : List Dv) (l : List ByteArray) (tk : Bool) : LpAt ds l l [] 0 tk := ⟨⟨Nat.le_refl _, by omega⟩, fun h => absurd rfl h, by rw [if_pos (Or.inl rfl)]⟩
/-- how far the program has come in a round -/
def RnAt (ds : List Dv) (gs0 gs : List ByteArray) (out0 out : List UInt8) (j : Nat) (tk : Bool) : Prop :=
  gs.length ≤ gs0.length ∧ tk = takP (ds.take j) ∧ rndP ds (texts gs0) out0 = rndP (ds.drop j) (texts gs) out
theorem RnAt.start (ds : List Dv) (gs : List ByteArray) (out : List UInt8) : RnAt ds gs gs out out 0 false := ⟨Nat.le_refl _, by simp [takP], by simp⟩
section
variable {ds : List Dv} {gs0 gs : List ByteArray} {out0 out : List UInt8} {j : Nat} {tk : Bool} {d : Dv}
theorem tak_next (hd : ds[j]? = some d) : takP (ds.take (j + 1)) = (takP (ds.take j) || (d.lt != 0)) := by
  unfold takP
  rw [List.take_add_one, hd]; simp
theorem drop_next (hd : ds[j]? = some d) : ds.drop j = d :: ds.drop (j + 1) := by
  obtain ⟨h, rfl⟩ := List.getElem?_eq_some_iff.1 hd
  exact List.drop_eq_getElem_cons h
theorem RnAt.txt (h : RnAt ds gs0 gs out0 out j tk) (hd : ds[j]? = some d) (h0 : d.lt = 0) (hl : ¬ 65536 < (out ++ d.tx).length) : RnAt ds gs0 gs out0 (out ++ d.tx) (j + 1) tk := by
  obtain ⟨a, b, c⟩ := h
  refine ⟨a, by rw [tak_next hd, ← b, h0]; simp, ?_⟩
  rw [c, drop_next hd, rndP, if_pos h0, if_neg hl]
theorem RnAt.txtBig (h : RnAt ds gs0 gs out0 out j tk) (hd : ds[j]? = some d) (h0 : d.lt = 0) (hl : 65536 < (out ++ d.tx).length) : rndP ds (texts gs0) out0 = .inl 2 := by
  obtain ⟨a, b, c⟩ := h
  rw [c, drop_next hd, rndP, if_pos h0, if_pos hl]
theorem RnAt.err (h : RnAt ds gs0 gs out0 out j tk) (hd : ds[j]? = some d) (h0 : ¬ d.lt = 0) {a : List UInt8} (ha : (texts gs).headD [] = a) (he : ¬ (wrP d a).2 = 0) : rndP ds (texts gs0) out0 = .inl (wrP d a).2 := by
  obtain ⟨a', b, c⟩ := h
  rw [c, drop_next hd, rndP, if_neg h0, ha, if_neg he]
theorem RnAt.dirBig (h : RnAt ds gs0 gs out0 out j tk) (hd : ds[j]? = some d) (h0 : ¬ d.lt = 0) {a : List UInt8} (ha : (texts gs).headD [] = a) (he : (wrP d a).2 = 0) (hl : 65536 < (out ++ (wrP d a).1).length) : rndP ds (texts gs0) out0 = .inl 2 := by
  obtain ⟨a', b, c⟩ := h
  rw [c, drop_next hd, rndP, if_neg h0, ha, if_pos he, if_pos hl]
theorem RnAt.dir (h : RnAt ds gs0 gs out0 out j tk) (hd : ds[j]? = some d) (h0 : ¬ d.lt = 0) {a : List UInt8} (ha : (texts gs).headD [] = a) (he : (wrP d a).2 = 0) (hl : ¬ 65536 < (out ++ (wrP d a).1).length) {gs2 : List ByteArray} (h2 : gs2 = gs.tail) : RnAt ds gs0 gs2 out0 (out ++ (wrP d a).1) (j + 1) true := by
  obtain ⟨a', b, c⟩ := h
  subst h2
  refine ⟨by rw [List.length_tail]; omega, by rw [tak_next hd]; simp [h0], ?_⟩
  rw [c, drop_next hd, rndP, if_neg h0, ha, if_pos he, if_neg hl]
  unfold texts; rw [List.map_tail]
theorem RnAt.done (h : RnAt ds gs0 gs out0 out j tk) (hj : ds.length ≤ j) : rndP ds (texts gs0) out0 = .inr (out, texts gs) ∧ tk = takP ds := by
  obtain ⟨a', b, c⟩ := h
  rw [List.drop_of_length_le hj, rndP] at c
  rw [List.take_of_length_le hj] at b
  exact ⟨c, b⟩
end
theorem texts_nil {gs : List ByteArray} : texts gs = [] ↔ gs = [] := by unfold texts; simp
theorem LpAt.bad {ds : List Dv} {l gs : List ByteArray} {out : List UInt8} {r : Nat} {tk : Bool} {e : Int} (h : LpAt ds l gs out r tk) (hc : r = 0 ∨ (tk = true ∧ gs ≠ [])) (he : rndP ds (texts gs) out = .inl e) : lopP ds (l.length + 1) (texts l) [] = ([], e) := by
  rw [h.2.2, if_pos hc, lopP, he]
theorem LpAt.round {ds : List Dv} {l gs gs2 : List ByteArray} {out out2 : List UInt8} {r : Nat} {tk : Bool} (h : LpAt ds l gs out r tk) (hc : r = 0 ∨ (tk = true ∧ gs ≠ [])) (he : rndP ds (texts gs) out = .inr (out2, texts gs2)) :
    LpAt ds l gs2 out2 (r + 1) (takP ds) ∧ gs2.length ≤ gs.length ∧ (r ≠ 0 → gs2.length < gs.length) := by
  obtain ⟨a, b⟩ := rndP_len ds (texts gs) out out2 (texts gs2) he
  have l1 : ∀ x : List ByteArray, (texts x).length = x.length := fun x => by unfold texts; simp
  rw [l1, l1] at a
  have hlt : r ≠ 0 → gs2.length < gs.length := fun hr => by
    rcases hc with hc | ⟨hc, hg⟩
    · exact absurd hc hr
    · have := b (by rw [← h.2.1 hr]; exact hc) (fun e => hg (texts_nil.1 e))
      rw [l1, l1] at this; exact this
  refine ⟨⟨?_, fun _ => rfl, ?_⟩, a, hlt⟩
  · obtain ⟨x1, x2⟩ := h.1
    refine ⟨by omega, ?_⟩
    by_cases hr : r = 0
    · omega
    · have := hlt hr; omega
  · rw [h.2.2, if_pos hc, lopP, he]
    simp only
    by_cases ht : takP ds = true ∧ gs2 ≠ []
    · have hne : gs ≠ [] := fun e => by subst e; simp at a; exact ht.2 a
      have hlen := b ht.1 (fun e => hne (texts_nil.1 e))
      rw [if_pos ⟨ht.1, fun e => ht.2 (texts_nil.1 e)⟩, if_pos (Or.inr ht)]
      exact lopP_fuel ds _ _ _ _ (by rw [l1] at hlen ⊢; rw [l1] at hlen; exact hlen) (by rw [l1]; omega)
    · rw [if_neg (fun x => ht ⟨x.1, fun e => x.2 (texts_nil.2 e)⟩), if_neg (fun x => x.elim (by omega) ht)]
theorem LpAt.done {ds : List Dv} {l gs : List ByteArray} {out : List UInt8} {r : Nat} {tk : Bool} (h : LpAt ds l gs out r tk) (hc : ¬ (r = 0 ∨ (tk = true ∧ gs ≠ []))) : lopP ds (l.length + 1) (texts l) [] = (out, 0) := by
  rw [h.2.2, if_neg hc]
theorem dsC_at : ∀ (ds : List Dv) (j : Nat) (d : Dv), ds[j]? = some d → ∀ i, i < 6 → (dsC ds)[j * 6 + i]? = (dvC d)[i]?
  | x :: ds, 0, d, h, i, hi => by
    simp at h; subst h
    unfold dsC
    rw [List.flatMap_cons, List.getElem?_append_left (by unfold dvC; simp; omega)]
    simp
  | x :: ds, j + 1, d, h, i, hi => by
    have ih := dsC_at ds j d (by simpa using h) i hi
    unfold dsC at ih ⊢
    rw [List.flatMap_cons, List.getElem?_append_right (by unfold dvC; simp; omega), show (j + 1) * 6 + i - (dvC x).toList.length = j * 6 + i by unfold dvC; simp; omega]
    exact ih
end Go.Pw
namespace Go.Proofs.YtifpmigghplmoaaGreatDoor
open Go.RowKit Go.Pw Go.Shelf
theorem written_any (d : Dv) (hd : DvOk d) (a : List UInt8) (ha : a.length ≤ 900000) (w : World) (hE : ErrT w) (hT : PowTab w) (hZ : TzT w) :
    Calls Tryz.prog 35 #[dvV d, .string (mkB a)] w fun e w' => e = .returned (.tuple #[.string (mkB (wrP d a).1), .int .i64 (wrP d a).2]) ∧ Below w.heap.size w w' := by
  obtain ⟨tx, fl, wd, dot, pr, lt⟩ := d
  by_cases c1 : lt = 115
  · subst c1
    cases dot
    · exact written_s_f tx fl wd pr hd a ha w hE
    · exact written_s_t tx fl wd pr hd a ha w hE
  by_cases c2 : lt = 98
  · subst c2
    cases dot
    · exact written_b_f tx fl wd pr hd a ha w hE
    · exact written_b_t tx fl wd pr hd a ha w hE
  by_cases c3 : lt = 99
  · subst c3
    cases dot
    · exact written_c_f tx fl wd pr hd a ha w hE
    · exact written_c_t tx fl wd pr hd a ha w hE
  have hl : ¬ (lt = 115 ∨ lt = 98 ∨ lt = 99) := by simp [c1, c2, c3]
  cases dot
  · exact written_n_f tx fl wd pr lt hl hd a ha w hE hT hZ
  · exact written_n_t tx fl wd pr lt hl hd a ha w hE hT hZ
/-- the cells of directives that a call has laid -/
theorem own_dirs {w : World} {base : Nat} {t : TypeId} {v : Value} {ds : List Dv} (hown : w.ownsRow base t 6 v ds.length (dsC ds)) :
    ∃ A cap, v = .slice A ds.length cap ∧ ∀ (j : Nat) (d : Dv), ds[j]? = some d → ∃ g, A = some ⟨g, 0, none⟩ ∧ g < w.heap.size ∧
      w.cell? ⟨g, j * 6, none⟩ = some (.string (mkB d.tx)) ∧ w.cell? ⟨g, j * 6 + 1, none⟩ = some (.string (mkB d.fl)) ∧ w.cell? ⟨g, j * 6 + 2, none⟩ = some (.int .i64 (d.wd : Int)) ∧
      w.cell? ⟨g, j * 6 + 3, none⟩ = some (.bool d.dot) ∧ w.cell? ⟨g, j * 6 + 4, none⟩ = some (.int .i64 (d.pr : Int)) ∧ w.cell? ⟨g, j * 6 + 5, none⟩ = some (.int .u8 (d.lt.toNat : Int)) := by
  obtain ⟨_, A, cap, hv, _, _, hx⟩ := Rd.of_own hown
  refine ⟨A, cap, hv, fun j d hd => ?_⟩
  obtain ⟨hj, -⟩ := List.getElem?_eq_some_iff.1 hd
  have h0 : 0 < ds.length := by omega
  obtain ⟨b, o, rfl, hb, hjj⟩ := hx h0
  rcases hown.2 with ⟨_, h0⟩ | ⟨g, cap', cur, hv', _⟩
  · omega
  · rw [hv] at hv'
    injection hv' with e1 e2 e3
    injection e1 with e1
    injection e1 with e1 e4 e5
    subst e1 e4
    refine ⟨b, rfl, hb, ?_⟩
    have h := fun i hi => dsC_at ds j d hd i hi
    have k0 := hjj _ _ ((h 0 (by omega)).trans rfl)
    have k1 := hjj _ _ ((h 1 (by omega)).trans rfl)
    have k2 := hjj _ _ ((h 2 (by omega)).trans rfl)
    have k3 := hjj _ _ ((h 3 (by omega)).trans rfl)
    have k4 := hjj _ _ ((h 4 (by omega)).trans rfl)
    have k5 := hjj _ _ ((h 5 (by omega)).trans rfl)
    simp only [Nat.zero_add, Nat.add_zero] at k0 k1 k2 k3 k4 k5
    exact ⟨k0, k1, k2, k3, k4, k5⟩
/-- l[1:] of a slice of strings, under one name -/
theorem cut_oneP {w : World} {A : Option Addr} {cap : Nat} {l : List ByteArray} {s : ByteArray} (h : Strs w (.slice A (l.length + 1) cap) (s :: l)) :
    ∃ A' cap', (∀ W, (Instr.slice 33 (.slice A (l.length + 1) cap) (some (.int .i64 1)) none none).run Tryz.prog W = .ok (.slice A' l.length cap') W) ∧ Strs w (.slice A' l.length cap') l := by
  have h2 := Strs.from_ (lo := 1) (l := s :: l) h (by simp)
  have hc : l.length + 1 ≤ cap := by obtain ⟨⟨_, _, _, hv, hc, _⟩, _⟩ := h; injection hv with _ _ e; simp at hc; omega
  have h2' := h2
  obtain ⟨⟨_, A', cap', e, _⟩, _⟩ := h2'
  refine ⟨A', cap', fun W => ?_, ?_⟩
  · rw [show ((s :: l).drop 1).length = l.length from rfl] at e
    rw [← e]
    have h1 : ¬ ((l.length : Int) + 1 < 1) := by omega
    simp [go_sem, h1]
  · rw [e] at h2
    exact h2
theorem strs_at {w : World} {A : Option Addr} {n cap k : Nat} {l : List ByteArray} {s : ByteArray} (h : Strs w (.slice A n cap) l) (hk : l[k]? = some s) :
    ∃ b o, A = some ⟨b, o, none⟩ ∧ b < w.heap.size ∧ w.cell? ⟨b, o + k, none⟩ = some (.string s) := by
  obtain ⟨hlt, -⟩ := List.getElem?_eq_some_iff.1 hk
  obtain ⟨⟨_, A', cap', e, _, _, hx⟩, _⟩ := h
  injection e with e1 e2 e3
  subst e1
  obtain ⟨b, o, rfl, hb, hj⟩ := hx (by omega)
  exact ⟨b, o, rfl, hb, hj k (.string s) (by rw [List.getElem?_map, hk]; rfl)⟩
theorem strs_head {w : World} {A : Option Addr} {n cap : Nat} {l : List ByteArray} {s : ByteArray} (h : Strs w (.slice A n cap) (s :: l)) :
    ∃ b o, A = some ⟨b, o, none⟩ ∧ b < w.heap.size ∧ w.cell? ⟨b, o, none⟩ = some (.string s) := by
  obtain ⟨⟨_, A', cap', e, _, _, hx⟩, _⟩ := h
  injection e with e1 e2 e3
  subst e1
  obtain ⟨b, o, rfl, hb, hj⟩ := hx (by simp)
  exact ⟨b, o, rfl, hb, by have := hj 0 (.string s) (by simp); simpa using this⟩
end Go.Proofs.YtifpmigghplmoaaGreatDoor
