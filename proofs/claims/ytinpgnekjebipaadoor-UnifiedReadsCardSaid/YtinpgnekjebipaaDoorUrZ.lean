/- The reference's ReadPatch: what is known between two lines, and a line's step. -/
import Derived.Test.YtinpgnekjebipaaDoorUrX
import Derived.Test.YtinpgnekjebipaaDoorUrK
set_option linter.unusedSimpArgs false
set_option linter.unusedVariables false
namespace Go.Proofs.YtinpgnekjebipaaDoor
open Go.RowKit Go.Pw
/-- between two groups -/
structure RgAt (w1 wr : World) (R : UrRes) (L : List ByteArray) (k : Nat) (hv : Value) (n : Nat) (oe de : Int) (lg : Bool) : Prop where
  bel : Below w1.heap.size w1 wr
  run : ∃ fin vs oa na, fin.length = n ∧ HkOwn wr 46 9 w1.heap.size hv fin vs (.slice none 0 0) [] ∧ UnOk ⟨fin, none, oa, 0, na, 0, oe, de, [], lg⟩ k ∧ R = urRun hdS (L.drop k) k ⟨fin, none, oa, 0, na, 0, oe, de, [], lg⟩
/-- within a group: what the machine of UrP knows -/
def inUn (fin : List Hk) (ch : Bool) (now : Hk) (oa : Int) (nc : Nat) (na : Int) (mc : Nat) (oe de : Int) (wait : List ByteArray) (lg : Bool) : Un :=
  ⟨fin, if ch then some now else none, oa + wait.length, nc, na + wait.length, mc, oe, de, wait, lg⟩
structure InAt (w1 wr : World) (X Y : Nat) (R : UrRes) (L : List ByteArray) (k : Nat) (out : Value) (lg : Bool) (nc mc : Nat) (oa na : Int) (ch : Bool) (cv : Value) (oe de : Int) (q0 q1 q2 q3 : Nat) : Prop where
  run : ∃ fin vs now o n wait, RpAt w1 wr X Y out fin vs now o n cv wait q0 q1 q2 q3 ∧ (ch = false → now = ⟨oa, na, [], []⟩) ∧ UnOk (inUn fin ch now oa nc na mc oe de wait lg) k ∧ R = urRun hdS (L.drop k) k (inUn fin ch now oa nc na mc oe de wait lg).rest
section
variable {fin : List Hk} {ch : Bool} {now : Hk} {oa na oe de : Int} {nc mc : Nat} {wait : List ByteArray} {lg : Bool} {x : ByteArray}
/-- a line that the group cannot take -/
def badL (x : ByteArray) (nc mc : Nat) : Prop := x.size = 0 ∨ (sgn x = 32 ∧ (nc = 0 ∨ mc = 0)) ∨ (sgn x = 45 ∧ nc = 0) ∨ (sgn x = 43 ∧ mc = 0) ∨ (sgn x ≠ 32 ∧ sgn x ≠ 45 ∧ sgn x ≠ 43)
instance (x : ByteArray) (nc mc : Nat) : Decidable (badL x nc mc) := by unfold badL; infer_instance
theorem step_bad (h : badL x nc mc) : (inUn fin ch now oa nc na mc oe de wait lg).step x = none := by
  unfold Un.step
  split
  · rfl
  · rename_i h0
    have h' := h.resolve_left h0
    split
    · rename_i h32
      rw [if_pos]
      show nc = 0 ∨ mc = 0
      rcases h' with h | h | h | h <;> omega
    · split
      · rw [if_pos]
        show nc = 0
        rcases h' with h | h | h | h <;> omega
      · split
        · rw [if_pos]
          show mc = 0
          rcases h' with h | h | h | h <;> omega
        · rfl
theorem not_bad (h : ¬ badL x nc mc) : 0 < x.size ∧ ((sgn x = 32 ∧ 0 < nc ∧ 0 < mc) ∨ (sgn x = 45 ∧ 0 < nc) ∨ (sgn x = 43 ∧ 0 < mc)) := by
  unfold badL at h
  omega
theorem step_stay (h0 : 0 < x.size) (h : sgn x = 32) (hn : 0 < nc) (hm : 0 < mc) : (inUn fin ch now oa nc na mc oe de wait lg).step x = some (inUn fin ch now oa (nc - 1) na (mc - 1) oe de (wait ++ [txt x]) (lg || lng x)) := by
  unfold Un.step
  rw [if_neg (by omega), if_pos h, if_neg (by show ¬ (nc = 0 ∨ mc = 0); omega)]
  simp [inUn]
  omega
theorem chg_keep (hw : wait = []) (hch : ch = false → now = ⟨oa, na, [], []⟩) : (inUn fin ch now oa nc na mc oe de wait lg).chg = inUn fin true now (oa + wait.length) nc (na + wait.length) mc oe de [] lg := by
  subst hw
  cases ch
  · rw [hch rfl]
    simp [inUn, Un.chg, Un.neu]
  · simp [inUn, Un.chg]
theorem chg_first (hw : 0 < wait.length) (hch : now = ⟨oa, na, [], []⟩) : (inUn fin false now oa nc na mc oe de wait lg).chg = inUn fin true { now with old := now.old ++ wait, new := now.new ++ wait } (oa + wait.length) nc (na + wait.length) mc oe de [] lg := by
  rw [hch]
  simp [inUn, Un.chg, Un.neu]
theorem chg_more (hw : 0 < wait.length) : (inUn fin true now oa nc na mc oe de wait lg).chg = inUn (fin ++ [now]) true ⟨oa, na, wait, wait⟩ (oa + wait.length) nc (na + wait.length) mc oe de [] lg := by
  have : wait ≠ [] := fun e => by rw [e] at hw; simp at hw
  simp [inUn, Un.chg, Un.neu, this]
theorem chg_oa (u : Un) : u.chg.oa = u.oa ∧ u.chg.na = u.na := by
  unfold Un.chg
  split
  · exact ⟨rfl, rfl⟩
  · split
    · exact ⟨rfl, rfl⟩
    · exact ⟨rfl, rfl⟩
variable {fin' : List Hk} {now' : Hk} {oa' na' : Int}
theorem step_minus (hc : (inUn fin ch now oa nc na mc oe de wait lg).chg = inUn fin' true now' oa' nc na' mc oe de [] lg) (h0 : 0 < x.size) (h : sgn x = 45) (hn : 0 < nc) :
    (inUn fin ch now oa nc na mc oe de wait lg).step x = some (inUn fin' true { now' with old := now'.old ++ [txt x] } (oa' + 1) (nc - 1) na' mc oe de [] (lg || lng x)) := by
  have e1 : oa + (wait.length : Int) = oa' := by have := (chg_oa _).1.symm.trans (congrArg Un.oa hc); simpa [inUn] using this
  unfold Un.step
  rw [if_neg (by omega), if_neg (by omega), if_pos h, if_neg (by show ¬ nc = 0; omega), hc]
  simp [inUn, addOld]
  omega
theorem step_plus (hc : (inUn fin ch now oa nc na mc oe de wait lg).chg = inUn fin' true now' oa' nc na' mc oe de [] lg) (h0 : 0 < x.size) (h : sgn x = 43) (hn : 0 < mc) :
    (inUn fin ch now oa nc na mc oe de wait lg).step x = some (inUn fin' true { now' with new := now'.new ++ [txt x] } oa' nc (na' + 1) (mc - 1) oe de [] (lg || lng x)) := by
  have e1 : na + (wait.length : Int) = na' := by have := (chg_oa _).2.symm.trans (congrArg Un.na hc); simpa [inUn] using this
  unfold Un.step
  rw [if_neg (by omega), if_neg (by omega), if_neg (by omega), if_pos h, if_neg (by show ¬ mc = 0; omega), hc]
  simp [inUn, addNew]
  omega
/-- the end of a group behind a change -/
theorem shut_in : (inUn fin true now oa nc na mc oe de wait lg).shut = ⟨fin ++ [{ now with old := now.old ++ wait, new := now.new ++ wait }], none, oa + wait.length, nc, na + wait.length, mc, oe, de, [], lg⟩ := by
  simp [inUn, Un.shut, shutH]
end
/-- a line is taken -/
theorem urRun_line {R : UrRes} {L : List ByteArray} {k : Nat} {x : ByteArray} {u : Un} (hk : k < L.length) (hx : L[k] = x) (ho : u.opn = true) (hr : R = urRun hdS (L.drop k) k u) :
    R = match u.step x with | none => .bad k | some v => urRun hdS (L.drop (k + 1)) (k + 1) v.rest := by
  rw [List.drop_eq_getElem_cons hk, hx, urRun, if_pos ho] at hr
  exact hr
theorem lng_txt (x : ByteArray) (h : 0 < x.size) : lng x = decide ((4096 : Int) < (x.size : Int) - 1) := by
  unfold lng txt
  have e : ((4096 : Int) < (x.size : Int) - 1) ↔ 4096 < (x.extract 1 x.size).size := by rw [ByteArray.size_extract]; omega
  simp only [e]
/-- a row is written: the hunk at hand lies where it lay -/
theorem RpAt.keptX {w1 wr w' : World} {X Y : Nat} {hv : Value} {fin : List Hk} {vs : List (Value × Value)} {now : Hk} {o n cv : Value} {wait : List ByteArray} {q0 q1 q2 q3 : Nat} (h : RpAt w1 wr X Y hv fin vs now o n cv wait q0 q1 q2 q3)
    {v : Value} {l : List ByteArray} (hv1 : wr.ownsRow w1.heap.size 9 1 v l.length (l.map Value.string)) (hg : wr.grownBy w' v.ownBlock) :
    w'.cell? ⟨X, 0, none⟩ = some (.int .i64 now.frm) ∧ w'.cell? ⟨X, 1, none⟩ = some (.int .i64 now.to_) ∧ w'.cell? ⟨X, 2, none⟩ = some o ∧ w'.cell? ⟨X, 3, none⟩ = some n ∧ ∀ j, w'.frozen? ⟨X, j, none⟩ = false := by
  have hb : w'.heap[X]? = _ := (h.rowed hv1 hg).2.1.trans h.box
  refine ⟨?_, ?_, ?_, ?_, fun j => ?_⟩ <;> simp [World.cell?, World.frozen?, hb]
/-- the lines that wait, read -/
theorem RpAt.waitS {w1 wr : World} {X Y : Nat} {hv : Value} {fin : List Hk} {vs : List (Value × Value)} {now : Hk} {o n cv : Value} {wait : List ByteArray} {q0 q1 q2 q3 : Nat} (h : RpAt w1 wr X Y hv fin vs now o n cv wait q0 q1 q2 q3)
    (hz : ∀ s ∈ wait, s.size ≤ 1000000) : Strs wr cv wait := ⟨.of_own (h.rows.own (cv, wait) (by simp)), fun s hs => by have := hz s hs; unfold maxLen; omega⟩
/-- the hunk at hand has been told: a new one stands in its place -/
theorem RpAt.next {w1 w3 : World} {X Y : Nat} {hv : Value} {fin : List Hk} {vs : List (Value × Value)} {cv : Value} {wait : List ByteArray} {q0 q1 q2 q3 : Nat} {a0 a1 a2 a3 : Value} (hb : Below w1.heap.size w1 w3) (hX : w1.heap.size ≤ X) (hY : w1.heap.size ≤ Y)
    (hbox : w3.heap[X]? = some (.cells #[a0, a1, a2, a3] 46 (0, 0))) (hq : Quad w3 Y (.int .i64 (q0 : Int)) (.int .i64 (q1 : Int)) (.int .i64 (q2 : Int)) (.int .i64 (q3 : Int))) (hf : hv.ownBlock ≠ some X)
    (ho : HkOwn w3 46 9 w1.heap.size hv fin vs cv wait) (f t : Int) :
    RpAt w1 ((((w3.setCell ⟨X, 0, none⟩ (.int .i64 f)).setCell ⟨X, 1, none⟩ (.int .i64 t)).setCell ⟨X, 2, none⟩ (.slice none 0 0)).setCell ⟨X, 3, none⟩ (.slice none 0 0)) X Y hv fin vs ⟨f, t, [], []⟩ (.slice none 0 0) (.slice none 0 0) cv wait q0 q1 q2 q3 := by
  have hXY : Y ≠ X := two_types hq hbox (by decide)
  obtain ⟨o1, b1⟩ := HkOwn.setX ho hbox hf 0 (.int .i64 f)
  obtain ⟨o2, b2⟩ := HkOwn.setX o1 b1 hf 1 (.int .i64 t)
  obtain ⟨o3, b3⟩ := HkOwn.setX o2 b2 hf 2 (.slice none 0 0)
  obtain ⟨o4, b4⟩ := HkOwn.setX o3 b3 hf 3 (.slice none 0 0)
  exact RpAt.renew (now := ⟨f, t, [], []⟩) ((((hb.setCell hX _).setCell hX _).setCell hX _).setCell hX _) hX hY b4 ((((hq.other hXY _).other hXY _).other hXY _).other hXY _) hf o4 rfl rfl
theorem RpAt.allocT {w1 V : World} {X Y : Nat} {hv : Value} {fin : List Hk} {vs : List (Value × Value)} {now : Hk} {o n cv : Value} {wait : List ByteArray} {q0 q1 q2 q3 : Nat} (h : RpAt w1 V X Y hv fin vs now o n cv wait q0 q1 q2 q3) (ob : Obj) : RpAt w1 (V.alloc ob) X Y hv fin vs now o n cv wait q0 q1 q2 q3 := h.below ((Below.refl _ _).alloc (Nat.le_refl _) ob)
theorem RpAt.drewT {w1 V : World} {X Y : Nat} {hv : Value} {fin : List Hk} {vs : List (Value × Value)} {now : Hk} {o n cv : Value} {wait : List ByteArray} {q0 q1 q2 q3 : Nat} (h : RpAt w1 V X Y hv fin vs now o n cv wait q0 q1 q2 q3) : RpAt w1 V.drew X Y hv fin vs now o n cv wait q0 q1 q2 q3 := h.below (Below.refl _ _).drew
/-- old: one line is appended: the hunk's own slice, at a step of a drawn region -/
theorem step_old {w1 V : World} {ops : Array Oper} {op : Oper} {a : Act} {K : Act → World → Prop} {Q : Exit → Act → World → Prop} {E : Prop} {X Y : Nat} {hv : Value} {fin : List Hk} {vs : List (Value × Value)} {now : Hk} {o n cv : Value} {wait : List ByteArray} {q0 q1 q2 q3 : Nat}
    (h : RpAt w1 V X Y hv fin vs now o n cv wait q0 q1 q2 q3) (hgd : op.guard = none) (s x : Operand) (ho : op.op = .call { callee := .builtin .append, args := #[s, x], argTypes := #[44, 44] })
    (hs : a.eval s = o) (N : Nat) (hx : a.eval x = .slice (some ⟨N, 0, none⟩) 1 1) (y : ByteArray) (hN : V.heap[N]? = some (.cells #[.string y] 9 (0, 0))) (hy : y.size ≤ 1000000) (L : List ByteArray) (hL : now.old ++ [y] = L) (hb : now.old.length + 1 ≤ 1000000000000)
    (hK : ∀ A c w', RpAt w1 (w'.setCell ⟨X, 2, none⟩ (.slice A L.length c)) X Y hv fin vs { now with old := L } (.slice A L.length c) n cv wait q0 q1 q2 q3 → w'.cell? ⟨X, 2, none⟩ = some o → w'.frozen? ⟨X, 2, none⟩ = false → K (a.put op.dst (.slice A L.length c)) w') :
    if Region.wanted op (yielded ops a.tmps) = true then Oper.wp Tryd.prog op a V K Q else E := by
  have hlt : N < V.heap.size := (Array.getElem?_eq_some_iff.1 hN).1
  have hst : Strs V (.slice (some ⟨N, 0, none⟩) 1 1) [y] := by
    refine ⟨⟨rfl, _, _, rfl, Nat.le_refl _, by show 1 ≤ maxLen; unfold maxLen; omega, fun _ => ⟨N, 0, rfl, hlt, fun j u hu => ?_⟩⟩, fun s hs => by simp at hs; subst hs; unfold maxLen; omega⟩
    simp only [World.cell?, hN]
    simpa using hu
  refine step_appU hgd s x ho w1.heap.size o now.old hs (h.rows.own (o, now.old) (by simp)) (.slice (some ⟨N, 0, none⟩) 1 1) [y] L hx hst hL hb h.bel.size ?_
  intro A c w' hown hgr hat
  obtain ⟨d0, d1, d2, d3, dz⟩ := h.keptX (h.rows.own (o, now.old) (by simp)) hgr
  exact hK A c w' (h.old hgr hown hat) d2 (dz 2)
/-- new: one line is appended: the hunk's own slice, at a step of a drawn region -/
theorem step_new {w1 V : World} {ops : Array Oper} {op : Oper} {a : Act} {K : Act → World → Prop} {Q : Exit → Act → World → Prop} {E : Prop} {X Y : Nat} {hv : Value} {fin : List Hk} {vs : List (Value × Value)} {now : Hk} {o n cv : Value} {wait : List ByteArray} {q0 q1 q2 q3 : Nat}
    (h : RpAt w1 V X Y hv fin vs now o n cv wait q0 q1 q2 q3) (hgd : op.guard = none) (s x : Operand) (ho : op.op = .call { callee := .builtin .append, args := #[s, x], argTypes := #[44, 44] })
    (hs : a.eval s = n) (N : Nat) (hx : a.eval x = .slice (some ⟨N, 0, none⟩) 1 1) (y : ByteArray) (hN : V.heap[N]? = some (.cells #[.string y] 9 (0, 0))) (hy : y.size ≤ 1000000) (L : List ByteArray) (hL : now.new ++ [y] = L) (hb : now.new.length + 1 ≤ 1000000000000)
    (hK : ∀ A c w', RpAt w1 (w'.setCell ⟨X, 3, none⟩ (.slice A L.length c)) X Y hv fin vs { now with new := L } o (.slice A L.length c) cv wait q0 q1 q2 q3 → w'.cell? ⟨X, 3, none⟩ = some n → w'.frozen? ⟨X, 3, none⟩ = false → K (a.put op.dst (.slice A L.length c)) w') :
    if Region.wanted op (yielded ops a.tmps) = true then Oper.wp Tryd.prog op a V K Q else E := by
  have hlt : N < V.heap.size := (Array.getElem?_eq_some_iff.1 hN).1
  have hst : Strs V (.slice (some ⟨N, 0, none⟩) 1 1) [y] := by
    refine ⟨⟨rfl, _, _, rfl, Nat.le_refl _, by show 1 ≤ maxLen; unfold maxLen; omega, fun _ => ⟨N, 0, rfl, hlt, fun j u hu => ?_⟩⟩, fun s hs => by simp at hs; subst hs; unfold maxLen; omega⟩
    simp only [World.cell?, hN]
    simpa using hu
  refine step_appU hgd s x ho w1.heap.size n now.new hs (h.rows.own (n, now.new) (by simp)) (.slice (some ⟨N, 0, none⟩) 1 1) [y] L hx hst hL hb h.bel.size ?_
  intro A c w' hown hgr hat
  obtain ⟨d0, d1, d2, d3, dz⟩ := h.keptX (h.rows.own (n, now.new) (by simp)) hgr
  exact hK A c w' (h.new hgr hown hat) d3 (dz 3)
end Go.Proofs.YtinpgnekjebipaaDoor
