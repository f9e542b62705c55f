/- Plain: the text of hunks, read line by line: one machine for both readers. No program in sight. -/
import Derived.Test.YtinpgnekjebipaaDoorHunk
set_option linter.unusedVariables false
set_option linter.unusedSimpArgs false
namespace Go.Pw

/-- what a reader of hunks knows: the hunks that are closed, the one that is open, what is left of the group, where the groups so far end and by how much they moved, the lines behind the last change, whether a line was too long -/
structure Un where
  fin : List Hk
  cur : Option Hk
  oa : Int
  oc : Nat
  na : Int
  nc : Nat
  oe : Int
  de : Int
  ctx : List ByteArray
  long : Bool
def Un.all (u : Un) : List Hk := u.fin ++ u.cur.toList
def sgn (s : ByteArray) : Nat := (s.data.toList.getD 0 0).toNat
def txt (s : ByteArray) : ByteArray := s.extract 1 s.size
def lng (s : ByteArray) : Bool := decide (4096 < (txt s).size)
def Un.opn (u : Un) : Bool := decide (0 < u.oc + u.nc)
/-- the hunk of a change, if it is a new one -/
def Un.neu (u : Un) : Hk := ⟨u.oa - u.ctx.length, u.na - u.ctx.length, u.ctx, u.ctx⟩
/-- the state in which the hunk of a change is open -/
def Un.chg (u : Un) : Un :=
  match u.cur with
  | none => { u with cur := some u.neu, ctx := [] }
  | some h => if u.ctx = [] then u else { u with fin := u.fin ++ [h], cur := some u.neu, ctx := [] }
def addOld (x : ByteArray) (h : Hk) : Hk := { h with old := h.old ++ [x] }
def addNew (x : ByteArray) (h : Hk) : Hk := { h with new := h.new ++ [x] }
def Un.step (u : Un) (s : ByteArray) : Option Un :=
  if s.size = 0 then none
  else if sgn s = 32 then
    if u.oc = 0 ∨ u.nc = 0 then none
    else some { u with oa := u.oa + 1, oc := u.oc - 1, na := u.na + 1, nc := u.nc - 1, ctx := u.ctx ++ [txt s], long := u.long || lng s }
  else if sgn s = 45 then
    if u.oc = 0 then none
    else some { u.chg with cur := u.chg.cur.map (addOld (txt s)), oa := u.oa + 1, oc := u.oc - 1, long := u.long || lng s }
  else if sgn s = 43 then
    if u.nc = 0 then none
    else some { u.chg with cur := u.chg.cur.map (addNew (txt s)), na := u.na + 1, nc := u.nc - 1, long := u.long || lng s }
  else none
def shutH (l : List ByteArray) (h : Hk) : Hk := { h with old := h.old ++ l, new := h.new ++ l }
def Un.shut (u : Un) : Un := { u with fin := u.fin ++ (u.cur.map (shutH u.ctx)).toList, cur := none, ctx := [] }
def Un.rest (u : Un) : Un := if u.opn then u else u.shut
/-- what the head of a group tells -/
structure Hd where
  oa : Int
  oc : Nat
  na : Int
  nc : Nat
def Un.start (u : Un) (h : Hd) : Un := { u with oa := h.oa, oc := h.oc, na := h.na, nc := h.nc, oe := h.oa + h.oc, de := u.de + ((h.nc : Int) - (h.oc : Int)) }
inductive UrRes where
  | bad (i : Nat)
  | order
  | ok (u : Un)
def urRun (hd : ByteArray → Option Hd) : List ByteArray → Nat → Un → UrRes
  | [], i, u => if u.opn then .bad i else .ok u
  | s :: l, i, u =>
    if u.opn then
      match u.step s with
      | none => .bad i
      | some v => urRun hd l (i + 1) v.rest
    else
      match hd s with
      | none => .bad i
      | some h => if h.oa < u.oe ∨ h.na ≠ h.oa + u.de then .order else urRun hd l (i + 1) (u.start h).rest
def hkBig (h : Hk) : Bool := decide (1000 < h.old.length) || decide (1000 < h.new.length)
def Un.large (u : Un) : Bool := u.long || decide (1000 < u.fin.length) || u.fin.any hkBig
/-- hunks, place, error -/
def urEnd : UrRes → List Hk × Nat × Int
  | .bad i => ([], i, 1)
  | .order => ([], 0, 9)
  | .ok u => if u.large then ([], 0, 2) else (u.fin, 0, 0)
def Un.zero : Un := ⟨[], none, 0, 0, 0, 0, 0, 0, [], false⟩

/-- bounds -/
structure HdOk (h : Hd) : Prop where
  o1 : -1 ≤ h.oa
  o2 : h.oa ≤ 999999
  o3 : h.oc ≤ 999999
  n1 : -1 ≤ h.na
  n2 : h.na ≤ 999999
  n3 : h.nc ≤ 999999
def LinesIn (i : Nat) (l : List ByteArray) : Prop := l.length ≤ i ∧ ∀ s ∈ l, s.size ≤ 1000000
def HkIn (i : Nat) (h : Hk) : Prop := h.ok ∧ LinesIn i h.old ∧ LinesIn i h.new
structure UnOk (u : Un) (i : Nat) : Prop where
  n : u.all.length ≤ i
  c : LinesIn i u.ctx
  hs : ∀ h ∈ u.all, HkIn i h
  cu : ∀ h, u.cur = some h → h.old.length + u.ctx.length ≤ i ∧ h.new.length + u.ctx.length ≤ i
  o1 : -1 ≤ u.oa
  o2 : u.oa + u.oc ≤ 2000000
  n1 : -1 ≤ u.na
  n2 : u.na + u.nc ≤ 2000000
  e1 : -1 ≤ u.oe
  e2 : u.oe ≤ 2000000
  d1 : -4000000 ≤ u.de
  d2 : u.de ≤ 4000000
theorem UnOk.zero : UnOk .zero 0 := ⟨by simp [Un.all, Un.zero], ⟨by simp [Un.zero], by simp [Un.zero]⟩, by simp [Un.all, Un.zero], by simp [Un.zero], by simp [Un.zero], by simp [Un.zero], by simp [Un.zero], by simp [Un.zero], by simp [Un.zero], by simp [Un.zero], by simp [Un.zero], by simp [Un.zero]⟩
theorem LinesIn.mono {i j : Nat} {l : List ByteArray} (h : LinesIn i l) (hj : i ≤ j) : LinesIn j l := ⟨Nat.le_trans h.1 hj, h.2⟩
theorem HkIn.mono {i j : Nat} {h : Hk} (g : HkIn i h) (hj : i ≤ j) : HkIn j h := ⟨g.1, g.2.1.mono hj, g.2.2.mono hj⟩
theorem UnOk.mono {u : Un} {i j : Nat} (h : UnOk u i) (hj : i ≤ j) : UnOk u j :=
  ⟨Nat.le_trans h.n hj, h.c.mono hj, fun g hg => (h.hs g hg).mono hj, fun g hg => ⟨Nat.le_trans (h.cu g hg).1 hj, Nat.le_trans (h.cu g hg).2 hj⟩, h.o1, h.o2, h.n1, h.n2, h.e1, h.e2, h.d1, h.d2⟩
theorem LinesIn.snoc {i : Nat} {l : List ByteArray} {x : ByteArray} (h : LinesIn i l) (hx : x.size ≤ 1000000) : LinesIn (i + 1) (l ++ [x]) := by
  refine ⟨by have := h.1; simp; omega, fun s hs => ?_⟩
  rcases List.mem_append.1 hs with hs | hs
  · exact h.2 s hs
  · simp at hs; subst hs; exact hx
theorem UnOk.neu {u : Un} {i : Nat} (h : UnOk u i) (hi : i ≤ 1000000) : HkIn i u.neu := by
  have h1 := h.o1; have h2 := h.o2; have h3 := h.n1; have h4 := h.n2; have h5 := h.c.1
  refine ⟨⟨⟨?_, ?_⟩, ⟨?_, ?_⟩⟩, h.c, h.c⟩ <;> simp only [Un.neu] <;> omega
/-- behind a change that opens a hunk: at most one hunk more -/
theorem UnOk.chg {u : Un} {i : Nat} (h : UnOk u i) (hi : i ≤ 1000000) : (u.chg.all.length ≤ i + 1) ∧ (∀ h ∈ u.chg.all, HkIn i h) ∧ u.chg.ctx = [] ∧ (∃ g, u.chg.cur = some g) ∧ (u.chg.oa = u.oa ∧ u.chg.oc = u.oc ∧ u.chg.na = u.na ∧ u.chg.nc = u.nc ∧ u.chg.oe = u.oe ∧ u.chg.de = u.de ∧ u.chg.long = u.long) := by
  have hn := h.neu hi
  have h1 := h.n
  have h2 := h.hs
  unfold Un.chg
  cases hc : u.cur with
  | none =>
    simp only [Un.all, hc, Option.toList, List.append_nil] at h1 h2
    refine ⟨by simp [Un.all]; omega, ?_, rfl, ⟨_, rfl⟩, rfl, rfl, rfl, rfl, rfl, rfl, rfl⟩
    intro g hg
    simp [Un.all] at hg
    rcases hg with hg | hg
    · exact h2 g hg
    · subst hg; exact hn
  | some g =>
    simp only [Un.all, hc, Option.toList] at h1 h2
    by_cases hx : u.ctx = []
    · simp only [hx, if_true]
      refine ⟨by simp [Un.all, hc]; simp at h1; omega, ?_, trivial, ⟨g, hc⟩, trivial, trivial, trivial, trivial, trivial, trivial, trivial⟩
      intro g' hg'
      simp only [Un.all, hc, Option.toList] at hg'
      exact h2 g' hg'
    · simp only [hx, if_false]
      refine ⟨by simp [Un.all]; simpa using h1, ?_, trivial, ⟨_, rfl⟩, trivial, trivial, trivial, trivial, trivial, trivial, trivial⟩
      intro g' hg'
      simp [Un.all] at hg'
      rcases hg' with hg' | hg' | hg'
      · exact h2 g' (by simp [hg'])
      · exact h2 g' (by simp [hg'])
      · subst hg'; exact hn
theorem all_map {l : List Hk} {o : Option Hk} {f : Hk → Hk} {g : Hk} (hg : g ∈ l ++ (o.map f).toList) : g ∈ l ∨ ∃ x, o = some x ∧ g = f x := by
  rcases List.mem_append.1 hg with hg | hg
  · exact .inl hg
  · cases o with
    | none => simp at hg
    | some x => simp at hg; exact .inr ⟨x, rfl, hg⟩
theorem UnOk.step {u v : Un} {i : Nat} {s : ByteArray} (h : UnOk u i) (hi : i ≤ 900000) (hs : s.size ≤ 900000) (hv : u.step s = some v) : UnOk v (i + 1) := by
  have ht : (txt s).size ≤ 1000000 := by unfold txt; rw [ByteArray.size_extract]; omega
  have h1 := h.o1; have h2 := h.o2; have h3 := h.n1; have h4 := h.n2; have h5 := h.n
  obtain ⟨c1, c2, c3, ⟨g, c4⟩, c5, c6, c7, c8, c9, c10, c11⟩ := h.chg (by omega)
  have hlen : u.chg.all.length = u.chg.fin.length + 1 := by simp [Un.all, c4]
  have key : ∀ f : Hk → Hk, (∀ x, HkIn i x → HkIn (i + 1) (f x)) → (∀ x, (f x).old.length ≤ x.old.length + 1 ∧ (f x).new.length ≤ x.new.length + 1) → ∀ (oa na : Int) (oc nc : Nat) (lg : Bool), -1 ≤ oa → oa + oc ≤ 2000000 → -1 ≤ na → na + nc ≤ 2000000 →
      UnOk { u.chg with cur := u.chg.cur.map f, oa := oa, oc := oc, na := na, nc := nc, long := lg } (i + 1) := by
    intro f hf hf2 oa na oc nc lg q1 q2 q3 q4
    refine ⟨?_, ?_, ?_, ?_, q1, q2, q3, q4, c9 ▸ h.e1, c9 ▸ h.e2, c10 ▸ h.d1, c10 ▸ h.d2⟩
    · simp [Un.all, c4]; omega
    · show LinesIn _ u.chg.ctx
      rw [c3]; exact ⟨by simp, by simp⟩
    · intro x hx
      rcases all_map hx with hx | ⟨y, hy, rfl⟩
      · exact (c2 x (by simp [Un.all, hx])).mono (by omega)
      · exact hf y (c2 y (by simp [Un.all, hy]))
    · intro x hx
      simp only [c4, Option.map_some, Option.some.injEq] at hx
      subst hx
      have hg := c2 g (by simp [Un.all, c4])
      have hg2 := hf2 g
      show _ + u.chg.ctx.length ≤ _ ∧ _ + u.chg.ctx.length ≤ _
      rw [c3]
      have := hg.2.1.1
      have := hg.2.2.1
      simp
      omega
  unfold Un.step at hv
  split at hv
  · cases hv
  · split at hv
    · split at hv
      · cases hv
      · rename_i hz hsg hcc
        obtain rfl := Option.some.inj hv
        refine ⟨Nat.le_trans h5 (by omega), h.c.snoc ht, fun x hx => (h.hs x hx).mono (by omega), fun x hx => ?_, ?_, ?_, ?_, ?_, h.e1, h.e2, h.d1, h.d2⟩
        · have := h.cu x hx
          simp; omega
        all_goals (simp only; omega)
    · split at hv
      · split at hv
        · cases hv
        · obtain rfl := Option.some.inj hv
          refine key (addOld (txt s)) (fun x hx => ⟨hx.1, hx.2.1.snoc ht, hx.2.2.mono (by omega)⟩) (fun x => ⟨by simp [addOld], by simp [addOld]⟩) (u.oa + 1) u.chg.na (u.oc - 1) u.chg.nc _ (by omega) (by omega) (by omega) (by omega)
      · split at hv
        · split at hv
          · cases hv
          · obtain rfl := Option.some.inj hv
            refine key (addNew (txt s)) (fun x hx => ⟨hx.1, hx.2.1.mono (by omega), hx.2.2.snoc ht⟩) (fun x => ⟨by simp [addNew], by simp [addNew]⟩) u.chg.oa (u.na + 1) u.chg.oc (u.nc - 1) _ (by omega) (by omega) (by omega) (by omega)
        · cases hv
theorem UnOk.shut {u : Un} {i : Nat} (h : UnOk u i) : UnOk u.shut i := by
  refine ⟨?_, ⟨by simp [Un.shut], by simp [Un.shut]⟩, ?_, by simp [Un.shut], h.o1, h.o2, h.n1, h.n2, h.e1, h.e2, h.d1, h.d2⟩
  · have := h.n
    cases hc : u.cur <;> simp [Un.all, Un.shut, hc] at this ⊢ <;> exact this
  · intro x hx
    simp only [Un.all, Un.shut, Option.toList, List.append_nil] at hx
    rcases all_map hx with hx | ⟨y, hy, rfl⟩
    · exact h.hs x (by simp [Un.all, hx])
    · have hq := h.hs y (by simp [Un.all, hy])
      have hc := h.cu y hy
      refine ⟨hq.1, ⟨by simp [shutH]; omega, fun s hs => ?_⟩, by simp [shutH]; omega, fun s hs => ?_⟩
      · rcases List.mem_append.1 hs with hs | hs
        · exact hq.2.1.2 s hs
        · exact h.c.2 s hs
      · rcases List.mem_append.1 hs with hs | hs
        · exact hq.2.2.2 s hs
        · exact h.c.2 s hs
theorem UnOk.rest {u : Un} {i : Nat} (h : UnOk u i) : UnOk u.rest i := by
  unfold Un.rest
  split
  · exact h
  · exact h.shut
theorem UnOk.start {u : Un} {i : Nat} {g : Hd} (h : UnOk u i) (hg : HdOk g) (ho : ¬ (g.oa < u.oe ∨ g.na ≠ g.oa + u.de)) : UnOk (u.start g) i := by
  obtain ⟨g1, g2, g3, g4, g5, g6⟩ := hg
  have h1 := h.e1; have h2 := h.d1; have h3 := h.d2
  refine ⟨h.n, h.c, h.hs, h.cu, g1, ?_, g4, ?_, ?_, ?_, ?_, ?_⟩ <;> simp only [Un.start] <;> omega
end Go.Pw
