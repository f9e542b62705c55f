/- delta.regions: the regions of two differences. -/
import Derived.Test.YtfjbdbdjhkmifaaHStabV
import Derived.Test.YtfjbdbdjhkmifaaHConcat
import Derived.Test.YtfjbdbdjhkmifaaDmQ
import Derived.Test.YtfjbdbdjhkmifaaDiffC
import Derived.Deep.RegionWith
set_option linter.unusedVariables false
set_option linter.unusedSimpArgs false
namespace Go.Pw
open Go.RowKit
/-- the cells of a hunk -/
def cells4 (x : H4) : List Value := [.int .i64 x.f, .int .i64 x.t, .slice x.oa x.ol x.oc, .slice x.na x.nl x.nc]
def rowCells : List H4 → List Value
  | [] => []
  | x :: l => cells4 x ++ rowCells l
theorem rowCells_append : ∀ (l m : List H4), rowCells (l ++ m) = rowCells l ++ rowCells m
  | [], m => rfl
  | x :: l, m => by simp [rowCells, rowCells_append l m]
theorem rowCells_length : ∀ (l : List H4), (rowCells l).length = l.length * 4
  | [] => rfl
  | x :: l => by simp [rowCells, cells4, rowCells_length l]; omega
theorem rowCells_at : ∀ (l : List H4) (i : Nat) (x : H4), l[i]? = some x →
    (rowCells l)[i * 4]? = some (.int .i64 x.f) ∧ (rowCells l)[i * 4 + 1]? = some (.int .i64 x.t) ∧ (rowCells l)[i * 4 + 2]? = some (.slice x.oa x.ol x.oc) ∧ (rowCells l)[i * 4 + 3]? = some (.slice x.na x.nl x.nc)
  | y :: l, 0, x, h => by simp at h; subst h; simp [rowCells, cells4]
  | y :: l, i + 1, x, h => by
    have := rowCells_at l i x (by simpa using h)
    rw [show (i + 1) * 4 = i * 4 + 1 + 1 + 1 + 1 by omega]
    simpa [rowCells, cells4] using this
  | [], _, _, h => by simp at h
theorem rowCells_one : ∀ (l : List H4), ∀ y ∈ rowCells l, y.oneCell' = true
  | [], y, h => by simp [rowCells] at h
  | x :: l, y, h => by
    rcases List.mem_append.1 h with h | h
    · simp [cells4] at h
      rcases h with rfl | rfl | rfl | rfl <;> rfl
    · exact rowCells_one l y h
/-- the region of a hunk as it lies in a row -/
def rgH (x : H4) : Rg := (x.f.toNat, x.f.toNat + x.ol)
/-- hunks in memory, as a row of four cells each -/
theorem hk_h4 {w : World} : ∀ (hs : List Hk) (vs : List (Value × Value)), vs.length = hs.length → (∀ (i : Nat) (h : Hk) (o n : Value), hs[i]? = some h → vs[i]? = some (o, n) → Strs w o h.old ∧ Strs w n h.new) →
    ∃ L : List H4, L.length = hs.length ∧ hkCells hs vs = rowCells L ∧ ∀ x ∈ L, ∃ h ∈ hs, x.f = h.frm ∧ x.ol = h.old.length
  | [], [], _, _ => ⟨[], rfl, rfl, by simp⟩
  | h :: hs, (o, n) :: vs, e, hel => by
    obtain ⟨L, h1, h2, h3⟩ := hk_h4 hs vs (by simpa using e) (fun i h' o' n' e1 e2 => hel (i + 1) h' o' n' (by simpa using e1) (by simpa using e2))
    obtain ⟨⟨⟨_, A, c, rfl, _⟩, _⟩, ⟨_, B, d, rfl, _⟩, _⟩ := hel 0 h o n rfl rfl
    refine ⟨⟨h.frm, h.to_, A, h.old.length, c, B, h.new.length, d⟩ :: L, by simp [h1], by simp [hkCells, rowCells, cells4, h2], ?_⟩
    intro x hx
    rcases List.mem_cons.1 hx with rfl | hx
    · exact ⟨h, by simp, rfl, rfl⟩
    · obtain ⟨g, hg, q⟩ := h3 x hx
      exact ⟨g, by simp [hg], q⟩
  | [], v :: vs, e, _ => by simp at e
  | h :: hs, [], e, _ => by simp at e
theorem hk_h4map {w : World} : ∀ (hs : List Hk) (vs : List (Value × Value)), vs.length = hs.length → (∀ (i : Nat) (h : Hk) (o n : Value), hs[i]? = some h → vs[i]? = some (o, n) → Strs w o h.old ∧ Strs w n h.new) →
    ∃ L : List H4, L.length = hs.length ∧ hkCells hs vs = rowCells L ∧ L.map (fun x => (x.f, x.ol)) = hs.map (fun h => (h.frm, h.old.length))
  | [], [], _, _ => ⟨[], rfl, rfl, by simp⟩
  | h :: hs, (o, n) :: vs, e, hel => by
    obtain ⟨L, h1, h2, h3⟩ := hk_h4map hs vs (by simpa using e) (fun i h' o' n' e1 e2 => hel (i + 1) h' o' n' (by simpa using e1) (by simpa using e2))
    obtain ⟨⟨⟨_, A, c, rfl, _⟩, _⟩, ⟨_, B, d, rfl, _⟩, _⟩ := hel 0 h o n rfl rfl
    exact ⟨⟨h.frm, h.to_, A, h.old.length, c, B, h.new.length, d⟩ :: L, by simp [h1], by simp [hkCells, rowCells, cells4, h2], by simp [h3]⟩
  | [], v :: vs, e, _ => by simp at e
  | h :: hs, [], e, _ => by simp at e
theorem own_rowH {w : World} {base : Nat} {e : TypeId} {v : Value} {n : Nat} {L : List H4} (h : w.ownsRow base e 4 v n (rowCells L)) (hn : 0 < n) :
    ∃ B c, v = .slice (some ⟨B, 0, none⟩) n c ∧ base ≤ B ∧ n ≤ c ∧ RowH w B 0 L := by
  have h' := h
  obtain ⟨hl, h0 | ⟨g, cap, cur, rfl, hg, hh, hc, _⟩⟩ := h'
  · omega
  · rw [rowCells_length] at hl
    refine ⟨g, cap, rfl, hg, hc, by obtain ⟨hlt, _⟩ := Array.getElem?_eq_some_iff.1 hh; exact hlt, fun i x hx => ?_⟩
    have hi := (List.getElem?_eq_some_iff.1 hx).1
    obtain ⟨a, b, c, d⟩ := rowCells_at L i x hx
    rw [Nat.zero_add]
    exact ⟨⟨(h.cellAt _ (by omega)).trans a, (h.cellAt _ (by omega)).trans b, (h.cellAt _ (by omega)).trans c, (h.cellAt _ (by omega)).trans d⟩, h.frozenAt _, h.frozenAt _, h.frozenAt _, h.frozenAt _⟩

theorem mrg_mem_of {α : Type} {lt : α → α → Bool} : ∀ (n : Nat) (l r : List α) (z : α), l.length + r.length ≤ n → (z ∈ l ∨ z ∈ r) → z ∈ mrg lt l r
  | _, [], r, z, _, h => by rw [mrg_nil_left]; simpa using h
  | _, x :: l, [], z, _, h => by rw [mrg_nil]; simpa using h
  | 0, x :: l, y :: r, z, hn, _ => by simp at hn
  | n + 1, x :: l, y :: r, z, hn, h => by
    simp at hn
    rw [mrg_cons]
    split
    · rcases h with h | h
      · exact List.mem_cons_of_mem _ (mrg_mem_of n (x :: l) r z (by simp; omega) (.inl h))
      · rcases List.mem_cons.1 h with rfl | h
        · simp
        · exact List.mem_cons_of_mem _ (mrg_mem_of n (x :: l) r z (by simp; omega) (.inr h))
    · rcases h with h | h
      · rcases List.mem_cons.1 h with rfl | h
        · simp
        · exact List.mem_cons_of_mem _ (mrg_mem_of n l (y :: r) z (by simp; omega) (.inl h))
      · exact List.mem_cons_of_mem _ (mrg_mem_of n l (y :: r) z (by simp; omega) (.inr h))
theorem isrt_mem_of {α : Type} {lt : α → α → Bool} {z : α} : ∀ l : List α, z ∈ l → z ∈ isrt lt l :=
  snoc_ind (fun h => by simp at h) fun l x ih h => by
    rw [isrt_snoc]
    rcases List.mem_append.1 h with h | h
    · exact mrg_mem_of _ _ _ _ (Nat.le_refl _) (.inl (ih h))
    · exact mrg_mem_of _ _ _ _ (Nat.le_refl _) (.inr h)
theorem cov_mem {l m : List Rg} (h : ∀ r, r ∈ l ↔ r ∈ m) (x : Nat) : Cov l x ↔ Cov m x :=
  ⟨fun ⟨q, hq, k⟩ => ⟨q, (h q).1 hq, k⟩, fun ⟨q, hq, k⟩ => ⟨q, (h q).2 hq, k⟩⟩

/-- how two hunks are compared -/
def cfH (x y : H4) : Int := x.f - y.f
theorem cfH_swo : Swo (ltH cfH) := by
  constructor
  · intro a b h; unfold ltH cfH at *; simp only [decide_eq_true_eq, decide_eq_false_iff_not] at *; omega
  · intro a b c h1 h2; unfold ltH cfH at *; simp only [decide_eq_false_iff_not] at *; omega
theorem cfH_sorted {S : List H4} (h : Srt (ltH cfH) S) {i j : Nat} {x y : H4} (hij : i ≤ j) (hx : S[i]? = some x) (hy : S[j]? = some y) : x.f ≤ y.f := by
  have := Srt.at_le cfH_swo h hij hx hy
  unfold ltH cfH at this
  simp only [decide_eq_false_iff_not] at this
  omega

/-- where the sweep stands -/
def SwAt (S : List H4) (k : Nat) (out : List Rg) : Prop := ∃ f, Swept ((S.take k).map rgH) out f ∧ ∀ j x, k ≤ j → S[j]? = some x → f ≤ x.f.toNat
theorem SwAt.start (S : List H4) : SwAt S 0 [] := ⟨0, Swept.start, fun _ _ _ _ => Nat.zero_le _⟩
theorem SwAt.touch {S : List H4} {k : Nat} {B : List Rg} {q : Rg} {x : H4} (h : SwAt S k (B ++ [q])) (hs : Srt (ltH cfH) S) (hx : S[k]? = some x) (ht : x.f.toNat ≤ q.2) : SwAt S (k + 1) (B ++ [(q.1, max q.2 (x.f.toNat + x.ol))]) := by
  obtain ⟨f, h1, h2⟩ := h
  have hi := (List.getElem?_eq_some_iff.1 hx)
  obtain ⟨hlt, he⟩ := hi
  refine ⟨x.f.toNat, ?_, fun j y hj hy => by have := cfH_sorted hs (by omega) hx hy; omega⟩
  rw [List.take_succ_eq_append_getElem hlt, he, List.map_append]
  exact h1.touch (r := rgH x) (h2 k x (Nat.le_refl _) hx) (by simp [rgH]) ht
theorem SwAt.fresh {S : List H4} {k : Nat} {out : List Rg} {x : H4} (h : SwAt S k out) (hs : Srt (ltH cfH) S) (hx : S[k]? = some x) (ht : ∀ A q, out = A ++ [q] → q.2 < x.f.toNat) : SwAt S (k + 1) (out ++ [rgH x]) := by
  obtain ⟨f, h1, h2⟩ := h
  obtain ⟨hlt, he⟩ := List.getElem?_eq_some_iff.1 hx
  refine ⟨x.f.toNat, ?_, fun j y hj hy => by have := cfH_sorted hs (by omega) hx hy; omega⟩
  rw [List.take_succ_eq_append_getElem hlt, he, List.map_append]
  exact h1.fresh (r := rgH x) (h2 k x (Nat.le_refl _) hx) (by simp [rgH]) ht
end Go.Pw
namespace Go.Proofs.Ytfjbdbdjhkmifaa
open Go.RowKit Go.Pw
theorem insertionHNil_any (fv : Value) (w : World) : Calls Try.prog 96 #[.slice none 0 0, .int .i64 0, .int .i64 0, fv] w fun e w' => e = .returned (.tuple #[]) ∧ w = w' := by
  go_enter Try.func96, Try.ntmps96
  go_wp2_with fail
  go_loop [8] (fun i => i = .int .i64 1) (fun _ => 0)
  case atStart => rfl
  case round =>
    obtain rfl := hrel
    go_wp2_with fail
    go_end0
    exact ⟨rfl, rfl⟩
theorem stableHNil_any (fv : Value) (w : World) : Calls Try.prog 85 #[.slice none 0 0, .int .i64 0, fv] w fun e w' => e = .returned (.tuple #[]) ∧ w = w' := by
  go_enter Try.func85, Try.ntmps85
  go_wp2_with fail
  go_loop [7, 8] (fun x y => x = .int .i64 0 ∧ y = .int .i64 20) (fun _ _ => 0)
  case atStart => exact ⟨rfl, rfl⟩
  case round =>
    obtain ⟨rfl, rfl⟩ := hrel
    go_wp2_with fail
    refine (insertionHNil_any _ _).mono ?_
    rintro e w' ⟨rfl, rfl⟩
    go_wp2_with fail
    go_loop [6] (fun x => x = .int .i64 20) (fun _ => 0)
    case atStart => rfl
    case round =>
      obtain rfl := hrel
      go_wp2_with fail
      go_end0
      exact ⟨rfl, rfl⟩
theorem sortStableHNil_any (fv : Value) (w : World) : Calls Try.prog 61 #[.slice none 0 0, fv] w fun e w' => e = .returned (.tuple #[]) ∧ w = w' := by
  go_enter Try.func61, Try.ntmps61
  go_wp2_with fail
  refine (stableHNil_any _ _).mono ?_
  rintro e w' ⟨rfl, rfl⟩
  go_wp2_with fail
  go_end0
  exact ⟨rfl, rfl⟩

theorem regions1_any (x y : H4) (w : World) (hx : x.ok) (hy : y.ok) : Calls Try.prog 62 #[x.val, y.val] w fun e w' => e = .returned (.int .i64 (cfH x y)) ∧ Below w.heap.size w w' := by
  obtain ⟨h1, h2⟩ := hx
  obtain ⟨h3, h4⟩ := hy
  have hw : IntKind.i64.wrap (x.f - y.f) = x.f - y.f := IntWalk.i64_in _ (by omega)
  go_enter Try.func62, Try.ntmps62
  go_wp2_with fail
  go_ret
  exact ⟨ret_int rfl, (Below.refl _ _).alloc (Nat.le_refl _) _ |>.alloc (by simp) _⟩
theorem end_any (x : H4) (w : World) (hx : x.ok) (hl : x.ol ≤ 1000000) : Calls Try.prog 63 #[x.val] w fun e w' => e = .returned (.int .i64 (x.f + (x.ol : Int))) ∧ Below w.heap.size w w' := by
  obtain ⟨h1, h2⟩ := hx
  have hw : IntKind.i64.wrap (x.f + (x.ol : Int)) = x.f + (x.ol : Int) := IntWalk.i64_in _ (by omega)
  go_enter Try.func63, Try.ntmps63
  go_wp2_with fail
  go_ret
  exact ⟨ret_int rfl, (Below.refl _ _).alloc (Nat.le_refl _) _⟩
end Go.Proofs.Ytfjbdbdjhkmifaa
