/- Appends to rows of strings of the call's own, with the place of the new row; slices.Clone with the place of what is made. -/
import Derived.Test.YtinpgnekjebipaaDoorUrR
import Derived.Test.YtinpgnekjebipaaDoorAppend
import Derived.Test.YtinpgnekjebipaaDoorDiff
set_option linter.unusedSimpArgs false
set_option linter.unusedVariables false
namespace Go.Proofs.YtinpgnekjebipaaDoor
open Go.RowKit Go.Pw
theorem own_fmU {w : World} {base : Nat} {e : TypeId} {size : Nat} {v : Value} {n : Nat} {xs : List Value} (h : w.ownsRow base e size v n xs) : ∃ A c, v = .slice A n c := by
  obtain ⟨_, A, c, e, _⟩ := Rd.of_own h
  exact ⟨A, c, e⟩
theorem clone_U (v : Value) (l : List ByteArray) (w : World) (h : Strs w v l) (hl : l.length * 16 ≤ 140737488355328) :
    Calls Tryd.prog 57 #[v] w fun e w' => ∃ A c, e = .returned (.slice A l.length c) ∧ w'.ownsRow w.heap.size 9 1 (.slice A l.length c) l.length (l.map Value.string) ∧ Below w.heap.size w w' := by
  obtain ⟨⟨_, A, cap, rfl, hcap, hmax, hx⟩, hsz⟩ := h
  cases A with
  | none =>
    have h0 : l = [] := by
      by_cases h0 : 0 < l.length
      · obtain ⟨b, o, e, _⟩ := hx h0
        cases e
      · exact List.eq_nil_of_length_eq_zero (by omega)
    subst h0
    refine (Tryd.slices_Clone_string_nil _ cap w).mono ?_
    rintro e w' ⟨rfl, rfl⟩
    exact ⟨none, 0, rfl, World.ownsRow_nil _ _ _ _, Below.refl _ _⟩
  | some ad =>
    by_cases h0 : 0 < l.length
    · obtain ⟨b, o, e, hb, hj⟩ := hx h0
      injection e with e
      subst e
      refine (Tryd.slices_Clone_string b o l.length cap l w (Nat.le_refl _) hl (fun j hj' => hj j _ (by simp [hj']))).mono ?_
      rintro e w' ⟨v', rfl, hown, _, hbl⟩
      rw [List.take_length] at hown
      obtain ⟨A, c, rfl⟩ := own_fmU hown
      exact ⟨A, c, rfl, hown, hbl⟩
    · obtain rfl : l = [] := List.eq_nil_of_length_eq_zero (by omega)
      refine (Tryd.slices_Clone_string_zero ad cap w).mono ?_
      rintro e w' ⟨v', rfl, hown, _, hbl⟩
      obtain ⟨A, c, rfl⟩ := own_fmU hown
      exact ⟨A, c, rfl, hown, hbl⟩
/-- append(v, u...) of strings: v nil or the call's own, u any slice that reads as m: with the place of what comes back -/
theorem run_appU (w : World) (base : Nat) (ty : TypeId) (v : Value) (l : List ByteArray) (hown : w.ownsRow base 9 1 v l.length (l.map Value.string)) (u : Value) (m L : List ByteArray) (hu : Strs w u m) (hL : l ++ m = L)
    (hb : l.length + m.length ≤ 1000000000000) (hbase : base ≤ w.heap.size) :
    ∃ A c w', (Builtin.append_ #[44, 44] ty #[v, u]).run Tryd.prog w = .ok (.slice A L.length c) w' ∧ w'.ownsRow base 9 1 (.slice A L.length c) L.length (L.map Value.string) ∧ w.grownBy w' v.ownBlock ∧
      ∀ g, (Value.slice A L.length c).ownBlock = some g → v.ownBlock = some g ∨ w.heap.size ≤ g := by
  subst hL
  have key : ∃ v' w', (Builtin.append_ #[44, 44] ty #[v, u]).run Tryd.prog w = .ok v' w' ∧ w'.ownsRow base 9 1 v' (l ++ m).length ((l ++ m).map Value.string) ∧ w.grownBy w' v.ownBlock ∧ ∀ g, v'.ownBlock = some g → v.ownBlock = some g ∨ w.heap.size ≤ g := by
    obtain ⟨ip, hip, hpz, hps, hpb⟩ := info_parts info_string
    obtain ⟨⟨hl, A, cap, rfl, _, _, hx⟩, hz⟩ := hu
    by_cases h0 : m.length = 0
    · have hm : m = [] := List.eq_nil_of_length_eq_zero h0
      subst hm
      cases A with
      | none =>
        refine ⟨v, w, ?_, by simpa using hown, grownBy_refl _ _, fun g hg => .inl hg⟩
        exact run_append_none_any base _ ty 9 ip 1 cap Tryd.underlying44 hip v _ _ hown
      | some a =>
        obtain ⟨v', w', h1, h2, h3, _, h5⟩ := run_append_own_at (P := Tryd.prog) w base 44 ty 9 ip _ 1 16 Tryd.underlying44 hip hpz hps hpb rfl (by decide) v l.length _ hown a 0 cap [] rfl (by simp) (by simp) (by unfold maxLen; simp at hb ⊢; omega) (by simp at hb ⊢; omega) hbase
        exact ⟨v', w', h1, by simpa using h2, h3, fun g hg => h5.elim (fun e => .inl (e ▸ hg)) (fun e => .inr (by rw [e] at hg; injection hg with hg; omega))⟩
    · obtain ⟨b, o, rfl, hbb, hj⟩ := hx (by omega)
      obtain ⟨v', w', h1, h2, h3, _, h5⟩ := run_append_own_at (P := Tryd.prog) w base 44 ty 9 ip _ 1 16 Tryd.underlying44 hip hpz hps hpb rfl (by decide) v l.length _ hown ⟨b, o, none⟩ m.length cap (m.map Value.string) (by simp) (fun j u hu => by rw [add_at _ _ rfl]; exact hj j u hu) (by intro u hu; simp at hu; obtain ⟨s, _, rfl⟩ := hu; rfl) (by unfold maxLen; omega) (by omega) hbase
      exact ⟨v', w', h1, by rw [List.length_append, List.map_append]; exact h2, h3, fun g hg => h5.elim (fun e => .inl (e ▸ hg)) (fun e => .inr (by rw [e] at hg; injection hg with hg; omega))⟩
  obtain ⟨v', w', h1, h2, h3, h4⟩ := key
  obtain ⟨A, c, rfl⟩ := own_fmU h2
  exact ⟨A, c, w', h1, h2, h3, h4⟩
theorem wp_appU {w : World} {o : Oper} {a : Act} {K : Act → World → Prop} {Q : Exit → Act → World → Prop} (s x : Operand)
    (ho : o.op = .call { callee := .builtin .append, args := #[s, x], argTypes := #[44, 44] }) (base : Nat) (v : Value) (l : List ByteArray) (hs : a.eval s = v)
    (hown : w.ownsRow base 9 1 v l.length (l.map Value.string)) (u : Value) (m L : List ByteArray) (hx : a.eval x = u) (hu : Strs w u m) (hL : l ++ m = L) (hb : l.length + m.length ≤ 1000000000000) (hbase : base ≤ w.heap.size)
    (h : ∀ A c w', w'.ownsRow base 9 1 (.slice A L.length c) L.length (L.map Value.string) → w.grownBy w' v.ownBlock → (∀ g, (Value.slice A L.length c).ownBlock = some g → v.ownBlock = some g ∨ w.heap.size ≤ g) → K (a.put o.dst (.slice A L.length c)) w') : o.wp Tryd.prog a w K Q := by
  obtain ⟨A, c, w', hr, h2, h3, h4⟩ := run_appU w base o.type v l hown u m L hu hL hb hbase
  unfold Oper.wp execOp
  simp only [ho, resolve, invoke, builtin, Sem.run_bind, Sem.run_pure, Result.andThen_ok, List.map_toArray, List.map_cons, List.map_nil, hs, hx, hr]
  exact h A c w' h2 h3 h4
theorem wpList_appU {w : World} {ops : Array Oper} {rest : List Oper} {o : Oper} {a : Act} {Q : Exit → Act → World → Prop} (hgd : o.guard = none) (s x : Operand)
    (ho : o.op = .call { callee := .builtin .append, args := #[s, x], argTypes := #[44, 44] }) (base : Nat) (v : Value) (l : List ByteArray) (hs : a.eval s = v)
    (hown : w.ownsRow base 9 1 v l.length (l.map Value.string)) (u : Value) (m L : List ByteArray) (hx : a.eval x = u) (hu : Strs w u m) (hL : l ++ m = L) (hb : l.length + m.length ≤ 1000000000000) (hbase : base ≤ w.heap.size)
    (h : ∀ A c w', w'.ownsRow base 9 1 (.slice A L.length c) L.length (L.map Value.string) → w.grownBy w' v.ownBlock → (∀ g, (Value.slice A L.length c).ownBlock = some g → v.ownBlock = some g ∨ w.heap.size ≤ g) → wpList Tryd.prog ops Q rest (a.put o.dst (.slice A L.length c)) w') : wpList Tryd.prog ops Q (o :: rest) a w :=
  wpList_plain hgd fun _ hK => wp_appU s x ho base v l hs hown u m L hx hu hL hb hbase fun A c w' h2 h3 h4 => hK _ _ (h A c w' h2 h3 h4)
theorem step_appU {w : World} {ops : Array Oper} {o : Oper} {a : Act} {K : Act → World → Prop} {Q : Exit → Act → World → Prop} {E : Prop} (hgd : o.guard = none) (s x : Operand)
    (ho : o.op = .call { callee := .builtin .append, args := #[s, x], argTypes := #[44, 44] }) (base : Nat) (v : Value) (l : List ByteArray) (hs : a.eval s = v)
    (hown : w.ownsRow base 9 1 v l.length (l.map Value.string)) (u : Value) (m L : List ByteArray) (hx : a.eval x = u) (hu : Strs w u m) (hL : l ++ m = L) (hb : l.length + m.length ≤ 1000000000000) (hbase : base ≤ w.heap.size)
    (h : ∀ A c w', w'.ownsRow base 9 1 (.slice A L.length c) L.length (L.map Value.string) → w.grownBy w' v.ownBlock → (∀ g, (Value.slice A L.length c).ownBlock = some g → v.ownBlock = some g ∨ w.heap.size ≤ g) → K (a.put o.dst (.slice A L.length c)) w') :
    if Region.wanted o (yielded ops a.tmps) = true then Oper.wp Tryd.prog o a w K Q else E := by
  have hw : Region.wanted o (yielded ops a.tmps) = true := by simp [Region.wanted, hgd]
  rw [if_pos hw]
  exact wp_appU s x ho base v l hs hown u m L hx hu hL hb hbase h
end Go.Proofs.YtinpgnekjebipaaDoor
