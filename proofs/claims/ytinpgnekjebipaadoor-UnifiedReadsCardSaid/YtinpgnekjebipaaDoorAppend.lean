import Derived.Test.YtinpgnekjebipaaDoorFew
import Derived.Laws.AppendOwnNone
import Derived.Deep.AppendLies
set_option linter.unusedSimpArgs false
set_option linter.unusedVariables false
namespace Go.Proofs.YtinpgnekjebipaaDoor
open Go.RowKit Go.Pw

theorem run_append_none_any {P : Program} {w : World} (base : Nat) (t ty e : TypeId) (i : TypeInfo) (size c : Nat) (ht : P.underlying t = some (.slice e)) (hi : P.info? e = some i)
    (v : Value) (n : Nat) (xs : List Value) (hown : w.ownsRow base e size v n xs) :
    (Builtin.append_ #[t, t] ty #[v, .slice none 0 c]).run P w = .ok v w := by
  rcases hown.2 with ⟨rfl, rfl⟩ | ⟨g, cap, cur, rfl, _, _, hnc, _⟩
  · simp [Builtin.append_, run_underlying ht, sizeOf, typeInfo, hi, Builtin.lenOf, Builtin.firstCells]
  · simp [Builtin.append_, run_underlying ht, sizeOf, typeInfo, hi, Builtin.lenOf, Builtin.firstCells, hnc, storeCells]
theorem grownBy_refl (w : World) (row : Option Nat) : w.grownBy w row := ⟨rfl, rfl, rfl, Nat.le_refl _, fun _ _ _ => rfl⟩
theorem add_at (a : Addr) (j : Nat) (h : a.spot = none) : a.add j = ⟨a.block, a.off + j, none⟩ := by
  obtain ⟨b, o, s⟩ := a
  simp only at h
  subst h
  unfold Addr.add
  split
  · rename_i e; subst e; rfl
  · rfl

/-- append(v, u...) of strings: v nil or the call's own, u any slice that reads as m -/
theorem run_app_strs (w : World) (base : Nat) (ty : TypeId) (v : Value) (l : List ByteArray) (hown : w.ownsRow base 9 1 v l.length (l.map Value.string)) (u : Value) (m : List ByteArray) (hu : Strs w u m)
    (hb : l.length + m.length ≤ 1000000000000) (hbase : base ≤ w.heap.size) :
    ∃ v' w', (Builtin.append_ #[44, 44] ty #[v, u]).run Tryd.prog w = .ok v' w' ∧ w'.ownsRow base 9 1 v' (l ++ m).length ((l ++ m).map Value.string) ∧ w.grownBy w' v.ownBlock := by
  obtain ⟨ip, hip, hpz, hps, hpb⟩ := info_parts info_string
  obtain ⟨⟨hl, A, cap, rfl, _, _, hx⟩, hz⟩ := hu
  by_cases h0 : m.length = 0
  · have hm : m = [] := List.eq_nil_of_length_eq_zero h0
    subst hm
    cases A with
    | none =>
      refine ⟨v, w, ?_, by simpa using hown, grownBy_refl _ _⟩
      exact run_append_none_any base _ ty 9 ip 1 cap Tryd.underlying44 hip v _ _ hown
    | some a =>
      obtain ⟨v', w', h1, h2, h3, _⟩ := run_append_own (P := Tryd.prog) w base 44 ty 9 ip _ 1 16 Tryd.underlying44 hip hpz hps hpb rfl (by decide) v l.length _ hown a 0 cap [] rfl (by simp) (by simp) (by unfold maxLen; simp at hb ⊢; omega) (by simp at hb ⊢; omega) hbase
      exact ⟨v', w', h1, by simpa using h2, h3⟩
  · obtain ⟨b, o, rfl, hbb, hj⟩ := hx (by omega)
    obtain ⟨v', w', h1, h2, h3, _⟩ := run_append_own (P := Tryd.prog) w base 44 ty 9 ip _ 1 16 Tryd.underlying44 hip hpz hps hpb rfl (by decide) v l.length _ hown ⟨b, o, none⟩ m.length cap (m.map Value.string) (by simp) (fun j u hu => by rw [add_at _ _ rfl]; exact hj j u hu) (by intro u hu; simp at hu; obtain ⟨s, _, rfl⟩ := hu; rfl) (by unfold maxLen; omega) (by omega) hbase
    exact ⟨v', w', h1, by rw [List.length_append, List.map_append]; exact h2, h3⟩

theorem wp_app_strs {w : World} {o : Oper} {a : Act} {K : Act → World → Prop} {Q : Exit → Act → World → Prop} (s x : Operand)
    (ho : o.op = .call { callee := .builtin .append, args := #[s, x], argTypes := #[44, 44] }) (base : Nat) (v : Value) (l : List ByteArray) (hs : a.eval s = v)
    (hown : w.ownsRow base 9 1 v l.length (l.map Value.string)) (u : Value) (m : List ByteArray) (hx : a.eval x = u) (hu : Strs w u m) (hb : l.length + m.length ≤ 1000000000000) (hbase : base ≤ w.heap.size)
    (h : ∀ v' w', w'.ownsRow base 9 1 v' (l ++ m).length ((l ++ m).map Value.string) → w.grownBy w' v.ownBlock → K (a.put o.dst v') w') : o.wp Tryd.prog a w K Q := by
  obtain ⟨v', w', hr, h2, h3⟩ := run_app_strs w base o.type v l hown u m hu hb hbase
  unfold Oper.wp execOp
  simp only [ho, resolve, invoke, builtin, Sem.run_bind, Sem.run_pure, Result.andThen_ok, List.map_toArray, List.map_cons, List.map_nil, hs, hx, hr]
  exact h v' w' h2 h3
theorem wpList_app_strs {w : World} {ops : Array Oper} {rest : List Oper} {o : Oper} {a : Act} {Q : Exit → Act → World → Prop} (hgd : o.guard = none) (s x : Operand)
    (ho : o.op = .call { callee := .builtin .append, args := #[s, x], argTypes := #[44, 44] }) (base : Nat) (v : Value) (l : List ByteArray) (hs : a.eval s = v)
    (hown : w.ownsRow base 9 1 v l.length (l.map Value.string)) (u : Value) (m : List ByteArray) (hx : a.eval x = u) (hu : Strs w u m) (hb : l.length + m.length ≤ 1000000000000) (hbase : base ≤ w.heap.size)
    (h : ∀ v' w', w'.ownsRow base 9 1 v' (l ++ m).length ((l ++ m).map Value.string) → w.grownBy w' v.ownBlock → wpList Tryd.prog ops Q rest (a.put o.dst v') w') : wpList Tryd.prog ops Q (o :: rest) a w :=
  wpList_plain hgd fun _ hK => wp_app_strs s x ho base v l hs hown u m hx hu hb hbase fun v' w' h2 h3 => hK _ _ (h v' w' h2 h3)
theorem step_app_strs {w : World} {ops : Array Oper} {o : Oper} {a : Act} {K : Act → World → Prop} {Q : Exit → Act → World → Prop} {E : Prop} (hgd : o.guard = none) (s x : Operand)
    (ho : o.op = .call { callee := .builtin .append, args := #[s, x], argTypes := #[44, 44] }) (base : Nat) (v : Value) (l : List ByteArray) (hs : a.eval s = v)
    (hown : w.ownsRow base 9 1 v l.length (l.map Value.string)) (u : Value) (m : List ByteArray) (hx : a.eval x = u) (hu : Strs w u m) (hb : l.length + m.length ≤ 1000000000000) (hbase : base ≤ w.heap.size)
    (h : ∀ v' w', w'.ownsRow base 9 1 v' (l ++ m).length ((l ++ m).map Value.string) → w.grownBy w' v.ownBlock → K (a.put o.dst v') w') :
    if Region.wanted o (yielded ops a.tmps) = true then Oper.wp Tryd.prog o a w K Q else E := by
  have hw : Region.wanted o (yielded ops a.tmps) = true := by simp [Region.wanted, hgd]
  rw [if_pos hw]
  exact wp_app_strs s x ho base v l hs hown u m hx hu hb hbase h
end Go.Proofs.YtinpgnekjebipaaDoor
