/- One string, or one row of strings, appended to a row of the call's own. -/
import Derived.Test.YtoieicdnehnacaaGreatDoorRowsM
import Derived.Test.YtoieicdnehnacaaGreatDoorTell
import Derived.Deep.AppendLies
set_option linter.unusedVariables false
set_option linter.unusedSimpArgs false
namespace Go.Proofs.YtoieicdnehnacaaGreatDoor
open Go.RowKit Go.Pw
theorem info_rows : (Tryz.prog.info? 25).map (fun i => (i.zero, i.size, i.bytes)) = some (some (.slice none 0 0), 1, 24) := by kernel_rfl
theorem wpList_app_one {w : World} {ops : Array Oper} {rest : List Oper} {o : Oper} {a : Act} {Q : Exit → Act → World → Prop} {T : TypeId} {y : ByteArray} (hgd : o.guard = none) (s x : Operand)
    (ho : o.op = .call { callee := .builtin .append, args := #[s, x], argTypes := #[25, 25] }) (base : Nat) (v : Value) (l : List ByteArray) (hs : a.eval s = v) (hown : OwnS 9 w base v l)
    (hx : a.eval x = .slice (some ⟨w.heap.size, 0, none⟩) 1 1) (hb : l.length ≤ 1000000000) (hbase : base ≤ w.heap.size)
    (h : ∀ A c w', OwnS 9 w' base (.slice A (l.length + 1) c) (l ++ [y]) → Below base w w' → wpList Tryz.prog ops Q rest (a.put o.dst (.slice A (l.length + 1) c)) w') :
    wpList Tryz.prog ops Q (o :: rest) a (w.alloc (.cells #[.string y] T)) := by
  obtain ⟨ip, hip, hpz, hps, hpb⟩ := info_parts info_str
  have hown0 := hown
  unfold OwnS at hown
  refine wpList_append_own _ hgd s x 25 ho base 9 ip _ 1 16 Tryz.underlying25 hip hpz hps hpb rfl (by decide) v _ _ hs (hown.alloc _) ⟨w.heap.size, 0, none⟩ 1 1 [.string y] hx rfl (one_new _ _ _) (by intro u hu; simp at hu; rcases hu with rfl; rfl) (by unfold maxLen; omega) (by omega) (by simp; omega) ?_
  intro v' w' hown' hg _
  obtain ⟨h1, h2⟩ := OwnS.push hown0 hbase hown' hg
  obtain ⟨A, c, rfl⟩ := own_slice hown'
  exact h A c w' h1 h2
theorem wpList_app_row {w : World} {ops : Array Oper} {rest : List Oper} {o : Oper} {a : Act} {Q : Exit → Act → World → Prop} {T : TypeId} {u : Value} {l : List ByteArray} (hgd : o.guard = none) (s x : Operand)
    (ho : o.op = .call { callee := .builtin .append, args := #[s, x], argTypes := #[114, 114] }) (base : Nat) (v : Value) (vs : List Value) (rs : List (List ByteArray)) (hs : a.eval s = v) (hown : RowsR 25 w base v vs rs)
    (hu : Strs w u l) (hli : Lies w u) (hne : ∀ q, u.ownBlock = some q → v.ownBlock ≠ some q)
    (hx : a.eval x = .slice (some ⟨w.heap.size, 0, none⟩) 1 1) (hb : rs.length ≤ 1000000000) (hbase : base ≤ w.heap.size)
    (h : ∀ g c w', RowsR 25 w' base (.slice (some ⟨g, 0, none⟩) (rs.length + 1) c) (vs ++ [u]) (rs ++ [l]) → Below base w w' → wpList Tryz.prog ops Q rest (a.put o.dst (.slice (some ⟨g, 0, none⟩) (rs.length + 1) c)) w') :
    wpList Tryz.prog ops Q (o :: rest) a (w.alloc (.cells #[u] T)) := by
  obtain ⟨jp, hjp, hjz, hjs, hjb⟩ := info_parts info_rows
  have h1 : u.oneCell' = true := by obtain ⟨⟨_, A, c, rfl, _⟩, _⟩ := hu; rfl
  refine wpList_append_lies _ hgd s x 114 ho base 25 jp _ 1 24 Tryz.underlying114 hjp hjz hjs hjb rfl (by decide) v _ _ hs (own_below hown.own (alloc_under w _)) ⟨w.heap.size, 0, none⟩ 1 1 [u] hx rfl (one_new _ _ _) (by intro x hx; simp at hx; subst hx; exact h1) (by omega) (by unfold maxLen; omega) (by omega) (by simp; omega) (w.heap.size + 1) (by simp) ?_
  intro g c w' hown' hg hat _
  exact h g c w' (hown.push hu hli hne hown' hg hat) (below_append hown.own hbase hg)
end Go.Proofs.YtoieicdnehnacaaGreatDoor
