/- Two rows of bytes of the call's own, in blocks of their own: append of one byte to either, at a step of a region that draws its order. -/
import Derived.Test.YtifpmigghplmoaaGreatDoorBuilder
import Derived.Deep.RegionLaw
import Derived.Deep.AppendLies
set_option linter.unusedVariables false
set_option linter.unusedSimpArgs false
namespace Go.Pw
open Go.RowKit
/-- a row of bytes of the call's own -/
def OwnB (t : TypeId) (w : World) (base : Nat) (v : Value) (l : List UInt8) : Prop := w.ownsRow base t 1 v l.length (Lib.byteCells l)
theorem OwnB.alloc {t : TypeId} {w : World} {base : Nat} {v : Value} {l : List UInt8} (h : OwnB t w base v l) (o : Obj) : OwnB t (w.alloc o) base v l := World.ownsRow.alloc h o
theorem OwnB.drew {t : TypeId} {w : World} {base : Nat} {v : Value} {l : List UInt8} (h : OwnB t w base v l) : OwnB t w.drew base v l := World.ownsRow.drew h
theorem OwnB.nil (t : TypeId) (w : World) (base : Nat) : OwnB t w base (.slice none 0 0) [] := World.ownsRow_nil _ _ _ _
/-- two rows of bytes of the call's own, in blocks of their own -/
structure DP2 (t : TypeId) (w0 w : World) (base : Nat) (lv bv : Value) (ls bs : List UInt8) : Prop where
  l : OwnB t w base lv ls
  b : OwnB t w base bv bs
  ne : ∀ k, lv.ownBlock = some k → bv.ownBlock ≠ some k
  bel : Below base w0 w
theorem DP2.swap {t : TypeId} {w0 w : World} {base : Nat} {lv bv : Value} {ls bs : List UInt8} (h : DP2 t w0 w base lv bv ls bs) : DP2 t w0 w base bv lv bs ls :=
  ⟨h.b, h.l, fun k hk e => h.ne k e hk, h.bel⟩
theorem DP2.alloc {t : TypeId} {w0 w : World} {base : Nat} {lv bv : Value} {ls bs : List UInt8} (h : DP2 t w0 w base lv bv ls bs) (hb : base ≤ w0.heap.size) (o : Obj) : DP2 t w0 (w.alloc o) base lv bv ls bs :=
  ⟨h.l.alloc o, h.b.alloc o, h.ne, h.bel.alloc (Nat.le_trans hb h.bel.size) o⟩
theorem DP2.drew {t : TypeId} {w0 w : World} {base : Nat} {lv bv : Value} {ls bs : List UInt8} (h : DP2 t w0 w base lv bv ls bs) : DP2 t w0 w.drew base lv bv ls bs :=
  ⟨h.l.drew, h.b.drew, h.ne, h.bel.drew⟩
theorem DP2.put {t : TypeId} {w0 V w' : World} {base : Nat} {lv bv : Value} {ls bs : List UInt8} {g cap : Nat} {c : UInt8} (h : DP2 t w0 V base lv bv ls bs) (hb : base ≤ V.heap.size)
    (hown : w'.ownsRow base t 1 (.slice (some ⟨g, 0, none⟩) (ls.length + 1) cap) (ls.length + 1) (Lib.byteCells ls ++ [.int .u8 (c.toNat : Int)])) (hg : V.grownBy w' lv.ownBlock) (hat : lv.ownBlock = some g ∨ g = V.heap.size) :
    DP2 t w0 w' base (.slice (some ⟨g, 0, none⟩) (ls.length + 1) cap) bv (ls ++ [c]) bs := by
  refine ⟨?_, h.b.kept hg ?_, fun k hk e => ?_, h.bel.grown hg hb (fun k hk => (h.l.lt k hk).1)⟩
  · unfold OwnB
    rw [List.length_append, show Lib.byteCells (ls ++ [c]) = Lib.byteCells ls ++ [.int .u8 (c.toNat : Int)] by simp [Lib.byteCells]]
    exact hown
  · cases hk : bv.ownBlock with
    | none => exact .inl rfl
    | some k => exact .inr (fun e => h.ne k e.symm hk)
  · have hgk : g = k := Option.some.inj hk
    subst hgk
    rcases hat with hat | hat
    · exact h.ne _ hat e
    · have := (h.b.lt _ e).2; omega
end Go.Pw
namespace Go.Proofs.YtifpmigghplmoaaGreatDoor
open Go.RowKit Go.Pw
theorem step_dpL {w0 V : World} {ops : Array Oper} {o : Oper} {a : Act} {K : Act → World → Prop} {Q : Exit → Act → World → Prop} {E : Prop} {base : Nat} {lv bv : Value} {ls bs : List UInt8} (hgd : o.guard = none) (s x : Operand)
    (ho : o.op = .call { callee := .builtin .append, args := #[s, x], argTypes := #[41, 41] }) (hs : a.eval s = lv) (c : UInt8)
    (h : DP2 5 w0 V base lv bv ls bs) (hx : ∃ Kb, a.eval x = .slice (some ⟨Kb, 0, none⟩) 1 1 ∧ V.cell? ⟨Kb, 0, none⟩ = some (.int .u8 (c.toNat : Int))) (hlen : ls.length ≤ 1000000) (hbase0 : base ≤ w0.heap.size)
    (H : ∀ g cap w', DP2 5 w0 w' base (.slice (some ⟨g, 0, none⟩) (ls.length + 1) cap) bv (ls ++ [c]) bs → (∀ K j u, V.cell? ⟨K, j, none⟩ = some u → lv.ownBlock ≠ some K → w'.cell? ⟨K, j, none⟩ = some u) → V.heap.size ≤ w'.heap.size → K (a.put o.dst (.slice (some ⟨g, 0, none⟩) (ls.length + 1) cap)) w') :
    if Region.wanted o (yielded ops a.tmps) = true then Oper.wp Tryz.prog o a V K Q else E := by
  have hbase : base ≤ V.heap.size := Nat.le_trans hbase0 h.bel.size
  obtain ⟨ip, hip, hpz, hps, hpb⟩ := info_parts infoB
  obtain ⟨Kb, hx, hc⟩ := hx
  refine step_append_lies _ hgd s x 41 ho base 5 ip _ 1 1 Tryz.underlying41 hip hpz hps hpb rfl (by decide) lv _ _ hs h.l ⟨Kb, 0, none⟩ 1 1 [.int .u8 (c.toNat : Int)] hx rfl ?_ (by intro u hu; simp at hu; rcases hu with rfl; rfl) (by omega) (by unfold maxLen; omega) (by omega) hbase _ rfl ?_
  · intro j u hu
    match j, hu with
    | 0, hu =>
      obtain rfl := Option.some.inj hu
      exact hc
  · intro g cap w' hown hg hat hlt
    refine H g cap w' (h.put hbase hown hg hat) (fun K j u hu hn => ?_) hg.size
    refine (World.cell?_of_block (hg.block K ?_ (fun e => hn e.symm))).trans hu
    · rcases Nat.lt_or_ge K V.heap.size with hk | hk
      · exact hk
      · simp [World.cell?, Array.getElem?_eq_none hk] at hu
theorem step_dpB {w0 V : World} {ops : Array Oper} {o : Oper} {a : Act} {K : Act → World → Prop} {Q : Exit → Act → World → Prop} {E : Prop} {base : Nat} {lv bv : Value} {ls bs : List UInt8} (hgd : o.guard = none) (s x : Operand)
    (ho : o.op = .call { callee := .builtin .append, args := #[s, x], argTypes := #[41, 41] }) (hs : a.eval s = bv) (c : UInt8)
    (h : DP2 5 w0 V base lv bv ls bs) (hx : ∃ Kb, a.eval x = .slice (some ⟨Kb, 0, none⟩) 1 1 ∧ V.cell? ⟨Kb, 0, none⟩ = some (.int .u8 (c.toNat : Int))) (hlen : bs.length ≤ 1000000) (hbase0 : base ≤ w0.heap.size)
    (H : ∀ g cap w', DP2 5 w0 w' base lv (.slice (some ⟨g, 0, none⟩) (bs.length + 1) cap) ls (bs ++ [c]) → (∀ K j u, V.cell? ⟨K, j, none⟩ = some u → bv.ownBlock ≠ some K → w'.cell? ⟨K, j, none⟩ = some u) → V.heap.size ≤ w'.heap.size → K (a.put o.dst (.slice (some ⟨g, 0, none⟩) (bs.length + 1) cap)) w') :
    if Region.wanted o (yielded ops a.tmps) = true then Oper.wp Tryz.prog o a V K Q else E :=
  step_dpL hgd s x ho hs c h.swap hx hlen hbase0 (fun g cap w' hd hf hz => H g cap w' hd.swap hf hz)
theorem wpList_dpL {w0 V : World} {ops : Array Oper} {o : Oper} {a : Act} {rest : List Oper} {Q : Exit → Act → World → Prop} {base : Nat} {lv bv : Value} {ls bs : List UInt8} (hgd : o.guard = none) (s x : Operand)
    (ho : o.op = .call { callee := .builtin .append, args := #[s, x], argTypes := #[41, 41] }) (hs : a.eval s = lv) (c : UInt8)
    (h : DP2 5 w0 V base lv bv ls bs) (hx : ∃ Kb, a.eval x = .slice (some ⟨Kb, 0, none⟩) 1 1 ∧ V.cell? ⟨Kb, 0, none⟩ = some (.int .u8 (c.toNat : Int))) (hlen : ls.length ≤ 1000000) (hbase0 : base ≤ w0.heap.size)
    (H : ∀ g cap w', DP2 5 w0 w' base (.slice (some ⟨g, 0, none⟩) (ls.length + 1) cap) bv (ls ++ [c]) bs → (∀ K j u, V.cell? ⟨K, j, none⟩ = some u → lv.ownBlock ≠ some K → w'.cell? ⟨K, j, none⟩ = some u) → V.heap.size ≤ w'.heap.size → wpList Tryz.prog ops Q rest (a.put o.dst (.slice (some ⟨g, 0, none⟩) (ls.length + 1) cap)) w') :
    wpList Tryz.prog ops Q (o :: rest) a V := by
  have hbase : base ≤ V.heap.size := Nat.le_trans hbase0 h.bel.size
  obtain ⟨ip, hip, hpz, hps, hpb⟩ := info_parts infoB
  obtain ⟨Kb, hx, hc⟩ := hx
  refine wpList_append_lies _ hgd s x 41 ho base 5 ip _ 1 1 Tryz.underlying41 hip hpz hps hpb rfl (by decide) lv _ _ hs h.l ⟨Kb, 0, none⟩ 1 1 [.int .u8 (c.toNat : Int)] hx rfl ?_ (by intro u hu; simp at hu; rcases hu with rfl; rfl) (by omega) (by unfold maxLen; omega) (by omega) hbase _ rfl ?_
  · intro j u hu
    match j, hu with
    | 0, hu =>
      obtain rfl := Option.some.inj hu
      exact hc
  · intro g cap w' hown hg hat hlt
    refine H g cap w' (h.put hbase hown hg hat) (fun K j u hu hn => ?_) hg.size
    refine (World.cell?_of_block (hg.block K ?_ (fun e => hn e.symm))).trans hu
    · rcases Nat.lt_or_ge K V.heap.size with hk | hk
      · exact hk
      · simp [World.cell?, Array.getElem?_eq_none hk] at hu
theorem wpList_dpB {w0 V : World} {ops : Array Oper} {o : Oper} {a : Act} {rest : List Oper} {Q : Exit → Act → World → Prop} {base : Nat} {lv bv : Value} {ls bs : List UInt8} (hgd : o.guard = none) (s x : Operand)
    (ho : o.op = .call { callee := .builtin .append, args := #[s, x], argTypes := #[41, 41] }) (hs : a.eval s = bv) (c : UInt8)
    (h : DP2 5 w0 V base lv bv ls bs) (hx : ∃ Kb, a.eval x = .slice (some ⟨Kb, 0, none⟩) 1 1 ∧ V.cell? ⟨Kb, 0, none⟩ = some (.int .u8 (c.toNat : Int))) (hlen : bs.length ≤ 1000000) (hbase0 : base ≤ w0.heap.size)
    (H : ∀ g cap w', DP2 5 w0 w' base lv (.slice (some ⟨g, 0, none⟩) (bs.length + 1) cap) ls (bs ++ [c]) → (∀ K j u, V.cell? ⟨K, j, none⟩ = some u → bv.ownBlock ≠ some K → w'.cell? ⟨K, j, none⟩ = some u) → V.heap.size ≤ w'.heap.size → wpList Tryz.prog ops Q rest (a.put o.dst (.slice (some ⟨g, 0, none⟩) (bs.length + 1) cap)) w') :
    wpList Tryz.prog ops Q (o :: rest) a V :=
  wpList_dpL hgd s x ho hs c h.swap hx hlen hbase0 (fun g cap w' hd hf hz => H g cap w' hd.swap hf hz)
end Go.Proofs.YtifpmigghplmoaaGreatDoor
