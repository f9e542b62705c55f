/- The reference's both: two lists of symbols in a new row. -/
import Derived.Test.YtfjbdbdjhkmifaaCdN
set_option linter.unusedVariables false
set_option linter.unusedSimpArgs false
namespace Go.Proofs.Ytfjbdbdjhkmifaa
open Go.RowKit Go.Pw
theorem SyOwn.push {w0 wr w5 : World} {v v2 : Value} {l : List Nat} {x : Nat} {ob : Obj} (hb : Below w0.heap.size w0 wr) (h : SyOwn wr w0.heap.size v l) (ho : w5.ownsRow w0.heap.size 3 1 v2 (l.length + 1) (natV l ++ [.int .i64 (x : Int)])) (hg : (wr.alloc ob).grownBy w5 v.ownBlock) :
    SyOwn w5 w0.heap.size v2 (l ++ [x]) ∧ Below w0.heap.size w0 w5 := by
  refine ⟨?_, (hb.alloc hb.size ob).grown hg (by have := hb.size; simp; omega) (fun y hy => own_ge h y hy)⟩
  unfold SyOwn
  rw [List.length_append, List.map_append]
  exact ho
set_option maxHeartbeats 4000000 in
theorem both_any (u v : Value) (x y : List Nat) (w : World) (hx : Nats w u x) (hy : Nats w v y) (lx : x.length ≤ 1000) (ly : y.length ≤ 1000) :
    Calls Try.prog 56 #[u, v] w fun e w' => ∃ v', e = .returned v' ∧ SyOwn w' w.heap.size v' (x ++ y) ∧ Below w.heap.size w w' := by
  obtain ⟨_, A, ca, rfl, ha1, ha2, ha⟩ := hx
  obtain ⟨_, B, cb, rfl, hb1, hb2, hb⟩ := hy
  have HA := hide ha
  have HB := hide hb
  obtain ⟨ip, hip, hpz, hps, hpb⟩ := info_parts info_int
  clear ha hb
  go_enter Try.func56, Try.ntmps56
  go_wp2_with fail
  go_loopw [5, 12] (fun v0 i wr => ∃ (k : Nat) (v : Value), v = v0 ∧ k ≤ x.length ∧ i = .int .i64 (k : Int) ∧ Hid (SyOwn wr w.heap.size v (x.take k)) ∧ Hid (Below w.heap.size w wr)) (fun _ i _ => x.length - (intOf i).toNat)
  case atStart => exact ⟨0, _, rfl, Nat.zero_le _, rfl, hide (World.ownsRow_nil _ _ _ _), hide (Below.refl _ _)⟩
  case round =>
    obtain ⟨k, v, rfl, hk, rfl, hso, hbl⟩ := hrel
    by_cases hlt : k < x.length
    · obtain ⟨b, o, rfl, hb, hj⟩ := HA.out (by omega)
      have cc : wr.cell? ⟨b, o + k, none⟩ = some (.int .i64 ((x[k] : Nat) : Int)) := (hbl.out.cell (p := ⟨b, o + k, none⟩) hb).trans (hj k _ (by simp [natV, hlt]))
      have ht := List.take_succ_eq_append_getElem hlt
      obtain ⟨ck, hck⟩ : ∃ a, x[k] = a := ⟨_, rfl⟩
      rw [hck] at cc ht
      have HT := hide ht
      have htl : (x.take k).length = k := by simp; omega
      obtain ⟨ts, hts⟩ : ∃ ts, x.take k = ts := ⟨_, rfl⟩
      rw [hts] at hso HT htl
      have bw1 := (Below.refl wr.heap.size wr).alloc (Nat.le_refl _) (.cells #[.int .i64 (ck : Int)] 3)
      have HOWN := hide (own_below hso.out bw1)
      have hsz := hbl.out.size
      have HPU : Hid (∀ v2 w5, w5.ownsRow w.heap.size 3 1 v2 (ts.length + 1) (natV ts ++ [.int .i64 (ck : Int)]) → (wr.alloc (.cells #[.int .i64 (ck : Int)] 3)).grownBy w5 v.ownBlock → SyOwn w5 w.heap.size v2 (ts ++ [ck]) ∧ Below w.heap.size w w5) := hide (fun v2 w5 q1 q2 => SyOwn.push hbl.out hso.out q1 q2)
      have HTL : Hid (ts.length = k) := hide htl
      have htl2 : ts.length ≤ 1000 := by omega
      clear hj hck ht hts htl hso hbl bw1
      go_wp2_with (at_builtin; refine wpList_append_own_at _ rfl _ _ 52 rfl w.heap.size 3 ip _ 1 8 Try.underlying52 hip hpz hps hpb rfl (by decide) _ ts.length (natV ts) rfl HOWN.out ⟨wr.heap.size, 0, none⟩ 1 1 [.int .i64 (ck : Int)] (by rfl) rfl (fun j u hu => by have := one_new wr (.int .i64 (ck : Int)) 3 j u hu; simpa using this) (by simp [Value.oneCell']) (by unfold maxLen; omega) (by omega) (by simp; omega) ?_; intro vv w5 hown5 hgrow5 hnil5 hat5; have HP5 := hide (HPU.out _ _ hown5 hgrow5); clear hown5 hgrow5 hnil5 hat5)
      go_roundw
      case rel => exact ⟨k + 1, _, rfl, by omega, by go_num, hide (by rw [HT.out]; exact HP5.out.1), hide HP5.out.2⟩
      case measure => simp [intOf]; omega
    · obtain rfl : k = x.length := by omega
      have hso2 : Hid (SyOwn wr w.heap.size v (x ++ y.take 0)) := hide (by have := hso.out; rw [List.take_length] at this; simpa using this)
      clear hso
      go_wp2_with fail
      go_loopw [5, 23] (fun v0 i wr => ∃ (k : Nat) (v : Value), v = v0 ∧ k ≤ y.length ∧ i = .int .i64 (k : Int) ∧ Hid (SyOwn wr w.heap.size v (x ++ y.take k)) ∧ Hid (Below w.heap.size w wr)) (fun _ i _ => y.length - (intOf i).toNat)
      case atStart => exact ⟨0, _, rfl, Nat.zero_le _, rfl, hso2, hbl⟩
      case round =>
        obtain ⟨k, v, rfl, hk, rfl, hso, hbl⟩ := hrel
        by_cases hlt : k < y.length
        · obtain ⟨b, o, rfl, hb, hj⟩ := HB.out (by omega)
          have cc : wr.cell? ⟨b, o + k, none⟩ = some (.int .i64 ((y[k] : Nat) : Int)) := (hbl.out.cell (p := ⟨b, o + k, none⟩) hb).trans (hj k _ (by simp [natV, hlt]))
          have ht : x ++ y.take (k + 1) = (x ++ y.take k) ++ [y[k]] := by rw [List.take_succ_eq_append_getElem hlt, List.append_assoc]
          obtain ⟨ck, hck⟩ : ∃ a, y[k] = a := ⟨_, rfl⟩
          rw [hck] at cc ht
          have HT := hide ht
          have htl : (x ++ y.take k).length ≤ 2000 := by simp; omega
          obtain ⟨ts, hts⟩ : ∃ ts, x ++ y.take k = ts := ⟨_, rfl⟩
          rw [hts] at hso HT htl
          have bw1 := (Below.refl wr.heap.size wr).alloc (Nat.le_refl _) (.cells #[.int .i64 (ck : Int)] 3)
          have HOWN := hide (own_below hso.out bw1)
          have hsz := hbl.out.size
          have HPU : Hid (∀ v2 w5, w5.ownsRow w.heap.size 3 1 v2 (ts.length + 1) (natV ts ++ [.int .i64 (ck : Int)]) → (wr.alloc (.cells #[.int .i64 (ck : Int)] 3)).grownBy w5 v.ownBlock → SyOwn w5 w.heap.size v2 (ts ++ [ck]) ∧ Below w.heap.size w w5) := hide (fun v2 w5 q1 q2 => SyOwn.push hbl.out hso.out q1 q2)
          clear hj hck ht hts hso hbl bw1
          go_wp2_with (at_builtin; refine wpList_append_own_at _ rfl _ _ 52 rfl w.heap.size 3 ip _ 1 8 Try.underlying52 hip hpz hps hpb rfl (by decide) _ ts.length (natV ts) rfl HOWN.out ⟨wr.heap.size, 0, none⟩ 1 1 [.int .i64 (ck : Int)] (by rfl) rfl (fun j u hu => by have := one_new wr (.int .i64 (ck : Int)) 3 j u hu; simpa using this) (by simp [Value.oneCell']) (by unfold maxLen; omega) (by omega) (by simp; omega) ?_; intro vv w5 hown5 hgrow5 hnil5 hat5; have HP5 := hide (HPU.out _ _ hown5 hgrow5); clear hown5 hgrow5 hnil5 hat5)
          go_roundw
          case rel => exact ⟨k + 1, _, rfl, by omega, by go_num, hide (by rw [HT.out]; exact HP5.out.1), hide HP5.out.2⟩
          case measure => simp [intOf]; omega
        · obtain rfl : k = y.length := by omega
          have hso2 : Hid (SyOwn wr w.heap.size v (x ++ y)) := hide (by have := hso.out; rw [List.take_length] at this; exact this)
          clear hso
          go_wp2_with fail
          go_ret
          exact ⟨_, rfl, hso2.out, hbl.out⟩
end Go.Proofs.Ytfjbdbdjhkmifaa
