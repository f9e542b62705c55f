/- The reference's Sorted. -/
import Derived.Test.YtkikbejpgfhfoaaGreatDoorUnord
import Derived.Test.YtkikbejpgfhfoaaGreatDoorHunk
import Derived.Test.YtkikbejpgfhfoaaGreatDoorRefL
import Derived.Test.YtkikbejpgfhfoaaGreatDoorTell
import Derived.Deep.DeepCutAuto
set_option linter.unusedVariables false
set_option linter.unusedSimpArgs false
namespace Go.Pw
open Go.RowKit
/-- where the sorting of the reference stands -/
structure SrAt (tS tP : TypeId) (o : Sp) (kv : Value) (w wr : World) (v : Value) (S : List ByteArray) : Prop where
  own : OwnS tS wr (w.heap.size + 1) v S
  sp : SpIn wr w.heap.size tP o kv
  bel : Below w.heap.size w wr
theorem SrAt.below {tS tP : TypeId} {o : Sp} {kv : Value} {w wr w' : World} {v : Value} {S : List ByteArray} (h : SrAt tS tP o kv w wr v S) (hb : Below wr.heap.size wr w') : SrAt tS tP o kv w w' v S :=
  ⟨own_below h.own hb, h.sp.below hb h.sp.lt, h.bel.trans (hb.mono h.bel.size)⟩
theorem SrAt.drewN {tS tP : TypeId} {o : Sp} {kv : Value} {w wr : World} {v : Value} {S : List ByteArray} (h : SrAt tS tP o kv w wr v S) (n : Nat) : SrAt tS tP o kv w (wr.drewN n) v S :=
  ⟨h.own, h.sp, below_drewN h.bel n⟩
theorem SrAt.push {tS tP : TypeId} {o : Sp} {kv : Value} {w wr w' : World} {v v' : Value} {S : List ByteArray} {x : ByteArray} {ob : Obj} (h : SrAt tS tP o kv w wr v S)
    (hown' : w'.ownsRow (w.heap.size + 1) tS 1 v' (S.length + 1) (S.map Value.string ++ [.string x])) (hg : (wr.alloc ob).grownBy w' v.ownBlock) : SrAt tS tP o kv w w' v' (S ++ [x]) := by
  have hlt := h.sp.lt
  obtain ⟨h1, h2⟩ := OwnS.push h.own (by omega) hown' hg
  exact ⟨h1, h.sp.below h2 (by omega), h.bel.trans (h2.mono (by omega))⟩
theorem SrAt.set {tS tP : TypeId} {o : Sp} {kv : Value} {w wr : World} {g cap n : Nat} {S : List ByteArray} (h : SrAt tS tP o kv w wr (.slice (some ⟨g, 0, none⟩) n cap) S) (hn : S.length = n) (i : Nat) (x : ByteArray) :
    SrAt tS tP o kv w (wr.setCell ⟨g, i, none⟩ (.string x)) (.slice (some ⟨g, 0, none⟩) n cap) (S.set i x) := by
  subst hn
  have hg := own_ge h.own g rfl
  refine ⟨?_, (Below.heap_setCell _ _ _ _ (by simp; omega)).trans h.sp, h.bel.setCell (by simp; omega) _⟩
  have := (World.ownsRow.stored h.own i (.string x)).1
  unfold OwnS
  rw [List.map_set, List.length_set]
  exact this
theorem SrAt.at {tS tP : TypeId} {o : Sp} {kv : Value} {w wr : World} {g cap n : Nat} {S : List ByteArray} (h : SrAt tS tP o kv w wr (.slice (some ⟨g, 0, none⟩) n cap) S) (hn : S.length = n) {i : Nat} {x : ByteArray} (hx : S[i]? = some x) :
    wr.cell? ⟨g, i, none⟩ = some (.string x) ∧ wr.frozen? ⟨g, i, none⟩ = false := by
  subst hn
  have hi := (List.getElem?_eq_some_iff.1 hx).1
  refine ⟨?_, World.ownsRow.frozenAt h.own i⟩
  rw [World.ownsRow.cellAt h.own i (by omega), List.getElem?_map, hx]
  rfl
theorem shift_len (S : List ByteArray) (k : Nat) (z : ByteArray) (h : k ≤ S.length) : (S.take k ++ z :: S.drop k).length = S.length + 1 := by
  rw [List.length_append, List.length_cons, List.length_take, List.length_drop]; omega
theorem shift_here (S : List ByteArray) (k : Nat) (z : ByteArray) (h : k ≤ S.length) : (S.take k ++ z :: S.drop k)[k]? = some z := by
  rw [List.getElem?_append_right (by rw [List.length_take]; omega), List.length_take, Nat.min_eq_left h, Nat.sub_self]; rfl
theorem insR_put {f : ByteArray → ByteArray → Int} {u : Bool} {S : List ByteArray} {x : ByteArray} {i : Nat} (h : gtEnd f x S S.length = i) (hn : ¬ (u = true ∧ 0 < i ∧ f x (S.getD (i - 1) ⟨#[]⟩) = 0)) : insR f u S x = S.take i ++ x :: S.drop i := by
  unfold insR
  rw [h, if_neg hn]
theorem insR_skip {f : ByteArray → ByteArray → Int} {u : Bool} {S : List ByteArray} {x : ByteArray} {i : Nat} (h : gtEnd f x S S.length = i) (hn : u = true ∧ 0 < i ∧ f x (S.getD (i - 1) ⟨#[]⟩) = 0) : insR f u S x = S := by
  unfold insR
  rw [h, if_pos hn]
theorem shift_step {S : List ByteArray} {k : Nat} {z : ByteArray} (hk : 0 < k) (hk2 : k ≤ S.length) : (S.take k ++ z :: S.drop k).set k (S[k - 1]'(by omega)) = S.take (k - 1) ++ S[k - 1]'(by omega) :: S.drop (k - 1) := by
  have e1 : S.take k = S.take (k - 1) ++ [S[k - 1]'(by omega)] := by
    conv => lhs; rw [show k = (k - 1) + 1 by omega]
    rw [List.take_succ_eq_append_getElem (by omega)]
  have e2 : S.drop (k - 1) = S[k - 1]'(by omega) :: S.drop k := by
    rw [List.drop_eq_getElem_cons (by omega)]
    congr 2; omega
  rw [List.set_append_right _ _ (by rw [List.length_take]; omega), List.length_take, Nat.min_eq_left (by omega), Nat.sub_self, List.set_cons_zero, e2, e1]
  simp only [List.append_assoc, List.cons_append, List.nil_append]
theorem shift_end {S : List ByteArray} {i : Nat} {x z : ByteArray} (hi : i ≤ S.length) : (S.take i ++ z :: S.drop i).set i x = S.take i ++ x :: S.drop i := by
  rw [List.set_append_right _ _ (by rw [List.length_take]; omega), List.length_take, Nat.min_eq_left (by omega), Nat.sub_self, List.set_cons_zero]
theorem shift_at {S : List ByteArray} {k : Nat} {z : ByteArray} (hk : 0 < k) (hk2 : k ≤ S.length) : (S.take k ++ z :: S.drop k)[k - 1]? = some (S[k - 1]'(by omega)) := by
  rw [List.getElem?_append_left (by rw [List.length_take]; omega), List.getElem?_take, if_pos (by omega), List.getElem?_eq_getElem (by omega)]
theorem sortR_snoc (f : ByteArray → ByteArray → Int) (u : Bool) (l : List ByteArray) (k : Nat) (h : k < l.length) : sortR f u (l.take (k + 1)) = insR f u (sortR f u (l.take k)) l[k] := by
  rw [List.take_succ_eq_append_getElem h]
  unfold sortR
  rw [List.foldl_append]; rfl
theorem insR_len (f : ByteArray → ByteArray → Int) (u : Bool) (S : List ByteArray) (x : ByteArray) : (insR f u S x).length ≤ S.length + 1 := by
  have := gtEnd_le (f := f) x S S.length
  unfold insR
  split
  · omega
  · rw [List.length_append, List.length_cons, List.length_take, List.length_drop]; omega
theorem insR_mem {f : ByteArray → ByteArray → Int} {u : Bool} {S : List ByteArray} {x z : ByteArray} (h : z ∈ insR f u S x) : z ∈ S ∨ z = x := by
  unfold insR at h
  split at h
  · exact .inl h
  · rcases List.mem_append.1 h with h | h
    · exact .inl (List.mem_of_mem_take h)
    · rcases List.mem_cons.1 h with h | h
      · exact .inr h
      · exact .inl (List.mem_of_mem_drop h)
theorem sortR_bound (f : ByteArray → ByteArray → Int) (u : Bool) (l : List ByteArray) : ∀ k, k ≤ l.length → (sortR f u (l.take k)).length ≤ k ∧ ∀ z ∈ sortR f u (l.take k), z ∈ l
  | 0, _ => ⟨Nat.le_refl _, fun z hz => by cases hz⟩
  | k + 1, hk => by
    obtain ⟨h1, h2⟩ := sortR_bound f u l k (by omega)
    rw [sortR_snoc f u l k (by omega)]
    refine ⟨by have := insR_len f u (sortR f u (l.take k)) l[k]; omega, fun z hz => ?_⟩
    rcases insR_mem hz with hz | rfl
    · exact h2 z hz
    · exact List.getElem_mem _
end Go.Pw
namespace Go.Proofs.YtkikbejpgfhfoaaGreatDoor
open Go.RowKit Go.Pw
set_option maxHeartbeats 4000000 in
set_option maxRecDepth 100000 in
theorem sortedR_any (o : Sp) (kv v : Value) (l : List ByteArray) (w : World) (hk : KeysIn w kv o.keys) (hg : ∀ k ∈ o.keys, k.good) (h : Strs w v l) (hsz : ∀ s ∈ l, s.size ≤ 1000000) (hlen : l.length ≤ 1000000) :
    Calls Tryz.prog 16 #[spV o kv, v] w fun e w' => ∃ v', e = .returned v' ∧ OwnS 9 w' (w.heap.size + 1) v' (sortR (ordCmp o) o.unique l) ∧ Below w.heap.size w w' := by
  obtain ⟨ip, hip, hpz, hps, hpb⟩ := info_parts info_str
  obtain ⟨B, cb, rfl⟩ : ∃ B cb, kv = .slice B o.keys.length cb := by
    obtain ⟨_, A, cap, h, _⟩ := hk
    exact ⟨A, cap, h⟩
  obtain ⟨⟨_, A, cap, rfl, hcap, hmax, hx⟩, _⟩ := h
  have HX := hide hx
  have HZ := hide hsz
  have HAT0 : Hid (SrAt 9 24 o (.slice B o.keys.length cb) w (w.alloc (.cells #[.string o.sep, .slice B o.keys.length cb, .bool o.reverse, .bool o.stable, .bool o.unique] 24)) (.slice none 0 0) []) :=
    hide ⟨World.ownsRow_nil _ _ _ _, heap_alloc_new _ _, (Below.refl w.heap.size w).alloc (Nat.le_refl _) _⟩
  have HCM : Hid (∀ (x y : ByteArray) (w1 wr : World), w1.heap = wr.heap → Below w.heap.size w wr → x.size ≤ 1000000 → y.size ≤ 1000000 → Calls Tryz.prog 32 #[.agg #[.string o.sep, .slice B o.keys.length cb, .bool o.reverse, .bool o.stable, .bool o.unique], .string x, .string y] w1 fun e w' => e = .returned (.int .i64 (ordCmp o x y)) ∧ Below w1.heap.size w1 w') := hide (fun x y w1 wr e1 hb z1 z2 =>
    orderR_any o (.slice B o.keys.length cb) x y w1 (hk.keep (by rw [e1]; exact hb.size) (fun p hp => (World.cell?_of_block (w := wr) (by rw [e1])).trans (hb.cell hp))) hg z1 z2)
  clear hx hsz hk hg
  unfold spV
  obtain ⟨u, hu⟩ : ∃ u, o.unique = u := ⟨_, rfl⟩
  have HU := hide hu
  rw [hu] at HAT0 HCM ⊢
  clear hu
  go_enter Tryz.func16, Tryz.ntmps16
  go_wp2_with fail
  go_loopw [5, 12] (fun v i wr => ∃ k : Nat, k ≤ l.length ∧ i = .int .i64 (k : Int) ∧ Hid (SrAt 9 24 o (.slice B o.keys.length cb) w wr v (sortR (ordCmp o) u (l.take k)))) (fun _ i _ => l.length - (intOf i).toNat)
  case atStart => exact ⟨0, Nat.zero_le _, rfl, HAT0⟩
  case round =>
    clear HAT0
    obtain ⟨k, hk, rfl, hat⟩ := hrel
    by_cases hlt : k < l.length
    · obtain ⟨bb, ob, rfl, hbb, hj⟩ := HX.out (by omega)
      have q1 : l[k]? = some l[k] := List.getElem?_eq_getElem hlt
      have hb := hat.out.bel
      have c1 : wr.cell? ⟨bb, ob + k, none⟩ = some (.string l[k]) := (hb.cell (p := ⟨bb, ob + k, none⟩) hbb).trans (hj k _ (by rw [List.getElem?_map, q1]; rfl))
      have z1 := HZ.out _ (List.getElem_mem hlt)
      have hbd := sortR_bound (ordCmp o) u l k (by omega)
      have HNX := hide (sortR_snoc (ordCmp o) u l k hlt)
      obtain ⟨S, hS⟩ : ∃ S, sortR (ordCmp o) u (l.take k) = S := ⟨_, rfl⟩
      obtain ⟨x, hx⟩ : ∃ x, l[k] = x := ⟨_, rfl⟩
      rw [hx] at c1 z1 HNX
      rw [hS] at hat hbd HNX
      have hSl := hbd.1
      have HSZ : Hid (∀ z ∈ S, z.size ≤ 1000000) := hide (fun z hz => HZ.out z (hbd.2 z hz))
      obtain ⟨OA, oc, rfl⟩ := own_slice hat.out.own
      clear hj q1 hx hS hbd hb
      have hk3 : (k : Int) < (l.length : Int) := by omega
      go_wp2_with fail
      obtain ⟨w1, hw1⟩ : ∃ w1, w1 = wr := ⟨_, rfl⟩
      subst hw1
      go_loopw [8] (fun i wr => ∃ i' : Nat, i' ≤ S.length ∧ i = .int .i64 (i' : Int) ∧ Hid (gtEnd (ordCmp o) x S S.length = gtEnd (ordCmp o) x S i') ∧ Hid (SrAt 9 24 o (.slice B o.keys.length cb) w wr (.slice OA S.length oc) S)) (fun i _ => (intOf i).toNat)
      case atStart => exact ⟨S.length, Nat.le_refl _, rfl, hide rfl, hat⟩
      case round =>
        clear hat c1
        obtain ⟨i, hi, rfl, HG, hat⟩ := hrel
        by_cases hi0 : 0 < i
        · have hd0 : (0 : Int) < (i : Int) := by omega
          obtain ⟨g, cg, e, hg1, hg2⟩ := World.ownsRow.form hat.out.own (by omega)
          injection e with e1 _ e3
          subst e1 e3
          have q1 : S[i - 1]? = some S[i - 1] := List.getElem?_eq_getElem (by omega)
          obtain ⟨c1, f1⟩ := hat.out.at rfl q1
          have z2 := HSZ.out _ (List.getElem_mem (show i - 1 < S.length by omega))
          have e2 : gtEnd (ordCmp o) x S i = if ordCmp o x S[i - 1] < 0 then gtEnd (ordCmp o) x S (i - 1) else i := by
            conv => lhs; rw [show i = (i - 1) + 1 by omega]
            rw [gtEnd, getD_at (show i - 1 < S.length by omega), show i - 1 + 1 = i by omega]
          obtain ⟨y, hy⟩ : ∃ y, S[i - 1] = y := ⟨_, rfl⟩
          have HYY := hide hy
          rw [hy] at c1 z2 e2
          have HE := hide e2
          have hw1 : IntKind.i64.wrap ((i : Int) - 1) = (i : Int) - 1 := IntWalk.i64_in _ (by omega)
          have hw2 : ((i : Int) - 1).toNat = i - 1 := by omega
          have hw3 : (0 : Int) ≤ (i : Int) - 1 := by omega
          have hw4 : (i : Int) - 1 < (S.length : Int) := by omega
          have hw6 : (1 : Int) ≤ (i : Int) := by omega
          have hw7 : 1 ≤ i := by omega
          obtain ⟨d0, d1, d2, d3, d4⟩ := hat.out.sp.cells
          rw [HU.out] at d4
          have hlts := hat.out.sp.lt
          have hbw := hat.out.bel
          clear q1 hy e2
          by_cases hcf : ordCmp o x y < 0
          · have hcf' : decide (ordCmp o x y < 0) = true := by simpa using hcf
            have HN : Hid (gtEnd (ordCmp o) x S S.length = gtEnd (ordCmp o) x S (i - 1)) := hide (by rw [HG.out, HE.out, if_pos hcf])
            clear HE HG
            go_wp2_with fail
            go_region_held3 (fun w' => w'.cell? ⟨w.heap.size, 0, none⟩ = some (.string o.sep) ∧ w'.cell? ⟨w.heap.size, 1, none⟩ = some (.slice B o.keys.length cb) ∧ w'.cell? ⟨w.heap.size, 2, none⟩ = some (.bool o.reverse) ∧ w'.cell? ⟨w.heap.size, 3, none⟩ = some (.bool o.stable) ∧ w'.cell? ⟨w.heap.size, 4, none⟩ = some (.bool u) ∧ w'.cell? ⟨g, i - 1, none⟩ = some (.string y)) (go_keep) ((go_at_call 32; (with_reducible refine (HCM.out x y wr.drew wr rfl hbw z1 z2).mono ?_); rintro e w1 ⟨rfl, hbl⟩; have hbl' : Below wr.heap.size wr w1 := ⟨hbl.os, hbl.tape, hbl.output, hbl.size, hbl.block⟩; have hat1 := hide (hat.out.below hbl'); obtain ⟨e0, e1, e2, e3, e4⟩ := hat1.out.sp.cells; rw [HU.out] at e4; have q1 : w1.cell? ⟨g, i - 1, none⟩ = some (.string y) := (hbl'.cell (p := ⟨g, i - 1, none⟩) hg2).trans c1))
            clear hbl hbl' e0 e1 e2 e3 e4 q1 d0 d1 d2 d3 d4 c1 hat hbw
            go_wp2_with fail
            go_roundw
            case rel => exact ⟨i - 1, by omega, by go_num, HN, hat1⟩
            case measure => simp [intOf]; omega
          · have hcf' : decide (ordCmp o x y < 0) = false := by simpa using hcf
            have HGE : Hid (gtEnd (ordCmp o) x S S.length = i) := hide (by rw [HG.out, HE.out, if_neg hcf])
            have HYD : Hid (S.getD (i - 1) ⟨#[]⟩ = y) := hide (by rw [getD_at (show i - 1 < S.length by omega)]; exact HYY.out)
            clear HE HG
            go_wp2_with fail
            go_region_held3 (fun w' => w'.cell? ⟨w.heap.size, 0, none⟩ = some (.string o.sep) ∧ w'.cell? ⟨w.heap.size, 1, none⟩ = some (.slice B o.keys.length cb) ∧ w'.cell? ⟨w.heap.size, 2, none⟩ = some (.bool o.reverse) ∧ w'.cell? ⟨w.heap.size, 3, none⟩ = some (.bool o.stable) ∧ w'.cell? ⟨w.heap.size, 4, none⟩ = some (.bool u) ∧ w'.cell? ⟨g, i - 1, none⟩ = some (.string y)) (go_keep) ((go_at_call 32; (with_reducible refine (HCM.out x y wr.drew wr rfl hbw z1 z2).mono ?_); rintro e w1 ⟨rfl, hbl⟩; have hbl' : Below wr.heap.size wr w1 := ⟨hbl.os, hbl.tape, hbl.output, hbl.size, hbl.block⟩; have hat1 := hide (hat.out.below hbl'); obtain ⟨e0, e1, e2, e3, e4⟩ := hat1.out.sp.cells; rw [HU.out] at e4; have q1 : w1.cell? ⟨g, i - 1, none⟩ = some (.string y) := (hbl'.cell (p := ⟨g, i - 1, none⟩) hg2).trans c1))
            clear hbl hbl' e0 e1 e2 e3 e4 d0 d1 d2 d3 d4 hat hbw
            have c1' := q1
            obtain ⟨d0, d1, d2, d3, d4⟩ := hat1.out.sp.cells
            rw [HU.out] at d4
            have hbw := hat1.out.bel
            have hbsz := hat1.out.sp.lt
            have hgl := own_lt hat1.out.own g rfl
            cases u
            · have HINS : Hid (insR (ordCmp o) false S x = S.take i ++ x :: S.drop i) := hide (insR_put HGE.out (by simp))
              go_wp2_with fail
              go_quiet (fail)
              have hatq := hide (hat1.out.drewN nq)
              clear hat1 d0 d1 d2 d3 d4 hbw
              obtain ⟨w5, hw5⟩ : ∃ w5, w1.drewN nq = w5 := ⟨_, rfl⟩
              rw [hw5] at hatq ⊢
              clear hw5
              have hown := hatq.out.own
              unfold OwnS at hown
              go_wp2_with (at_builtin; refine wpList_append_own _ rfl _ _ 25 rfl (w.heap.size + 1) 9 ip _ 1 16 Tryz.underlying25 hip hpz hps hpb rfl (by decide) _ _ _ rfl (hown.alloc _) ⟨w5.heap.size, 0, none⟩ 1 1 [.string ⟨#[]⟩] rfl rfl ?_ ?_ ?_ ?_ ?_ ?_)
              all_goals (try exact one_new _ _ _)
              all_goals (try (intro u hu; simp at hu; rcases hu with rfl; rfl))
              all_goals (try (unfold maxLen; omega))
              all_goals (try (have := hatq.out.sp.lt; simp; omega))
              all_goals (try omega)
              intro v' w2 hown' hgrow _
              have hat3 := hatq.out.push hown' hgrow
              obtain ⟨g3, c3, e, hg3, hg4⟩ := World.ownsRow.form hown' (by omega)
              subst e
              have HAT3 : Hid (SrAt 9 24 o (.slice B o.keys.length cb) w w2 (.slice (some ⟨g3, 0, none⟩) (S.length + 1) c3) (S.take S.length ++ (⟨#[]⟩ : ByteArray) :: S.drop S.length)) := hide (by rw [List.take_length, List.drop_length]; exact hat3)
              clear hown hown' hgrow hat3
              go_wp2_with fail
              go_loopw [9] (fun j wr => ∃ (j' : Nat) (z : ByteArray), i ≤ j' ∧ j' ≤ S.length ∧ j = .int .i64 (j' : Int) ∧ Hid (SrAt 9 24 o (.slice B o.keys.length cb) w wr (.slice (some ⟨g3, 0, none⟩) (S.length + 1) c3) (S.take j' ++ z :: S.drop j'))) (fun j _ => (intOf j).toNat)
              case atStart => exact ⟨S.length, _, hi, Nat.le_refl _, by go_num, HAT3⟩
              case round =>
                clear HAT3
                obtain ⟨j, z, hij, hjn, rfl, hat4⟩ := hrel
                have hgb := own_lt hat4.out.own g3 rfl
                by_cases hlj : i < j
                · have hd9 : (i : Int) < (j : Int) := by omega
                  obtain ⟨c5, f5⟩ := hat4.out.at (shift_len S j z hjn) (shift_at (z := z) (by omega) hjn)
                  obtain ⟨c6, f6⟩ := hat4.out.at (shift_len S j z hjn) (shift_here S j z hjn)
                  have HNS := hide (hat4.out.set (shift_len S j z hjn) j (S[j - 1]'(by omega)))
                  have hss := shift_step (S := S) (k := j) (z := z) (by omega) hjn
                  rw [hss] at HNS
                  obtain ⟨q, hq⟩ : ∃ q, S[j - 1]'(by omega) = q := ⟨_, rfl⟩
                  rw [hq] at c5 HNS
                  have hv1 : IntKind.i64.wrap ((j : Int) - 1) = (j : Int) - 1 := IntWalk.i64_in _ (by omega)
                  have hv2 : ((j : Int) - 1).toNat = j - 1 := by omega
                  have hv3 : (0 : Int) ≤ (j : Int) - 1 := by omega
                  have hv4 : (j : Int) - 1 < (S.length : Int) + 1 := by omega
                  have hv5 : (j : Int) < (S.length : Int) + 1 := by omega
                  have hv6 : (1 : Int) ≤ (j : Int) := by omega
                  have hv7 : 1 ≤ j := by omega
                  clear hss hq hat4 f5
                  go_wp2_with fail
                  go_roundw
                  case rel => exact ⟨j - 1, q, by omega, by omega, by go_num, HNS⟩
                  case measure => simp [intOf]; omega
                · obtain rfl : j = i := by omega
                  have hd9 : ¬ ((j : Int) < (j : Int)) := by omega
                  obtain ⟨c6, f6⟩ := hat4.out.at (shift_len S j z hjn) (shift_here S j z hjn)
                  have HNS := hide (hat4.out.set (shift_len S j z hjn) j x)
                  rw [shift_end hjn] at HNS
                  have hv5 : (j : Int) < (S.length : Int) + 1 := by omega
                  clear hat4
                  go_wp2_with fail
                  go_roundw
                  case rel => exact ⟨k + 1, by omega, by go_num, by rw [HNX.out, HINS.out]; exact HNS⟩
                  case measure => simp [intOf]; omega
            · by_cases hc0 : ordCmp o x y = 0
              · have hce : (ordCmp o x y == 0) = true := by simpa using hc0
                have HINS : Hid (insR (ordCmp o) true S x = S) := hide (insR_skip HGE.out ⟨rfl, hi0, by rw [HYD.out]; exact hc0⟩)
                clear hc0
                go_wp2_with fail
                go_region_held3 (fun w' => w'.cell? ⟨w.heap.size, 0, none⟩ = some (.string o.sep) ∧ w'.cell? ⟨w.heap.size, 1, none⟩ = some (.slice B o.keys.length cb) ∧ w'.cell? ⟨w.heap.size, 2, none⟩ = some (.bool o.reverse) ∧ w'.cell? ⟨w.heap.size, 3, none⟩ = some (.bool o.stable) ∧ w'.cell? ⟨w.heap.size, 4, none⟩ = some (.bool true) ∧ w'.cell? ⟨g, i - 1, none⟩ = some (.string y)) (go_keep) ((go_at_call 32; (with_reducible refine (HCM.out x y w1.drew w1 rfl hbw z1 z2).mono ?_); rintro e w9 ⟨rfl, hbl⟩; have hbl' : Below w1.heap.size w1 w9 := ⟨hbl.os, hbl.tape, hbl.output, hbl.size, hbl.block⟩; have hat9 := hide (hat1.out.below hbl'); obtain ⟨e0, e1, e2, e3, e4⟩ := hat9.out.sp.cells; rw [HU.out] at e4; have q9 : w9.cell? ⟨g, i - 1, none⟩ = some (.string y) := (hbl'.cell (p := ⟨g, i - 1, none⟩) hgl).trans c1'))
                clear hbl hbl' e0 e1 e2 e3 e4 d0 d1 d2 d3 d4 hat1 hbw q9
                go_wp2_with fail
                go_roundw
                case rel => exact ⟨k + 1, by omega, by go_num, by rw [HNX.out, HINS.out]; exact hat9⟩
                case measure => simp [intOf]; omega
              · have hce : (ordCmp o x y == 0) = false := by simpa using hc0
                have HINS : Hid (insR (ordCmp o) true S x = S.take i ++ x :: S.drop i) := hide (insR_put HGE.out (by rw [HYD.out]; exact fun q => hc0 q.2.2))
                clear hc0
                go_wp2_with fail
                go_region_held3 (fun w' => w'.cell? ⟨w.heap.size, 0, none⟩ = some (.string o.sep) ∧ w'.cell? ⟨w.heap.size, 1, none⟩ = some (.slice B o.keys.length cb) ∧ w'.cell? ⟨w.heap.size, 2, none⟩ = some (.bool o.reverse) ∧ w'.cell? ⟨w.heap.size, 3, none⟩ = some (.bool o.stable) ∧ w'.cell? ⟨w.heap.size, 4, none⟩ = some (.bool true) ∧ w'.cell? ⟨g, i - 1, none⟩ = some (.string y)) (go_keep) ((go_at_call 32; (with_reducible refine (HCM.out x y w1.drew w1 rfl hbw z1 z2).mono ?_); rintro e w9 ⟨rfl, hbl⟩; have hbl' : Below w1.heap.size w1 w9 := ⟨hbl.os, hbl.tape, hbl.output, hbl.size, hbl.block⟩; have hat9 := hide (hat1.out.below hbl'); obtain ⟨e0, e1, e2, e3, e4⟩ := hat9.out.sp.cells; rw [HU.out] at e4; have q9 : w9.cell? ⟨g, i - 1, none⟩ = some (.string y) := (hbl'.cell (p := ⟨g, i - 1, none⟩) hgl).trans c1'))
                clear hbl hbl' e0 e1 e2 e3 e4 d0 d1 d2 d3 d4 hat1 hbw q9
                have hown := hat9.out.own
                unfold OwnS at hown
                go_wp2_with (at_builtin; refine wpList_append_own _ rfl _ _ 25 rfl (w.heap.size + 1) 9 ip _ 1 16 Tryz.underlying25 hip hpz hps hpb rfl (by decide) _ _ _ rfl (hown.alloc _) ⟨w9.heap.size, 0, none⟩ 1 1 [.string ⟨#[]⟩] rfl rfl ?_ ?_ ?_ ?_ ?_ ?_)
                all_goals (try exact one_new _ _ _)
                all_goals (try (intro u hu; simp at hu; rcases hu with rfl; rfl))
                all_goals (try (unfold maxLen; omega))
                all_goals (try (have := hat9.out.sp.lt; simp; omega))
                all_goals (try omega)
                intro v' w2 hown' hgrow _
                have hat3 := hat9.out.push hown' hgrow
                obtain ⟨g3, c3, e, hg3, hg4⟩ := World.ownsRow.form hown' (by omega)
                subst e
                have HAT3 : Hid (SrAt 9 24 o (.slice B o.keys.length cb) w w2 (.slice (some ⟨g3, 0, none⟩) (S.length + 1) c3) (S.take S.length ++ (⟨#[]⟩ : ByteArray) :: S.drop S.length)) := hide (by rw [List.take_length, List.drop_length]; exact hat3)
                clear hown hown' hgrow hat3
                go_wp2_with fail
                go_loopw [9] (fun j wr => ∃ (j' : Nat) (z : ByteArray), i ≤ j' ∧ j' ≤ S.length ∧ j = .int .i64 (j' : Int) ∧ Hid (SrAt 9 24 o (.slice B o.keys.length cb) w wr (.slice (some ⟨g3, 0, none⟩) (S.length + 1) c3) (S.take j' ++ z :: S.drop j'))) (fun j _ => (intOf j).toNat)
                case atStart => exact ⟨S.length, _, hi, Nat.le_refl _, by go_num, HAT3⟩
                case round =>
                  clear HAT3
                  obtain ⟨j, z, hij, hjn, rfl, hat4⟩ := hrel
                  have hgb := own_lt hat4.out.own g3 rfl
                  by_cases hlj : i < j
                  · have hd9 : (i : Int) < (j : Int) := by omega
                    obtain ⟨c5, f5⟩ := hat4.out.at (shift_len S j z hjn) (shift_at (z := z) (by omega) hjn)
                    obtain ⟨c6, f6⟩ := hat4.out.at (shift_len S j z hjn) (shift_here S j z hjn)
                    have HNS := hide (hat4.out.set (shift_len S j z hjn) j (S[j - 1]'(by omega)))
                    have hss := shift_step (S := S) (k := j) (z := z) (by omega) hjn
                    rw [hss] at HNS
                    obtain ⟨q, hq⟩ : ∃ q, S[j - 1]'(by omega) = q := ⟨_, rfl⟩
                    rw [hq] at c5 HNS
                    have hv1 : IntKind.i64.wrap ((j : Int) - 1) = (j : Int) - 1 := IntWalk.i64_in _ (by omega)
                    have hv2 : ((j : Int) - 1).toNat = j - 1 := by omega
                    have hv3 : (0 : Int) ≤ (j : Int) - 1 := by omega
                    have hv4 : (j : Int) - 1 < (S.length : Int) + 1 := by omega
                    have hv5 : (j : Int) < (S.length : Int) + 1 := by omega
                    have hv6 : (1 : Int) ≤ (j : Int) := by omega
                    have hv7 : 1 ≤ j := by omega
                    clear hss hq hat4 f5
                    go_wp2_with fail
                    go_roundw
                    case rel => exact ⟨j - 1, q, by omega, by omega, by go_num, HNS⟩
                    case measure => simp [intOf]; omega
                  · obtain rfl : j = i := by omega
                    have hd9 : ¬ ((j : Int) < (j : Int)) := by omega
                    obtain ⟨c6, f6⟩ := hat4.out.at (shift_len S j z hjn) (shift_here S j z hjn)
                    have HNS := hide (hat4.out.set (shift_len S j z hjn) j x)
                    rw [shift_end hjn] at HNS
                    have hv5 : (j : Int) < (S.length : Int) + 1 := by omega
                    clear hat4
                    go_wp2_with fail
                    go_roundw
                    case rel => exact ⟨k + 1, by omega, by go_num, by rw [HNX.out, HINS.out]; exact HNS⟩
                    case measure => simp [intOf]; omega
        · have hd0 : ¬ ((0 : Int) < (i : Int)) := by omega
          have hi00 : i = 0 := by omega
          have HINS : Hid (insR (ordCmp o) u S x = S.take i ++ x :: S.drop i) := hide (insR_put (HG.out.trans (by rw [hi00]; rfl)) (by omega))
          obtain ⟨d0, d1, d2, d3, d4⟩ := hat.out.sp.cells
          rw [HU.out] at d4
          clear hi00
          cases u
          all_goals
            go_wp2_with fail
            go_quiet (fail)
            have hatq1 := hide (hat.out.drewN nq)
            clear hat d0 d1 d2 d3 d4
            obtain ⟨w4, hw4⟩ : ∃ w4, wr.drewN nq = w4 := ⟨_, rfl⟩
            rw [hw4] at hatq1 ⊢
            clear hw4
            obtain ⟨d0, d1, d2, d3, d4⟩ := hatq1.out.sp.cells
            rw [HU.out] at d4
            go_wp2_with fail
            go_quiet (fail)
            have hatq := hide (hatq1.out.drewN nq)
            clear hatq1 d0 d1 d2 d3 d4
            obtain ⟨w5, hw5⟩ : ∃ w5, w4.drewN nq = w5 := ⟨_, rfl⟩
            rw [hw5] at hatq ⊢
            clear hw5
            have hown := hatq.out.own
            unfold OwnS at hown
            go_wp2_with (at_builtin; refine wpList_append_own _ rfl _ _ 25 rfl (w.heap.size + 1) 9 ip _ 1 16 Tryz.underlying25 hip hpz hps hpb rfl (by decide) _ _ _ rfl (hown.alloc _) ⟨w5.heap.size, 0, none⟩ 1 1 [.string ⟨#[]⟩] rfl rfl ?_ ?_ ?_ ?_ ?_ ?_)
            all_goals (try exact one_new _ _ _)
            all_goals (try (intro u hu; simp at hu; rcases hu with rfl; rfl))
            all_goals (try (unfold maxLen; omega))
            all_goals (try (have := hatq.out.sp.lt; simp; omega))
            all_goals (try omega)
            intro v' w2 hown' hgrow _
            have hat3 := hatq.out.push hown' hgrow
            obtain ⟨g3, c3, e, hg3, hg4⟩ := World.ownsRow.form hown' (by omega)
            subst e
            have HAT3 : Hid (SrAt 9 24 o (.slice B o.keys.length cb) w w2 (.slice (some ⟨g3, 0, none⟩) (S.length + 1) c3) (S.take S.length ++ (⟨#[]⟩ : ByteArray) :: S.drop S.length)) := hide (by rw [List.take_length, List.drop_length]; exact hat3)
            clear hown hown' hgrow hat3
            go_wp2_with fail
            go_loopw [9] (fun j wr => ∃ (j' : Nat) (z : ByteArray), i ≤ j' ∧ j' ≤ S.length ∧ j = .int .i64 (j' : Int) ∧ Hid (SrAt 9 24 o (.slice B o.keys.length cb) w wr (.slice (some ⟨g3, 0, none⟩) (S.length + 1) c3) (S.take j' ++ z :: S.drop j'))) (fun j _ => (intOf j).toNat)
            case atStart => exact ⟨S.length, _, hi, Nat.le_refl _, by go_num, HAT3⟩
            case round =>
              clear HAT3
              obtain ⟨j, z, hij, hjn, rfl, hat4⟩ := hrel
              have hgb := own_lt hat4.out.own g3 rfl
              by_cases hlj : i < j
              · have hd9 : (i : Int) < (j : Int) := by omega
                obtain ⟨c5, f5⟩ := hat4.out.at (shift_len S j z hjn) (shift_at (z := z) (by omega) hjn)
                obtain ⟨c6, f6⟩ := hat4.out.at (shift_len S j z hjn) (shift_here S j z hjn)
                have HNS := hide (hat4.out.set (shift_len S j z hjn) j (S[j - 1]'(by omega)))
                have hss := shift_step (S := S) (k := j) (z := z) (by omega) hjn
                rw [hss] at HNS
                obtain ⟨q, hq⟩ : ∃ q, S[j - 1]'(by omega) = q := ⟨_, rfl⟩
                rw [hq] at c5 HNS
                have hv1 : IntKind.i64.wrap ((j : Int) - 1) = (j : Int) - 1 := IntWalk.i64_in _ (by omega)
                have hv2 : ((j : Int) - 1).toNat = j - 1 := by omega
                have hv3 : (0 : Int) ≤ (j : Int) - 1 := by omega
                have hv4 : (j : Int) - 1 < (S.length : Int) + 1 := by omega
                have hv5 : (j : Int) < (S.length : Int) + 1 := by omega
                have hv6 : (1 : Int) ≤ (j : Int) := by omega
                have hv7 : 1 ≤ j := by omega
                clear hss hq hat4 f5
                go_wp2_with fail
                go_roundw
                case rel => exact ⟨j - 1, q, by omega, by omega, by go_num, HNS⟩
                case measure => simp [intOf]; omega
              · obtain rfl : j = i := by omega
                have hd9 : ¬ ((j : Int) < (j : Int)) := by omega
                obtain ⟨c6, f6⟩ := hat4.out.at (shift_len S j z hjn) (shift_here S j z hjn)
                have HNS := hide (hat4.out.set (shift_len S j z hjn) j x)
                rw [shift_end hjn] at HNS
                have hv5 : (j : Int) < (S.length : Int) + 1 := by omega
                clear hat4
                go_wp2_with fail
                go_roundw
                case rel => exact ⟨k + 1, by omega, by go_num, by rw [HNX.out, HINS.out]; exact HNS⟩
                case measure => simp [intOf]; omega
    · obtain rfl : k = l.length := by omega
      have hf := hat.out
      rw [List.take_length] at hf
      go_wp2_with fail
      go_ret
      exact ⟨_, rfl, hf.own, hf.bel⟩
end Go.Proofs.YtkikbejpgfhfoaaGreatDoor
