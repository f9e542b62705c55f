/- runs: lines divided into runs, each sorted. -/
import Derived.Test.YtkikbejpgfhfoaaDoorRunsD
import Derived.Test.YtkikbejpgfhfoaaDoorZRunsE
import Derived.Test.YtkikbejpgfhfoaaDoorSortedP
import Derived.Test.YtkikbejpgfhfoaaDoorTell
import Derived.Test.YtkikbejpgfhfoaaDoorStabV
set_option linter.unusedVariables false
set_option linter.unusedSimpArgs false
namespace Go.Pw
open Go.RowKit
end Go.Pw
namespace Go.Proofs.YtkikbejpgfhfoaaDoor
open Go.RowKit Go.Pw
theorem info_strs : (Tryd.prog.info? 40).map (fun i => (i.zero, i.size, i.bytes)) = some (some (.slice none 0 0), 1, 24) := by kernel_rfl
set_option maxHeartbeats 4000000 in
set_option maxRecDepth 100000 in
theorem runs_any (o : Sp) (kv v : Value) (l : List ByteArray) (mem : Int) (w : World) (hk : KeysIn w kv o.keys) (hg : ∀ k ∈ o.keys, k.good) (h : Strs w v l) (hsz : ∀ s ∈ l, s.size ≤ 65536) (hlen : l.length ≤ 65536) (hm1 : 1 ≤ mem) (hm2 : mem ≤ 65536) :
    Calls Tryd.prog 81 #[spV o kv, v, .int .i64 mem] w fun e w' => ∃ v', e = .returned v' ∧ ∃ vs, w'.ownsRow (w.heap.size + 1) 40 1 v' (dvd ByteArray.size mem l).1.length vs ∧ (∀ (i : Nat) u r, vs[i]? = some u → (dvd ByteArray.size mem l).1[i]? = some r → Strs w' u (isrt (ltOf (ordCmp o)) r)) ∧ Below w.heap.size w w' := by
  obtain ⟨ip, hip, hpz, hps, hpb⟩ := info_parts info_str
  obtain ⟨jp, hjp, hjz, hjs, hjb⟩ := info_parts info_strs
  obtain ⟨B, cb, rfl⟩ : ∃ B cb, kv = .slice B o.keys.length cb := by
    obtain ⟨_, A, cap, h, _⟩ := hk
    exact ⟨A, cap, h⟩
  obtain ⟨⟨_, A, cap, rfl, hcap, hmax, hx⟩, _⟩ := h
  have HX := hide hx
  have HZ := hide hsz
  have HB0 := hide ((Below.refl w.heap.size w).alloc (Nat.le_refl _) (.cells #[.string o.sep, .slice B o.keys.length cb, .bool o.reverse, .bool o.stable, .bool o.unique] 90))
  have HN0 : Hid (SpIn (w.alloc (.cells #[.string o.sep, .slice B o.keys.length cb, .bool o.reverse, .bool o.stable, .bool o.unique] 90)) w.heap.size 90 o (.slice B o.keys.length cb)) := hide (heap_alloc_new _ _)
  have HK := hide hk
  have HG := hide hg
  clear hx hsz hk hg
  unfold spV
  go_enter Tryd.func81, Tryd.ntmps81
  go_wp2_with fail
  go_loopw [7, 8, 15] (fun ov rm i wr => ∃ (k : Nat) (vs : List Value), k ≤ l.length ∧ i = .int .i64 (k : Int) ∧ rm = .int .i64 (dvd ByteArray.size mem (l.take k)).2 ∧ Hid (RunsO 9 40 wr (w.heap.size + 1) ov vs (dvd ByteArray.size mem (l.take k)).1) ∧ Hid (SpIn wr w.heap.size 90 o (.slice B o.keys.length cb)) ∧ Below w.heap.size w wr) (fun _ _ i _ => l.length - (intOf i).toNat)
  case atStart => exact ⟨0, [], Nat.zero_le _, rfl, rfl, hide (RunsO.nil _ _ _ _), HN0, HB0.out⟩
  case round =>
    clear HN0 HB0
    obtain ⟨k, vs, hk, rfl, rfl, HO, HN, hb⟩ := hrel
    have HROOM := dvd_room ByteArray.size mem (by omega) (by omega) (l.take k) (fun s hs => by have := HZ.out s (List.mem_of_mem_take hs); omega)
    have hdl := dvd_len ByteArray.size mem (l.take k)
    rw [List.length_take, Nat.min_eq_left hk] at hdl
    by_cases hlt : k < l.length
    · obtain ⟨bb, ob, rfl, hbb, hj⟩ := HX.out (by omega)
      have q1 : l[k]? = some l[k] := List.getElem?_eq_getElem hlt
      have c1 : wr.cell? ⟨bb, ob + k, none⟩ = some (.string l[k]) := (hb.cell (p := ⟨bb, ob + k, none⟩) hbb).trans (hj k _ (by rw [List.getElem?_map, q1]; rfl))
      have z1 := HZ.out _ (List.getElem_mem hlt)
      have HT := hide (dvd_take ByteArray.size mem l k hlt)
      have HRL : Hid (∀ r ∈ (dvd ByteArray.size mem (l.take k)).1, r.length ≤ 65536) := hide (fun r hr => by have := dvd_run_le _ _ _ hr; rw [List.length_take] at this; omega)
      obtain ⟨D, hD⟩ : ∃ D, dvd ByteArray.size mem (l.take k) = D := ⟨_, rfl⟩
      rw [hD] at HT HRL HROOM HO hdl ⊢
      obtain ⟨rs, room⟩ := D
      simp only [] at HRL HROOM HO hdl ⊢
      obtain ⟨x, hx⟩ : ∃ x, l[k] = x := ⟨_, rfl⟩
      rw [hx] at c1 z1 HT
      clear hj q1 hx hD
      obtain ⟨OA, oc, rfl⟩ := own_slice HO.out.own
      have hd : (k : Int) < (l.length : Int) := by omega
      have hvl := HO.out.len
      have hw1 : IntKind.i64.wrap ((x.size : Int) + 1) = (x.size : Int) + 1 := IntWalk.i64_in _ (by omega)
      have hw2 : IntKind.i64.wrap (mem - ((x.size : Int) + 1)) = mem - ((x.size : Int) + 1) := IntWalk.i64_in _ (by omega)
      by_cases h0 : rs.length = 0
      · obtain rfl : rs = [] := List.eq_nil_of_length_eq_zero h0
        obtain rfl : vs = [] := List.eq_nil_of_length_eq_zero hvl
        have hown := HO.out.own
        have hsp := HN.out.lt
        go_wp2_with (at_builtin; refine wpList_append_lies _ rfl _ _ 82 rfl (w.heap.size + 1) 40 jp _ 1 24 Tryd.underlying82 hjp hjz hjs hjb rfl (by decide) _ _ _ rfl (own_below hown (alloc_below wr _)) ⟨wr.heap.size, 0, none⟩ 1 1 [.slice none 0 0] rfl rfl ?_ ?_ ?_ ?_ ?_ ?_ (wr.heap.size + 1) ?_ ?_)
        all_goals (try exact one_new _ _ _)
        all_goals (try (intro u hu; simp at hu; rcases hu with rfl; rfl))
        all_goals (try (unfold maxLen; simp only [List.length_nil]; omega))
        all_goals (try (unfold maxLen; omega))
        all_goals (try (simp; omega))
        all_goals (try simp; done)
        all_goals (try omega)
        all_goals (try rfl)
        intro g cap w2 hown2 hgrow2 hat2 hgl2
        have hg0 := own_ge hown2 g rfl
        have b2 := below_append hown (by omega) hgrow2
        have HO2 := hide (HO.out.push hown2 hgrow2 hat2)
        have c3 : w2.cell? ⟨g, 0, none⟩ = some (.slice none 0 0) := by
          rw [World.ownsRow.cellAt hown2 0 (by simp)]
          first | rfl | (rw [← hvl]; simp)
        have f3 : w2.frozen? ⟨g, 0, none⟩ = false := World.ownsRow.frozenAt hown2 _
        clear hown hown2 hgrow2 hat2
        go_wp2_with (at_builtin; refine wpList_append_lies _ rfl _ _ 40 rfl (w.heap.size + 1) 9 ip _ 1 16 Tryd.underlying40 hip hpz hps hpb rfl (by decide) (.slice none 0 0) 0 [] rfl (World.ownsRow_nil _ _ _ _) ⟨w2.heap.size, 0, none⟩ 1 1 [.string x] rfl rfl ?_ ?_ ?_ ?_ ?_ ?_ (w2.heap.size + 1) ?_ ?_)
        all_goals (try exact one_new _ _ _)
        all_goals (try (intro u hu; simp at hu; rcases hu with rfl; rfl))
        all_goals (try (unfold maxLen; simp only [List.length_nil]; omega))
        all_goals (try (unfold maxLen; omega))
        all_goals (try (simp; omega))
        all_goals (try simp; done)
        all_goals (try omega)
        all_goals (try rfl)
        all_goals (try (have := b2.size; simp; omega))
        intro g2 cap2 w3 hown3 hgrow3 hat3 hgl3
        have b3 := below_append (base := w.heap.size + 1) (World.ownsRow_nil w2 (w.heap.size + 1) 9 1) (by have := b2.size; omega) hgrow3
        have hz2 := hgrow3.size
        simp at hz2
        have c4 : w3.cell? ⟨g, 0, none⟩ = some (.slice none 0 0) := (grown_cell hgrow3 (p := ⟨g, 0, none⟩) (by simp; omega) (by simp [Value.ownBlock])).trans (((alloc_below w2 _).cell (p := ⟨g, 0, none⟩) hgl2).trans c3)
        have f4 : w3.frozen? ⟨g, 0, none⟩ = false := (grown_frozen hgrow3 (p := ⟨g, 0, none⟩) (by simp; omega) (by simp [Value.ownBlock])).trans (frozen_alloc f3)
        have HO3 := hide (HO2.out.grow (k := 0) (l := []) (by simp) (by first | rfl | (rw [← hvl]; simp)) (by simp) hown3 hgrow3 hat3)
        have HB3 := hide (hb.trans (((b2.trans b3).setCell (p := ⟨g, 0, none⟩) (by show w.heap.size + 1 ≤ g; omega) (.slice (some ⟨g2, 0, none⟩) 1 cap2)).mono (by omega)))
        have HN3 := hide (HN.out.below (((b2.trans b3).setCell (p := ⟨g, 0, none⟩) (by show w.heap.size + 1 ≤ g; omega) (.slice (some ⟨g2, 0, none⟩) 1 cap2))) (by omega))
        have HD : Hid (dvd ByteArray.size mem (l.take (k + 1)) = ([] ++ [[x]], mem - ((x.size : Int) + 1))) := hide (by rw [HT.out, dvd1, if_pos (.inl rfl)])
        clear hown3 hgrow3 hat3 c3 f3 HO HO2 b2 b3 hb HN
        go_wp2_with fail
        go_roundw
        case rel => exact ⟨k + 1, _, by omega, by go_num, by rw [HD.out], by rw [HD.out]; simpa using HO3, HN3, HB3.out⟩
        case measure => simp [intOf]; omega
      · have hne0 : ((rs.length : Int) == 0) = false := by simp only [beq_eq_false_iff_ne, ne_eq]; omega
        have hw3 : IntKind.i64.wrap ((rs.length : Int) + 1 - 1) = (rs.length : Int) := (IntWalk.i64_in _ (by omega)).trans (by omega)
        by_cases hr : (x.size : Int) + 1 > room
        · have hr' : decide (room < (x.size : Int) + 1) = true := by simpa using hr
          have hr2 : room < (x.size : Int) + 1 := hr
          have hown := HO.out.own
          have hsp := HN.out.lt
          go_wp2_with (at_builtin; refine wpList_append_lies _ rfl _ _ 82 rfl (w.heap.size + 1) 40 jp _ 1 24 Tryd.underlying82 hjp hjz hjs hjb rfl (by decide) _ _ _ rfl (own_below hown (alloc_below wr _)) ⟨wr.heap.size, 0, none⟩ 1 1 [.slice none 0 0] rfl rfl ?_ ?_ ?_ ?_ ?_ ?_ (wr.heap.size + 1) ?_ ?_)
          all_goals (try exact one_new _ _ _)
          all_goals (try (intro u hu; simp at hu; rcases hu with rfl; rfl))
          all_goals (try (unfold maxLen; simp only [List.length_nil]; omega))
          all_goals (try (unfold maxLen; omega))
          all_goals (try (simp; omega))
          all_goals (try simp; done)
          all_goals (try omega)
          all_goals (try rfl)
          intro g cap w2 hown2 hgrow2 hat2 hgl2
          have hg0 := own_ge hown2 g rfl
          have b2 := below_append hown (by omega) hgrow2
          have HO2 := hide (HO.out.push hown2 hgrow2 hat2)
          have c3 : w2.cell? ⟨g, rs.length, none⟩ = some (.slice none 0 0) := by
            rw [World.ownsRow.cellAt hown2 rs.length (by simp)]
            first | rfl | (rw [← hvl]; simp)
          have f3 : w2.frozen? ⟨g, rs.length, none⟩ = false := World.ownsRow.frozenAt hown2 _
          clear hown hown2 hgrow2 hat2
          go_wp2_with (at_builtin; refine wpList_append_lies _ rfl _ _ 40 rfl (w.heap.size + 1) 9 ip _ 1 16 Tryd.underlying40 hip hpz hps hpb rfl (by decide) (.slice none 0 0) 0 [] rfl (World.ownsRow_nil _ _ _ _) ⟨w2.heap.size, 0, none⟩ 1 1 [.string x] rfl rfl ?_ ?_ ?_ ?_ ?_ ?_ (w2.heap.size + 1) ?_ ?_)
          all_goals (try exact one_new _ _ _)
          all_goals (try (intro u hu; simp at hu; rcases hu with rfl; rfl))
          all_goals (try (unfold maxLen; simp only [List.length_nil]; omega))
          all_goals (try (unfold maxLen; omega))
          all_goals (try (simp; omega))
          all_goals (try simp; done)
          all_goals (try omega)
          all_goals (try rfl)
          all_goals (try (have := b2.size; simp; omega))
          intro g2 cap2 w3 hown3 hgrow3 hat3 hgl3
          have b3 := below_append (base := w.heap.size + 1) (World.ownsRow_nil w2 (w.heap.size + 1) 9 1) (by have := b2.size; omega) hgrow3
          have hz2 := hgrow3.size
          simp at hz2
          have c4 : w3.cell? ⟨g, rs.length, none⟩ = some (.slice none 0 0) := (grown_cell hgrow3 (p := ⟨g, rs.length, none⟩) (by simp; omega) (by simp [Value.ownBlock])).trans (((alloc_below w2 _).cell (p := ⟨g, rs.length, none⟩) hgl2).trans c3)
          have f4 : w3.frozen? ⟨g, rs.length, none⟩ = false := (grown_frozen hgrow3 (p := ⟨g, rs.length, none⟩) (by simp; omega) (by simp [Value.ownBlock])).trans (frozen_alloc f3)
          have HO3 := hide (HO2.out.grow (k := rs.length) (l := []) (by simp) (by first | rfl | (rw [← hvl]; simp)) (by simp) hown3 hgrow3 hat3)
          have HB3 := hide (hb.trans (((b2.trans b3).setCell (p := ⟨g, rs.length, none⟩) (by show w.heap.size + 1 ≤ g; omega) (.slice (some ⟨g2, 0, none⟩) 1 cap2)).mono (by omega)))
          have HN3 := hide (HN.out.below (((b2.trans b3).setCell (p := ⟨g, rs.length, none⟩) (by show w.heap.size + 1 ≤ g; omega) (.slice (some ⟨g2, 0, none⟩) 1 cap2))) (by omega))
          have HD : Hid (dvd ByteArray.size mem (l.take (k + 1)) = (rs ++ [[x]], mem - ((x.size : Int) + 1))) := hide (by rw [HT.out, dvd1, if_pos (.inr hr)])
          clear hown3 hgrow3 hat3 c3 f3 HO HO2 b2 b3 hb HN
          go_wp2_with fail
          go_roundw
          case rel => exact ⟨k + 1, _, by omega, by go_num, by rw [HD.out], by rw [HD.out]; simpa using HO3, HN3, HB3.out⟩
          case measure => simp [intOf]; omega
        · have hr' : decide (room < (x.size : Int) + 1) = false := by simpa using hr
          have hr2 : ¬ (room < (x.size : Int) + 1) := hr
          obtain ⟨g, cg, e, hg1, hgl⟩ := World.ownsRow.form HO.out.own (by omega)
          injection e with e1 _ e3
          subst e1 e3
          have hl : rs[rs.length - 1]? = some (rs[rs.length - 1]'(by omega)) := List.getElem?_eq_getElem _
          have hu : vs[rs.length - 1]? = some (vs[rs.length - 1]'(by omega)) := List.getElem?_eq_getElem _
          obtain ⟨hou, hub⟩ := HO.out.el _ _ _ hu hl
          have hrl := HRL.out _ (List.mem_of_getElem? hl)
          have HLD : Hid (rs.getLastD [] = rs[rs.length - 1]'(by omega)) := hide (by rw [List.getLastD_eq_getLast?, List.getLast?_eq_getElem?, hl]; rfl)
          have c5 : wr.cell? ⟨g, rs.length - 1, none⟩ = some (vs[rs.length - 1]'(by omega)) := by
            rw [World.ownsRow.cellAt HO.out.own (rs.length - 1) (by omega), hu]
          have f5 : wr.frozen? ⟨g, rs.length - 1, none⟩ = false := World.ownsRow.frozenAt HO.out.own _
          obtain ⟨r, hrr⟩ : ∃ r, rs[rs.length - 1]'(by omega) = r := ⟨_, rfl⟩
          obtain ⟨u, huu⟩ : ∃ u, vs[rs.length - 1]'(by omega) = u := ⟨_, rfl⟩
          rw [hrr] at hl hou hrl HLD
          rw [huu] at hu hou hub c5
          obtain ⟨UA, uc, rfl⟩ := own_slice hou
          clear hrr huu
          have hw4 : IntKind.i64.wrap ((rs.length : Int) - 1) = (rs.length : Int) - 1 := IntWalk.i64_in _ (by omega)
          have hw5 : ((rs.length : Int) - 1).toNat = rs.length - 1 := by omega
          have hw6 : (0 : Int) ≤ (rs.length : Int) - 1 := by omega
          have hw7 : (rs.length : Int) - 1 < (rs.length : Int) := by omega
          have hw8 : (1 : Int) ≤ (rs.length : Int) := by omega
          have hw9 : 1 ≤ rs.length := by omega
          have hw10 : IntKind.i64.wrap (room - ((x.size : Int) + 1)) = room - ((x.size : Int) + 1) := IntWalk.i64_in _ (by omega)
          have hsp := HN.out.lt
          unfold OwnS at hou
          have hua : (Value.slice UA r.length uc).ownBlock ≠ some g := fun e => hub g e rfl
          go_wp2_with (at_builtin; refine wpList_append_lies _ rfl _ _ 40 rfl (w.heap.size + 1) 9 ip _ 1 16 Tryd.underlying40 hip hpz hps hpb rfl (by decide) _ _ _ rfl (own_below hou (alloc_below wr _)) ⟨wr.heap.size, 0, none⟩ 1 1 [.string x] rfl rfl ?_ ?_ ?_ ?_ ?_ ?_ (wr.heap.size + 1) ?_ ?_)
          all_goals (try exact one_new _ _ _)
          all_goals (try (intro u hu; simp at hu; rcases hu with rfl; rfl))
          all_goals (try (unfold maxLen; simp only [List.length_nil]; omega))
          all_goals (try (unfold maxLen; omega))
          all_goals (try (simp; omega))
          all_goals (try simp; done)
          all_goals (try omega)
          all_goals (try rfl)
          intro g2 cap2 w3 hown3 hgrow3 hat3 hgl3
          have b3 := below_append hou (by omega) hgrow3
          have hz2 := hgrow3.size
          simp at hz2
          have c4 : w3.cell? ⟨g, rs.length - 1, none⟩ = some (.slice UA r.length uc) := (grown_cell hgrow3 (p := ⟨g, rs.length - 1, none⟩) (by simp; omega) hua).trans (((alloc_below wr _).cell (p := ⟨g, rs.length - 1, none⟩) hgl).trans c5)
          have f4 : w3.frozen? ⟨g, rs.length - 1, none⟩ = false := (grown_frozen hgrow3 (p := ⟨g, rs.length - 1, none⟩) (by simp; omega) hua).trans (frozen_alloc f5)
          have HO3 := hide (HO.out.grow (k := rs.length - 1) rfl hu hl hown3 hgrow3 hat3)
          have HB3 := hide (hb.trans ((b3.setCell (p := ⟨g, rs.length - 1, none⟩) (by show w.heap.size + 1 ≤ g; omega) (.slice (some ⟨g2, 0, none⟩) (r.length + 1) cap2)).mono (by omega)))
          have HN3 := hide (HN.out.below ((b3.setCell (p := ⟨g, rs.length - 1, none⟩) (by show w.heap.size + 1 ≤ g; omega) (.slice (some ⟨g2, 0, none⟩) (r.length + 1) cap2))) (by omega))
          have HD : Hid (dvd ByteArray.size mem (l.take (k + 1)) = (rs.set (rs.length - 1) (r ++ [x]), room - ((x.size : Int) + 1))) := hide (by rw [HT.out, dvd1, if_neg (fun q => q.elim (fun q => h0 q) (fun q => by have q : (x.size : Int) + 1 > room := q; omega)), HLD.out])
          clear hown3 hgrow3 hat3 c5 f5 HO b3 hb HN hou hub
          go_wp2_with fail
          go_roundw
          case rel => exact ⟨k + 1, _, by omega, by go_num, by rw [HD.out], by rw [HD.out]; simpa using HO3, HN3, HB3.out⟩
          case measure => simp [intOf]; omega
    · obtain rfl : k = l.length := by omega
      have hd : ¬ ((l.length : Int) < (l.length : Int)) := by omega
      rw [List.take_length] at HO hdl HROOM
      have HNE := hide (dvd_ne ByteArray.size mem l)
      have HMEM : Hid (∀ r ∈ (dvd ByteArray.size mem l).1, r.length ≤ 65536 ∧ ∀ z ∈ r, z.size ≤ 65536) := hide (fun r hr => ⟨by have := dvd_run_le _ _ _ hr; omega, fun z hz => HZ.out z (dvd_mem _ _ _ hr hz)⟩)
      obtain ⟨rs, hrs⟩ : ∃ rs, (dvd ByteArray.size mem l).1 = rs := ⟨_, rfl⟩
      rw [hrs] at HNE HMEM HO hdl
      have HRS := hide hrs
      clear hrs
      obtain ⟨OA, oc, rfl⟩ := own_slice HO.out.own
      have HS0 : Hid (RunsS 40 wr (w.heap.size + 1) (.slice OA rs.length oc) vs ((rs.take 0).map (isrt (ltOf (ordCmp o))) ++ rs.drop 0)) := hide (by simpa using HO.out.sorting HNE.out)
      clear HO HX
      go_wp2_with fail
      obtain ⟨w1, hw1⟩ : ∃ w1, w1 = wr := ⟨_, rfl⟩
      subst hw1
      go_loopw [55] (fun i wr => ∃ k : Nat, k ≤ rs.length ∧ i = .int .i64 (k : Int) ∧ Hid (RunsS 40 wr (w.heap.size + 1) (.slice OA rs.length oc) vs ((rs.take k).map (isrt (ltOf (ordCmp o))) ++ rs.drop k)) ∧ Hid (SpIn wr w.heap.size 90 o (.slice B o.keys.length cb)) ∧ Below w.heap.size w wr) (fun i _ => rs.length - (intOf i).toNat)
      case atStart => exact ⟨0, Nat.zero_le _, rfl, HS0, HN, hb⟩
      case round =>
        clear HS0 HN hb
        obtain ⟨k, hk, rfl, HS, HN, hb⟩ := hrel
        by_cases hlt : k < rs.length
        · have hd2 : (k : Int) < (rs.length : Int) := by omega
          have hln := len_sorted (isrt (ltOf (ordCmp o))) rs k hk
          have hat := at_sorted (isrt (ltOf (ordCmp o))) rs k hlt
          have hst := set_sorted (isrt (ltOf (ordCmp o))) rs k hlt
          obtain ⟨qs, hqs⟩ : ∃ qs, (rs.take k).map (isrt (ltOf (ordCmp o))) ++ rs.drop k = qs := ⟨_, rfl⟩
          rw [hqs] at HS hln hat hst
          clear hqs
          have hM := HMEM.out _ (List.getElem_mem hlt)
          obtain ⟨r, hr⟩ : ∃ r, rs[k] = r := ⟨_, rfl⟩
          rw [hr] at hat hst hM
          have HSTE := hide hst
          clear hr hst
          have hown := HS.out.own
          rw [hln] at hown
          obtain ⟨g, cg, e, hg1, hgl⟩ := World.ownsRow.form hown (by omega)
          injection e with e1 _ e3
          subst e1 e3
          have hvl := HS.out.len
          have hu : vs[k]? = some (vs[k]'(by omega)) := List.getElem?_eq_getElem _
          obtain ⟨b, c, eu, k1, k2, k3, k4, k5⟩ := HS.out.el k _ _ hu hat
          have c1 : wr.cell? ⟨g, k, none⟩ = some (.slice (some ⟨b, 0, none⟩) r.length c) := by
            rw [World.ownsRow.cellAt hown k (by omega), hu, eu]
          rw [eu] at hu
          have hbz := hb.size
          have HSS := hide (sortStable_any (ordCmp o) (spV o (.slice B o.keys.length cb)) wr.heap.size b 0 c r.length r wr k5.1 (Nat.le_refl _) k5 rfl k3 (by omega) hM.2 (ordCmp_cmp3 o).swo (fun x y w5 z1 z2 hb5 =>
            compare_any o (.slice B o.keys.length cb) x y w5 (Rd.keep HK.out (Nat.le_trans hbz hb5.size) fun p hp => (hb5.cell (by omega) (by omega)).trans (hb.cell hp)) HG.out (by omega) (by omega)))
          unfold spV at HSS
          obtain ⟨d0, d1, d2, d3, d4⟩ := HN.out.cells
          clear eu k5 hown
          go_wp2_with fail
          refine HSS.out.mono ?_
          rintro e w5 ⟨rfl, hr5, hb5⟩
          have HS5 := hide (HS.out.sorted hln hu hat rfl hb5 hr5 (isrt_len _ _))
          rw [HSTE.out] at HS5
          have HN5 := hide (HN.out.but hb5 HN.out.lt (by omega))
          have HB5 := hide (hb.trans (hb5.below hbz (by omega)))
          clear hr5 hb5 HS HN hb d0 d1 d2 d3 d4 c1 HSS
          go_wp2_with fail
          go_roundw
          case rel => exact ⟨k + 1, by omega, by go_num, HS5, HN5, HB5.out⟩
          case measure => simp [intOf]; omega
        · obtain rfl : k = rs.length := by omega
          have hd2 : ¬ ((rs.length : Int) < (rs.length : Int)) := by omega
          rw [List.take_length, List.drop_length, List.append_nil] at HS
          go_wp2_with fail
          go_ret
          have hown := HS.out.own
          rw [List.length_map] at hown
          refine ⟨_, rfl, vs, by rw [HRS.out]; exact hown, fun i u r hu hr => ?_, hb⟩
          rw [HRS.out] at hr
          obtain ⟨b, c, eu, k1, k2, k3, k4, k5⟩ := HS.out.el i u (isrt (ltOf (ordCmp o)) r) hu (by rw [List.getElem?_map, hr]; rfl)
          rw [eu]
          exact strs_of_row (n := 0) k5 k3 k4 (fun s hs => by have := (HMEM.out r (List.mem_of_getElem? hr)).2 s (isrt_mem _ hs); unfold maxLen; omega)
end Go.Proofs.YtkikbejpgfhfoaaDoor
