/- The walks of an order, first part: blank, fields, begin. -/
import Derived.Test.YtifpmigghplmoaaGreatDoorProg
import Derived.Test.YtifpmigghplmoaaGreatDoorMem
import Derived.Test.YtifpmigghplmoaaGreatDoorOrdP
import Derived.WalkKit
import Derived.WalkLawsBesides
import Derived.WalkSpells
import Derived.LoopTactic
import Derived.RegionTactic
import Derived.Deep.OwnRows
import Derived.Outline
import Derived.Deep.QuietTactic
import Derived.BigQuiet
set_option linter.unusedVariables false
set_option linter.unusedSimpArgs false
namespace Go.Proofs.YtifpmigghplmoaaGreatDoor
open Go.RowKit Go.Pw

theorem blank_any (c : UInt8) (w : World) : Calls Tryz.prog 173 #[.int .u8 (c.toNat : Int)] w fun e w' => e = .returned (.bool (blankB c)) ∧ w = w' := by
  have H : Hid (blankB c = (((c.toNat : Int) == 9) || ((c.toNat : Int) == 32))) := by
    show _ = _
    unfold blankB
    rw [Bool.eq_iff_iff]
    simp [← UInt8.toNat_inj]
    omega
  by_cases h : (c.toNat : Int) = 9
  · have h1 : ((c.toNat : Int) == 9) = true := by simpa using h
    rw [h1] at H
    clear h
    go_enter Tryz.func173, Tryz.ntmps173
    go_wp2
    go_ret
    exact ⟨by rw [H.out]; rfl, rfl⟩
  · have h1 : ((c.toNat : Int) == 9) = false := by simpa using h
    rw [h1] at H
    clear h
    go_enter Tryz.func173, Tryz.ntmps173
    go_wp2
    go_ret
    exact ⟨by rw [H.out]; rfl, rfl⟩

theorem info_span : (Tryz.prog.info? 211).map (fun i => (i.zero, i.size, i.bytes)) = some (some (.agg #[.int .i64 0, .int .i64 0]), 2, 16) := by kernel_rfl

theorem hitB {line sep : ByteArray} {i : Nat} (h : fldHit line sep i = true) : fldTo line sep (i + 1) = ((fldTo line sep i).1 ++ [((fldTo line sep i).2, i)], if sep.size = 0 then i else i + 1) := by
  rw [fldTo, if_pos h]
theorem missB {line sep : ByteArray} {i : Nat} (h : fldHit line sep i = false) : fldTo line sep (i + 1) = fldTo line sep i := by
  rw [fldTo, if_neg (by simp [h])]

/-- where the loop of fields stands -/
def FldAt (line sep : ByteArray) (w : World) (v f : Value) (k : Nat) (wr : World) : Prop :=
  f = .int .i64 ((fldTo line sep k).2 : Int) ∧ wr.ownsRow w.heap.size 211 2 v (fldTo line sep k).1.length (pairCells (fldTo line sep k).1) ∧ Below w.heap.size w wr
theorem FldAt.miss {line sep : ByteArray} {w wr : World} {v f : Value} {k : Nat} (h : FldAt line sep w v f k wr) (hm : fldHit line sep k = false) : FldAt line sep w v f (k + 1) wr := by
  unfold FldAt at *
  rw [missB hm]; exact h
theorem FldAt.drewN {line sep : ByteArray} {w wr : World} {v f : Value} {k : Nat} (h : FldAt line sep w v f k wr) (n : Nat) : FldAt line sep w v f k (wr.drewN n) := ⟨h.1, h.2.1, below_drewN h.2.2 n⟩

theorem hit_nil0 (line : ByteArray) : fldHit line ⟨#[]⟩ 0 = false := by
  unfold fldHit; rw [if_pos (by rfl)]; rfl
theorem hit_nil {line : ByteArray} {k : Nat} (h0 : 0 < k) (h : k < line.size) : fldHit line ⟨#[]⟩ k = (blankB line[k] && !blankB (line[k - 1]'(by omega))) := by
  unfold fldHit
  rw [if_pos (by rfl), bt_eq h, bt_eq (show k - 1 < line.size by omega)]
  simp [h0]
theorem hit_sep {line sep : ByteArray} {k : Nat} (hs : 0 < sep.size) (h : k < line.size) : fldHit line sep k = (line[k] == sep[0]) := by
  unfold fldHit
  rw [if_neg (by omega), bt_eq h, bt_eq hs]
theorem fld_len (line sep : ByteArray) (k : Nat) : (fldTo line sep k).1.length ≤ k := (fldTo_ok line sep k).2.1
theorem FldAt.hit {line sep : ByteArray} {w wr w' : World} {v v' : Value} {k : Nat} (hb : Below w.heap.size w wr) (hown : wr.ownsRow w.heap.size 211 2 v (fldTo line sep k).1.length (pairCells (fldTo line sep k).1)) {o : Obj} (hm : fldHit line sep k = true)
    (hown' : w'.ownsRow w.heap.size 211 2 v' ((fldTo line sep k).1.length + 1) (pairCells (fldTo line sep k).1 ++ [.int .i64 ((fldTo line sep k).2 : Int), .int .i64 (k : Int)])) (hg : (wr.alloc o).grownBy w' v.ownBlock) {f : Value} (hf : f = .int .i64 ((if sep.size = 0 then k else k + 1 : Nat) : Int)) : FldAt line sep w v' f (k + 1) w' := by
  unfold FldAt
  rw [hitB hm]
  refine ⟨hf, ?_, hb.trans (below_append hown hb.size hg)⟩
  rw [pairCells_snoc]
  simpa using hown'

theorem fld_end {line sep : ByteArray} {w wr w' : World} {v v' : Value} (hb : Below w.heap.size w wr) (hown : wr.ownsRow w.heap.size 211 2 v (fldTo line sep line.size).1.length (pairCells (fldTo line sep line.size).1)) {o : Obj}
    (hown' : w'.ownsRow w.heap.size 211 2 v' ((fldTo line sep line.size).1.length + 1) (pairCells (fldTo line sep line.size).1 ++ [.int .i64 ((fldTo line sep line.size).2 : Int), .int .i64 (line.size : Int)])) (hg : (wr.alloc o).grownBy w' v.ownBlock) :
    w'.ownsRow w.heap.size 211 2 v' (fldL line sep).length (pairCells (fldL line sep)) ∧ Below w.heap.size w w' := by
  refine ⟨?_, hb.trans (below_append hown hb.size hg)⟩
  unfold fldL
  rw [pairCells_snoc]
  simpa using hown'

set_option maxHeartbeats 2000000 in
set_option maxRecDepth 100000 in
theorem fields_any (line sep : ByteArray) (w : World) (hl : line.size ≤ 1000000) :
    Calls Tryz.prog 169 #[.string line, .string sep] w fun e w' => ∃ v, e = .returned v ∧ w'.ownsRow w.heap.size 211 2 v (fldL line sep).length (pairCells (fldL line sep)) ∧ Below w.heap.size w w' := by
  obtain ⟨ip, hip, hpz, hps, hpb⟩ := info_parts info_span
  by_cases hsep : sep.size = 0
  · obtain rfl : sep = ⟨#[]⟩ := by
      obtain ⟨⟨l⟩⟩ := sep
      simp [ByteArray.size] at hsep
      subst hsep; rfl
    go_enter Tryz.func169, Tryz.ntmps169
    go_wp2_with fail
    go_loopw [5, 6, 10] (fun v f i wr => ∃ k : Nat, k ≤ line.size ∧ i = .int .i64 (k : Int) ∧ FldAt line ⟨#[]⟩ w v f k wr) (fun _ _ i _ => line.size - (intOf i).toNat)
    case atStart => exact ⟨0, by omega, rfl, rfl, World.ownsRow_nil _ _ _ _, Below.refl _ _⟩
    case round =>
      obtain ⟨k, hk, rfl, hat⟩ := hrel
      by_cases hlt : k < line.size
      · by_cases h0 : 0 < k
        · have e1 := hit_nil h0 hlt
          have hlt' : k - 1 < line.size := by omega
          have hw1 : IntKind.i64.wrap ((k : Int) - 1) = (k : Int) - 1 := IntWalk.i64_in _ (by omega)
          have hw2 : ((k : Int) - 1).toNat = k - 1 := by omega
          have hw6 : (1 : Int) ≤ (k : Int) := by omega
          cases hb1 : blankB line[k]
          · rw [hb1] at e1
            have hn := hat.miss e1
            clear hat e1
            go_wp2_with (go_at_call 173; refine (blank_any _ _).mono ?_; rintro e w' ⟨rfl, rfl⟩)
            go_quiet (fail)
            go_wp2_with fail
            go_roundw
            case rel => exact ⟨k + 1, by omega, by go_num, hn.drewN _⟩
            case measure => simp [intOf]; omega
          · cases hb2 : blankB line[k - 1]
            · rw [hb1, hb2] at e1
              have fl := fld_len line ⟨#[]⟩ k
              obtain ⟨rfl, hown, hbw⟩ := hat
              have HT := hide e1
              have HB := hide hbw
              have HO := hide hown
              clear e1 hbw
              go_wp2_with (first | (go_at_call 173; refine (blank_any _ _).mono ?_; rintro e w' ⟨rfl, rfl⟩) | (at_builtin; refine wpList_append_own _ rfl _ _ 208 rfl w.heap.size 211 ip _ 2 16 Tryz.underlying208 hip hpz hps hpb rfl (by decide) _ _ _ rfl (hown.alloc _) ⟨wr.heap.size, 0, none⟩ 1 1 [.int .i64 ((fldTo line ⟨#[]⟩ k).2 : Int), .int .i64 (k : Int)] rfl rfl ?c1 ?c2 ?c3 ?c4 ?c5 ?_))
              case c1 => exact two_new _ _ _ _
              case c2 => intro u hu; simp at hu; rcases hu with rfl | rfl <;> rfl
              case c3 => unfold maxLen; omega
              case c4 => omega
              case c5 => have := HB.out.size; simp; omega
              intro v' w2 hown' hgrow _
              have hn := FldAt.hit HB.out HO.out HT.out hown' hgrow rfl
              clear hown hown' hgrow
              go_wp2_with fail
              go_roundw
              case rel => exact ⟨k + 1, by omega, by go_num, hn⟩
              case measure => simp [intOf]; omega
            · rw [hb1, hb2] at e1
              have hn := hat.miss e1
              clear hat e1
              go_wp2_with (go_at_call 173; refine (blank_any _ _).mono ?_; rintro e w' ⟨rfl, rfl⟩)
              go_quiet (fail)
              go_wp2_with fail
              go_roundw
              case rel => exact ⟨k + 1, by omega, by go_num, hn.drewN _⟩
              case measure => simp [intOf]; omega
        · obtain rfl : k = 0 := by omega
          have hn := hat.miss (hit_nil0 line)
          clear hat
          go_wp2_with fail
          go_quiet (fail)
          go_wp2_with fail
          go_roundw
          case rel => exact ⟨1, by omega, by go_num, hn.drewN _⟩
          case measure => simp [intOf]; omega
      · obtain rfl : k = line.size := by omega
        have fl := fld_len line ⟨#[]⟩ line.size
        obtain ⟨rfl, hown, hbw⟩ := hat
        have HB := hide hbw
        have HO := hide hown
        clear hbw
        go_wp2_with (at_builtin; refine wpList_append_own _ rfl _ _ 208 rfl w.heap.size 211 ip _ 2 16 Tryz.underlying208 hip hpz hps hpb rfl (by decide) _ _ _ rfl (hown.alloc _) ⟨wr.heap.size, 0, none⟩ 1 1 [.int .i64 ((fldTo line ⟨#[]⟩ line.size).2 : Int), .int .i64 (line.size : Int)] rfl rfl ?d1 ?d2 ?d3 ?d4 ?d5 ?_)
        case d1 => exact two_new _ _ _ _
        case d2 => intro u hu; simp at hu; rcases hu with rfl | rfl <;> rfl
        case d3 => unfold maxLen; omega
        case d4 => omega
        case d5 => have := HB.out.size; simp; omega
        intro v' w2 hown' hgrow _
        have hn := fld_end HB.out HO.out hown' hgrow
        clear hown hown' hgrow
        go_wp2_with fail
        go_ret
        exact ⟨v', rfl, hn⟩
  · have hs0 : 0 < sep.size := by omega
    have hse : sep.toList.isEmpty = false := by
      rw [Lib.toList_data]
      cases h : sep.data.toList with
      | nil => have := Lib.size_eq sep; rw [h, List.length_nil] at this; omega
      | cons _ _ => rfl
    go_enter Tryz.func169, Tryz.ntmps169
    go_wp2_with fail
    go_loopw [5, 6, 10] (fun v f i wr => ∃ k : Nat, k ≤ line.size ∧ i = .int .i64 (k : Int) ∧ FldAt line sep w v f k wr) (fun _ _ i _ => line.size - (intOf i).toNat)
    case atStart => exact ⟨0, by omega, rfl, rfl, World.ownsRow_nil _ _ _ _, Below.refl _ _⟩
    case round =>
      obtain ⟨k, hk, rfl, hat⟩ := hrel
      by_cases hlt : k < line.size
      · have e1 := hit_sep hs0 hlt
        cases hb1 : (line[k] == sep[0])
        · rw [hb1] at e1
          have hn := hat.miss e1
          have hd : ((line[k].toNat : Int) == (sep[0].toNat : Int)) = false := by
            simp [← UInt8.toNat_inj] at hb1 ⊢; omega
          clear hat e1 hb1
          go_wp2_with fail
          go_quiet (fail)
          go_wp2_with fail
          go_roundw
          case rel => exact ⟨k + 1, by omega, by go_num, hn.drewN _⟩
          case measure => simp [intOf]; omega
        · rw [hb1] at e1
          have fl := fld_len line sep k
          have hd : ((line[k].toNat : Int) == (sep[0].toNat : Int)) = true := by
            simp [← UInt8.toNat_inj] at hb1 ⊢; omega
          obtain ⟨rfl, hown, hbw⟩ := hat
          have HT := hide e1
          have HB := hide hbw
          have HO := hide hown
          clear e1 hbw hb1
          go_wp2_with fail
          go_quiet (fail)
          go_wp2_with (at_builtin; refine wpList_append_own _ rfl _ _ 208 rfl w.heap.size 211 ip _ 2 16 Tryz.underlying208 hip hpz hps hpb rfl (by decide) _ _ _ rfl ((show (wr.drewN nq).ownsRow _ _ _ _ _ _ from hown).alloc _) ⟨wr.heap.size, 0, none⟩ 1 1 [.int .i64 ((fldTo line sep k).2 : Int), .int .i64 (k : Int)] rfl rfl ?e1 ?e2 ?e3 ?e4 ?e5 ?_)
          case e1 => exact two_new _ _ _ _
          case e2 => intro u hu; simp at hu; rcases hu with rfl | rfl <;> rfl
          case e3 => unfold maxLen; omega
          case e4 => omega
          case e5 => have := HB.out.size; simp; omega
          intro v' w2 hown' hgrow _
          have hn := FldAt.hit (below_drewN HB.out nq) HO.out HT.out hown' hgrow (f := .int .i64 ((k : Int) + 1)) (by rw [if_neg hsep]; go_num)
          clear hown hown' hgrow
          go_wp2_with fail
          go_roundw
          case rel => exact ⟨k + 1, by omega, by go_num, hn⟩
          case measure => simp [intOf]; omega
      · obtain rfl : k = line.size := by omega
        have fl := fld_len line sep line.size
        obtain ⟨rfl, hown, hbw⟩ := hat
        have HB := hide hbw
        have HO := hide hown
        clear hbw
        go_wp2_with (at_builtin; refine wpList_append_own _ rfl _ _ 208 rfl w.heap.size 211 ip _ 2 16 Tryz.underlying208 hip hpz hps hpb rfl (by decide) _ _ _ rfl (hown.alloc _) ⟨wr.heap.size, 0, none⟩ 1 1 [.int .i64 ((fldTo line sep line.size).2 : Int), .int .i64 (line.size : Int)] rfl rfl ?f1 ?f2 ?f3 ?f4 ?f5 ?_)
        case f1 => exact two_new _ _ _ _
        case f2 => intro u hu; simp at hu; rcases hu with rfl | rfl <;> rfl
        case f3 => unfold maxLen; omega
        case f4 => omega
        case f5 => have := HB.out.size; simp; omega
        intro v' w2 hown' hgrow _
        have hn := fld_end HB.out HO.out hown' hgrow
        clear hown hown' hgrow
        go_wp2_with fail
        go_ret
        exact ⟨v', rfl, hn⟩
end Go.Proofs.YtifpmigghplmoaaGreatDoor
