/- The reference's order, first part: blank, digit, the fields of a line, bytes compared, capital letters. -/
import Derived.Test.YtbelbgfigmbobaaGreatDoorRefL
import Derived.Test.YtbelbgfigmbobaaGreatDoorKeys
set_option linter.unusedVariables false
set_option linter.unusedSimpArgs false
namespace Go.Pw
open Go.RowKit
theorem cb_drop {a b : ByteArray} {k : Nat} (ha : k < a.size) (hb : k < b.size) : Lib.compareBytes (a.data.toList.drop k) (b.data.toList.drop k) = if a[k].toNat < b[k].toNat then -1 else if b[k].toNat < a[k].toNat then 1 else Lib.compareBytes (a.data.toList.drop (k + 1)) (b.data.toList.drop (k + 1)) := by
  rw [drop_byte a k ha, drop_byte b k hb, Lib.compareBytes]
  simp only [UInt8.lt_iff_toNat_lt]
theorem cb_long {a b : ByteArray} {k : Nat} (ha : k < a.size) (hb : b.size ≤ k) : Lib.compareBytes (a.data.toList.drop k) (b.data.toList.drop k) = 1 := by
  rw [drop_byte a k ha, List.drop_of_length_le (l := b.data.toList) (by rw [len_size]; exact hb)]; rfl
theorem cb_short {a b : ByteArray} (h : a.size < b.size) : Lib.compareBytes (a.data.toList.drop a.size) (b.data.toList.drop a.size) = -1 := by
  rw [drop_byte b _ h, List.drop_of_length_le (l := a.data.toList) (by rw [len_size]; exact Nat.le_refl _)]; rfl
theorem cb_even {a b : ByteArray} (h : b.size ≤ a.size) : Lib.compareBytes (a.data.toList.drop a.size) (b.data.toList.drop a.size) = 0 := by
  rw [List.drop_of_length_le (l := a.data.toList) (by rw [len_size]; exact Nat.le_refl _), List.drop_of_length_le (l := b.data.toList) (by rw [len_size]; exact h)]; rfl
/-- capital letters, so far -/
def capTo (l : List UInt8) (k : Nat) : List UInt8 := (l.take k).map upB ++ List.replicate (l.length - k) 0
theorem capTo_len (l : List UInt8) (k : Nat) : (capTo l k).length = l.length := by simp [capTo]; omega
theorem capTo_step (l : List UInt8) (k : Nat) (h : k < l.length) : capTo l (k + 1) = (capTo l k).set k (upB l[k]) := by
  unfold capTo
  rw [List.take_succ_eq_append_getElem h, List.map_append]
  rw [List.set_append_right _ _ (by simp; omega)]
  have e : k - (List.map upB (List.take k l)).length = 0 := by simp; omega
  obtain ⟨m, hm⟩ : ∃ m, l.length - k = m + 1 := ⟨l.length - k - 1, by omega⟩
  rw [e, hm, List.replicate_succ, List.set_cons_zero, show l.length - (k + 1) = m by omega]
  simp
theorem capTo_all (l : List UInt8) : capTo l l.length = l.map upB := by simp [capTo]
theorem rowB_made (w : World) (n : Nat) (t : TypeId) : RowB (w.alloc (.cells (madeCells #[.int .u8 0] n) t)) w.heap.size (List.replicate n 0) := by
  have h := World.rowIs_made w (.int .u8 0) n t
  refine ⟨by simp, fun j c hj => ?_⟩
  have hjn : j < n := by
    have := (List.getElem?_eq_some_iff.1 hj).1
    simpa using this
  have hc : c = 0 := by
    have := (List.getElem?_eq_some_iff.1 hj).2
    simpa using this.symm
  subst hc
  exact ⟨h.cell hjn, h.frozen j⟩
end Go.Pw
namespace Go.Proofs.YtbelbgfigmbobaaGreatDoor
open Go.RowKit Go.Pw

theorem blankR_any (c : UInt8) (w : World) : Calls Tryz.prog 140 #[.int .u8 (c.toNat : Int)] w fun e w' => e = .returned (.bool (blankB c)) ∧ w = w' := by
  have H : Hid (blankB c = (((c.toNat : Int) == 9) || ((c.toNat : Int) == 32))) := by
    show _ = _
    unfold blankB
    rw [Bool.eq_iff_iff]
    simp [← UInt8.toNat_inj]
    omega
  by_cases h : (c.toNat : Int) = 9
  · have h1 : ((c.toNat : Int) == 9) = true := by simpa using h
    rw [h1] at H
    clear h
    go_enter Tryz.func140, Tryz.ntmps140
    go_wp2
    go_ret
    exact ⟨by rw [H.out]; rfl, rfl⟩
  · have h1 : ((c.toNat : Int) == 9) = false := by simpa using h
    rw [h1] at H
    clear h
    go_enter Tryz.func140, Tryz.ntmps140
    go_wp2
    go_ret
    exact ⟨by rw [H.out]; rfl, rfl⟩

theorem info_two : (Tryz.prog.info? 168).map (fun i => (i.zero, i.size, i.bytes)) = some (some (.agg #[.int .i64 0, .int .i64 0]), 2, 16) := by kernel_rfl
/-- where the loop of fields stands -/
def FlrAt (line sep : ByteArray) (w : World) (v f : Value) (k : Nat) (wr : World) : Prop :=
  f = .int .i64 ((fldTo line sep k).2 : Int) ∧ wr.ownsRow w.heap.size 168 2 v (fldTo line sep k).1.length (pairCells (fldTo line sep k).1) ∧ Below w.heap.size w wr
theorem FlrAt.miss {line sep : ByteArray} {w wr : World} {v f : Value} {k : Nat} (h : FlrAt line sep w v f k wr) (hm : fldHit line sep k = false) : FlrAt line sep w v f (k + 1) wr := by
  unfold FlrAt at *
  rw [missB hm]; exact h
theorem FlrAt.drewN {line sep : ByteArray} {w wr : World} {v f : Value} {k : Nat} (h : FlrAt line sep w v f k wr) (n : Nat) : FlrAt line sep w v f k (wr.drewN n) := ⟨h.1, h.2.1, below_drewN h.2.2 n⟩

theorem FlrAt.hit {line sep : ByteArray} {w wr w' : World} {v v' : Value} {k : Nat} (hb : Below w.heap.size w wr) (hown : wr.ownsRow w.heap.size 168 2 v (fldTo line sep k).1.length (pairCells (fldTo line sep k).1)) {o : Obj} (hm : fldHit line sep k = true)
    (hown' : w'.ownsRow w.heap.size 168 2 v' ((fldTo line sep k).1.length + 1) (pairCells (fldTo line sep k).1 ++ [.int .i64 ((fldTo line sep k).2 : Int), .int .i64 (k : Int)])) (hg : (wr.alloc o).grownBy w' v.ownBlock) {f : Value} (hf : f = .int .i64 ((if sep.size = 0 then k else k + 1 : Nat) : Int)) : FlrAt line sep w v' f (k + 1) w' := by
  unfold FlrAt
  rw [hitB hm]
  refine ⟨hf, ?_, hb.trans (below_append hown hb.size hg)⟩
  rw [pairCells_snoc]
  simpa using hown'

theorem flr_end {line sep : ByteArray} {w wr w' : World} {v v' : Value} (hb : Below w.heap.size w wr) (hown : wr.ownsRow w.heap.size 168 2 v (fldTo line sep line.size).1.length (pairCells (fldTo line sep line.size).1)) {o : Obj}
    (hown' : w'.ownsRow w.heap.size 168 2 v' ((fldTo line sep line.size).1.length + 1) (pairCells (fldTo line sep line.size).1 ++ [.int .i64 ((fldTo line sep line.size).2 : Int), .int .i64 (line.size : Int)])) (hg : (wr.alloc o).grownBy w' v.ownBlock) :
    w'.ownsRow w.heap.size 168 2 v' (fldL line sep).length (pairCells (fldL line sep)) ∧ Below w.heap.size w w' := by
  refine ⟨?_, hb.trans (below_append hown hb.size hg)⟩
  unfold fldL
  rw [pairCells_snoc]
  simpa using hown'

set_option maxHeartbeats 2000000 in
set_option maxRecDepth 100000 in
theorem fieldsR_any (line sep : ByteArray) (w : World) (hl : line.size ≤ 1000000) :
    Calls Tryz.prog 105 #[.string line, .string sep] w fun e w' => ∃ v, e = .returned v ∧ w'.ownsRow w.heap.size 168 2 v (fldL line sep).length (pairCells (fldL line sep)) ∧ Below w.heap.size w w' := by
  obtain ⟨ip, hip, hpz, hps, hpb⟩ := info_parts info_two
  by_cases hsep : sep.size = 0
  · obtain rfl : sep = ⟨#[]⟩ := by
      obtain ⟨⟨l⟩⟩ := sep
      simp [ByteArray.size] at hsep
      subst hsep; rfl
    go_enter Tryz.func105, Tryz.ntmps105
    go_wp2_with fail
    go_loopw [5, 6, 10] (fun v f i wr => ∃ k : Nat, k ≤ line.size ∧ i = .int .i64 (k : Int) ∧ FlrAt line ⟨#[]⟩ w v f k wr) (fun _ _ i _ => line.size - (intOf i).toNat)
    case atStart => exact ⟨0, by omega, rfl, rfl, World.ownsRow_nil _ _ _ _, Below.refl _ _⟩
    case round =>
      obtain ⟨k, hk, rfl, hat⟩ := hrel
      by_cases hlt : k < line.size
      · by_cases h0 : 0 < k
        · have e1 := hit_nil h0 hlt
          have hlt' : k - 1 < line.size := by omega
          have hw1 : IntKind.i64.wrap ((k : Int) - 1) = (k : Int) - 1 := IntWalk.i64_in _ (by omega)
          have hw2 : ((k : Int) - 1).toNat = k - 1 := by omega
          have hw6 : (1 : Int) ≤ (k : Int) := by omega
          cases hb1 : blankB line[k]
          · rw [hb1] at e1
            have hn := hat.miss e1
            clear hat e1
            go_wp2_with (go_at_call 140; refine (blankR_any _ _).mono ?_; rintro e w' ⟨rfl, rfl⟩)
            go_roundw
            case rel => exact ⟨k + 1, by omega, by go_num, hn⟩
            case measure => simp [intOf]; omega
          · cases hb2 : blankB line[k - 1]
            · rw [hb1, hb2] at e1
              have fl := fld_len line ⟨#[]⟩ k
              obtain ⟨rfl, hown, hbw⟩ := hat
              have HT := hide e1
              have HB := hide hbw
              have HO := hide hown
              clear e1 hbw
              go_wp2_with (first | (go_at_call 140; refine (blankR_any _ _).mono ?_; rintro e w' ⟨rfl, rfl⟩) | (at_builtin; refine wpList_append_own _ rfl _ _ 166 rfl w.heap.size 168 ip _ 2 16 Tryz.underlying166 hip hpz hps hpb rfl (by decide) _ _ _ rfl (hown.alloc _) ⟨wr.heap.size, 0, none⟩ 1 1 [.int .i64 ((fldTo line ⟨#[]⟩ k).2 : Int), .int .i64 (k : Int)] rfl rfl ?c1 ?c2 ?c3 ?c4 ?c5 ?_))
              case c1 => exact two_new _ _ _ _
              case c2 => intro u hu; simp at hu; rcases hu with rfl | rfl <;> rfl
              case c3 => unfold maxLen; omega
              case c4 => omega
              case c5 => have := HB.out.size; simp; omega
              intro v' w2 hown' hgrow _
              have hn := FlrAt.hit HB.out HO.out HT.out hown' hgrow rfl
              clear hown hown' hgrow
              go_wp2_with fail
              go_roundw
              case rel => exact ⟨k + 1, by omega, by go_num, hn⟩
              case measure => simp [intOf]; omega
            · rw [hb1, hb2] at e1
              have hn := hat.miss e1
              clear hat e1
              go_wp2_with (go_at_call 140; refine (blankR_any _ _).mono ?_; rintro e w' ⟨rfl, rfl⟩)
              go_roundw
              case rel => exact ⟨k + 1, by omega, by go_num, hn⟩
              case measure => simp [intOf]; omega
        · obtain rfl : k = 0 := by omega
          have hn := hat.miss (hit_nil0 line)
          clear hat
          go_wp2_with fail
          go_roundw
          case rel => exact ⟨1, by omega, by go_num, hn⟩
          case measure => simp [intOf]; omega
      · obtain rfl : k = line.size := by omega
        have fl := fld_len line ⟨#[]⟩ line.size
        obtain ⟨rfl, hown, hbw⟩ := hat
        have HB := hide hbw
        have HO := hide hown
        clear hbw
        go_wp2_with (at_builtin; refine wpList_append_own _ rfl _ _ 166 rfl w.heap.size 168 ip _ 2 16 Tryz.underlying166 hip hpz hps hpb rfl (by decide) _ _ _ rfl (hown.alloc _) ⟨wr.heap.size, 0, none⟩ 1 1 [.int .i64 ((fldTo line ⟨#[]⟩ line.size).2 : Int), .int .i64 (line.size : Int)] rfl rfl ?d1 ?d2 ?d3 ?d4 ?d5 ?_)
        case d1 => exact two_new _ _ _ _
        case d2 => intro u hu; simp at hu; rcases hu with rfl | rfl <;> rfl
        case d3 => unfold maxLen; omega
        case d4 => omega
        case d5 => have := HB.out.size; simp; omega
        intro v' w2 hown' hgrow _
        have hn := flr_end HB.out HO.out hown' hgrow
        clear hown hown' hgrow
        go_wp2_with fail
        go_ret
        exact ⟨v', rfl, hn⟩
  · have hs0 : 0 < sep.size := by omega
    have hse : sep.toList.isEmpty = false := by
      rw [Lib.toList_data]
      cases h : sep.data.toList with
      | nil => have := Lib.size_eq sep; rw [h, List.length_nil] at this; omega
      | cons _ _ => rfl
    go_enter Tryz.func105, Tryz.ntmps105
    go_wp2_with fail
    go_loopw [5, 6, 10] (fun v f i wr => ∃ k : Nat, k ≤ line.size ∧ i = .int .i64 (k : Int) ∧ FlrAt line sep w v f k wr) (fun _ _ i _ => line.size - (intOf i).toNat)
    case atStart => exact ⟨0, by omega, rfl, rfl, World.ownsRow_nil _ _ _ _, Below.refl _ _⟩
    case round =>
      obtain ⟨k, hk, rfl, hat⟩ := hrel
      by_cases hlt : k < line.size
      · have e1 := hit_sep hs0 hlt
        cases hb1 : (line[k] == sep[0])
        · rw [hb1] at e1
          have hn := hat.miss e1
          have hd : ((line[k].toNat : Int) == (sep[0].toNat : Int)) = false := by
            simp [← UInt8.toNat_inj] at hb1 ⊢; omega
          clear hat e1 hb1
          go_wp2_with fail
          go_quiet (fail)
          go_wp2_with fail
          go_roundw
          case rel => exact ⟨k + 1, by omega, by go_num, hn.drewN _⟩
          case measure => simp [intOf]; omega
        · rw [hb1] at e1
          have fl := fld_len line sep k
          have hd : ((line[k].toNat : Int) == (sep[0].toNat : Int)) = true := by
            simp [← UInt8.toNat_inj] at hb1 ⊢; omega
          obtain ⟨rfl, hown, hbw⟩ := hat
          have HT := hide e1
          have HB := hide hbw
          have HO := hide hown
          clear e1 hbw hb1
          go_wp2_with fail
          go_quiet (fail)
          go_wp2_with (at_builtin; refine wpList_append_own _ rfl _ _ 166 rfl w.heap.size 168 ip _ 2 16 Tryz.underlying166 hip hpz hps hpb rfl (by decide) _ _ _ rfl ((show (wr.drewN nq).ownsRow _ _ _ _ _ _ from hown).alloc _) ⟨wr.heap.size, 0, none⟩ 1 1 [.int .i64 ((fldTo line sep k).2 : Int), .int .i64 (k : Int)] rfl rfl ?e1 ?e2 ?e3 ?e4 ?e5 ?_)
          case e1 => exact two_new _ _ _ _
          case e2 => intro u hu; simp at hu; rcases hu with rfl | rfl <;> rfl
          case e3 => unfold maxLen; omega
          case e4 => omega
          case e5 => have := HB.out.size; simp; omega
          intro v' w2 hown' hgrow _
          have hn := FlrAt.hit (below_drewN HB.out nq) HO.out HT.out hown' hgrow (f := .int .i64 ((k : Int) + 1)) (by rw [if_neg hsep]; go_num)
          clear hown hown' hgrow
          go_wp2_with fail
          go_roundw
          case rel => exact ⟨k + 1, by omega, by go_num, hn⟩
          case measure => simp [intOf]; omega
      · obtain rfl : k = line.size := by omega
        have fl := fld_len line sep line.size
        obtain ⟨rfl, hown, hbw⟩ := hat
        have HB := hide hbw
        have HO := hide hown
        clear hbw
        go_wp2_with (at_builtin; refine wpList_append_own _ rfl _ _ 166 rfl w.heap.size 168 ip _ 2 16 Tryz.underlying166 hip hpz hps hpb rfl (by decide) _ _ _ rfl (hown.alloc _) ⟨wr.heap.size, 0, none⟩ 1 1 [.int .i64 ((fldTo line sep line.size).2 : Int), .int .i64 (line.size : Int)] rfl rfl ?f1 ?f2 ?f3 ?f4 ?f5 ?_)
        case f1 => exact two_new _ _ _ _
        case f2 => intro u hu; simp at hu; rcases hu with rfl | rfl <;> rfl
        case f3 => unfold maxLen; omega
        case f4 => omega
        case f5 => have := HB.out.size; simp; omega
        intro v' w2 hown' hgrow _
        have hn := flr_end HB.out HO.out hown' hgrow
        clear hown hown' hgrow
        go_wp2_with fail
        go_ret
        exact ⟨v', rfl, hn⟩

theorem digitR_any (c : UInt8) (w : World) : Calls Tryz.prog 126 #[.int .u8 (c.toNat : Int)] w fun e w' => e = .returned (.bool (digB c)) ∧ w = w' := by
  have H := hide (digB_iff c)
  by_cases h1 : 48 ≤ (c.toNat : Int)
  · by_cases h2 : (c.toNat : Int) ≤ 57
    · have HV : Hid (digB c = true) := hide (H.out.2 ⟨h1, h2⟩)
      go_enter Tryz.func126, Tryz.ntmps126
      go_wp2_with fail
      go_ret
      exact ⟨by rw [HV.out]; simp [h2], rfl⟩
    · have HV : Hid (digB c = false) := hide (by rw [Bool.eq_false_iff]; intro e; exact h2 (H.out.1 e).2)
      go_enter Tryz.func126, Tryz.ntmps126
      go_wp2_with fail
      go_ret
      exact ⟨by rw [HV.out]; simp [h2], rfl⟩
  · have HV : Hid (digB c = false) := hide (by rw [Bool.eq_false_iff]; intro e; exact h1 (H.out.1 e).1)
    go_enter Tryz.func126, Tryz.ntmps126
    go_wp2_with fail
    go_ret
    exact ⟨by rw [HV.out]; rfl, rfl⟩
set_option maxHeartbeats 1000000 in
theorem bytewise_any (a b : ByteArray) (w : World) (ha : a.size ≤ 9223372036854775807) (hb : b.size ≤ 9223372036854775807) : Calls Tryz.prog 89 #[.string a, .string b] w fun e w' => e = .returned (.int .i64 (Lib.compareBytes a.data.toList b.data.toList)) ∧ Below w.heap.size w w' := by
  go_enter Tryz.func89, Tryz.ntmps89
  go_wp2_with fail
  go_loopw [8] (fun i wr => ∃ k : Nat, k ≤ a.size ∧ i = .int .i64 (k : Int) ∧ Hid (Lib.compareBytes a.data.toList b.data.toList = Lib.compareBytes (a.data.toList.drop k) (b.data.toList.drop k)) ∧ Below w.heap.size w wr) (fun i _ => a.size - (intOf i).toNat)
  case atStart => exact ⟨0, by omega, rfl, hide (by simp), Below.refl _ _⟩
  case round =>
    obtain ⟨k, hk, rfl, HK, hbw⟩ := hrel
    by_cases hlt : k < a.size
    · by_cases hlb : k < b.size
      · have HC := hide (cb_drop hlt hlb)
        obtain ⟨x, hx⟩ : ∃ x, a[k] = x := ⟨_, rfl⟩
        obtain ⟨y, hy⟩ : ∃ y, b[k] = y := ⟨_, rfl⟩
        rw [hx, hy] at HC
        rcases Nat.lt_trichotomy x.toNat y.toNat with h | h | h
        · have HV := hide (HK.out.trans (HC.out.trans (if_pos h)))
          have h1 : ((a[k].toNat : Int) != (b[k].toNat : Int)) = true := by rw [hx, hy]; simp; omega
          have h2 : decide (a[k].toNat < b[k].toNat) = true := by rw [hx, hy]; simpa using h
          clear hx hy h
          go_wp2_with fail
          go_quiet (fail)
          go_wp2_with fail
          go_quiet (fail)
          go_wp2_with fail
          go_ret
          exact ⟨by rw [HV.out]; rfl, below_drewN (below_drewN hbw _) _⟩
        · have HV := hide (HK.out.trans (HC.out.trans ((if_neg (by omega)).trans (if_neg (by omega)))))
          have h1 : ((a[k].toNat : Int) != (b[k].toNat : Int)) = false := by rw [hx, hy]; simp; omega
          clear hx hy h
          go_wp2_with fail
          go_quiet (fail)
          go_wp2_with fail
          go_roundw
          case rel => exact ⟨k + 1, by omega, by go_num, HV, below_drewN hbw _⟩
          case measure => simp [intOf]; omega
        · have HV := hide (HK.out.trans (HC.out.trans ((if_neg (by omega)).trans (if_pos h))))
          have h1 : ((a[k].toNat : Int) != (b[k].toNat : Int)) = true := by rw [hx, hy]; simp; omega
          have h2 : decide (a[k].toNat < b[k].toNat) = false := by rw [hx, hy]; simp; omega
          clear hx hy h
          go_wp2_with fail
          go_quiet (fail)
          go_wp2_with fail
          go_quiet (fail)
          go_wp2_with fail
          go_ret
          exact ⟨by rw [HV.out]; rfl, below_drewN (below_drewN hbw _) _⟩
      · have HV := hide (HK.out.trans (cb_long hlt (by omega)))
        have hge : b.size ≤ k := by omega
        go_wp2_with fail
        go_ret
        exact ⟨by rw [HV.out]; rfl, hbw⟩
    · obtain rfl : k = a.size := by omega
      by_cases hs : a.size < b.size
      · have HV := hide (HK.out.trans (cb_short hs))
        go_wp2_with fail
        go_ret
        exact ⟨by rw [HV.out]; rfl, hbw⟩
      · have HV := hide (HK.out.trans (cb_even (by omega)))
        go_wp2_with fail
        go_ret
        exact ⟨by rw [HV.out]; rfl, hbw⟩
theorem upB_sub {c : UInt8} (h1 : 97 ≤ (c.toNat : Int)) (h2 : (c.toNat : Int) ≤ 122) : ((upB c).toNat : Int) = (c.toNat : Int) - 32 := by
  rw [upB_in h1 h2]; omega
set_option maxHeartbeats 1000000 in
set_option maxRecDepth 100000 in
theorem capital_any (s : ByteArray) (w : World) (hs : s.size ≤ 1000000) : Calls Tryz.prog 106 #[.string s] w fun e w' => e = .returned (.string ⟨(s.data.toList.map upB).toArray⟩) ∧ Below w.heap.size w w' := by
  have hR := rowB_made w s.size 5
  have HR : Hid (RowB (w.alloc (.cells (madeCells #[.int .u8 0] s.size) 5)) w.heap.size (capTo s.data.toList 0)) := hide (by unfold capTo; rw [len_size]; exact hR)
  have HB := hide ((Below.refl w.heap.size w).alloc (Nat.le_refl _) (.cells (madeCells #[.int .u8 0] s.size) 5))
  clear hR
  have hmk := run_make_row' (P := Tryz.prog) 82 5 (.int .u8 0) 1 Tryz.underlying82 infoB rfl .i64 .i64 s.size (by omega) (by omega)
  go_enter Tryz.func106, Tryz.ntmps106
  go_wp2_with fail
  clear hmk
  go_loopw [11] (fun i wr => ∃ k : Nat, k ≤ s.size ∧ i = .int .i64 (k : Int) ∧ RowB wr w.heap.size (capTo s.data.toList k) ∧ Below w.heap.size w wr) (fun i _ => s.size - (intOf i).toNat)
  case atStart => exact ⟨0, by omega, rfl, HR.out, HB.out⟩
  case round =>
    obtain ⟨k, hk, rfl, hr, hb⟩ := hrel
    by_cases hlt : k < s.size
    · have hlt' : k < s.data.toList.length := by rw [len_size]; exact hlt
      have hl2 : k < (capTo s.data.toList k).length := by rw [capTo_len]; exact hlt'
      have hc := (hr.2 k _ (List.getElem?_eq_getElem hl2)).1
      have hf := (hr.2 k _ (List.getElem?_eq_getElem hl2)).2
      have hcc : s.data.toList[k] = s[k] := rfl
      have hlB := hr.1
      by_cases h1 : 97 ≤ (s[k].toNat : Int)
      · by_cases h2 : (s[k].toNat : Int) ≤ 122
        · have hu := upB_sub h1 h2
          have hn : RowB (wr.setCell ⟨w.heap.size, k, none⟩ (.int .u8 ((s[k].toNat : Int) - 32))) w.heap.size (capTo s.data.toList (k + 1)) := by
            rw [capTo_step _ _ hlt', hcc, ← hu]
            exact hr.set hl2 _
          have HN := hide hn
          clear hn hu hr hcc
          go_wp2_with fail
          go_roundw
          case rel => exact ⟨k + 1, by omega, by go_num, HN.out, hb.setCell (by simp) _⟩
          case measure => simp [intOf]; omega
        · have hu := upB_out (c := s[k]) (fun e => h2 e.2)
          have HN : Hid (RowB (wr.setCell ⟨w.heap.size, k, none⟩ (.int .u8 (s[k].toNat : Int))) w.heap.size (capTo s.data.toList (k + 1))) := hide (by
            rw [capTo_step _ _ hlt', hcc, hu]
            exact hr.set hl2 _)
          clear hr hcc hu
          go_wp2_with fail
          go_roundw
          case rel => exact ⟨k + 1, by omega, by go_num, HN.out, hb.setCell (by simp) _⟩
          case measure => simp [intOf]; omega
      · have hu := upB_out (c := s[k]) (fun e => h1 e.1)
        have HN : Hid (RowB (wr.setCell ⟨w.heap.size, k, none⟩ (.int .u8 (s[k].toNat : Int))) w.heap.size (capTo s.data.toList (k + 1))) := hide (by
          rw [capTo_step _ _ hlt', hcc, hu]
          exact hr.set hl2 _)
        clear hr hcc hu
        go_wp2_with fail
        go_roundw
        case rel => exact ⟨k + 1, by omega, by go_num, HN.out, hb.setCell (by simp) _⟩
        case measure => simp [intOf]; omega
    · obtain rfl : k = s.size := by omega
      have hback : (convert 82 9 (.slice (some ⟨w.heap.size, 0, none⟩) s.size s.size)).run Tryz.prog wr = .ok (.string ⟨(s.data.toList.map upB).toArray⟩) wr := by
        have := run_convert_bytes_back (P := Tryz.prog) wr 82 9 5 ⟨w.heap.size, 0, none⟩ s.size (s.data.toList.map upB) Tryz.underlying82 Tryz.underlying5 Tryz.underlying9 (fun j hj => by
          rw [← len_size, capTo_all] at hr
          have := (hr.2 j _ (List.getElem?_eq_getElem hj)).1
          have ea : Addr.add ⟨w.heap.size, 0, none⟩ j = ⟨w.heap.size, j, none⟩ := by
            unfold Addr.add; split
            · rename_i h; rw [h]
            · simp
          rw [ea]; exact this)
        rw [List.length_map, len_size] at this
        exact this
      clear hr
      go_wp2_with fail
      go_ret
      exact ⟨rfl, hb⟩
end Go.Proofs.YtbelbgfigmbobaaGreatDoor
