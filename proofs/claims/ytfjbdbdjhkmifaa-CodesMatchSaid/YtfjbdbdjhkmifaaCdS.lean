/- The reference's CodesOf. -/
import Derived.Test.YtfjbdbdjhkmifaaCdO
import Derived.Test.YtfjbdbdjhkmifaaRowB
set_option linter.unusedVariables false
set_option linter.unusedSimpArgs false
namespace Go.Pw
/-- the symbols of one length, from j on -/
def symsAt (r : List Nat) (n j : Nat) : List Nat := (List.range' j (r.length - j)).filter fun s => r.getD s 0 == n
theorem symsAt_end (r : List Nat) (n j : Nat) (h : r.length ≤ j) : symsAt r n j = [] := by
  unfold symsAt
  rw [show r.length - j = 0 by omega]; rfl
theorem symsAt_step (r : List Nat) (n j : Nat) (h : j < r.length) : symsAt r n j = if r.getD j 0 = n then j :: symsAt r n (j + 1) else symsAt r n (j + 1) := by
  unfold symsAt
  rw [show r.length - j = (r.length - (j + 1)) + 1 by omega, List.range'_succ, List.filter_cons]
  by_cases e : r.getD j 0 = n
  · rw [if_pos (by simpa using e), if_pos e]
  · rw [if_neg (by simpa using e), if_neg e]
theorem byKey_head (r : List Nat) (n m : Nat) (hn : 1 ≤ n) : byKey (fun s => r.getD s 0) (coded r) n (m + 1) = symsAt r n 0 ++ byKey (fun s => r.getD s 0) (coded r) (n + 1) m := by
  rw [Nat.add_comm m 1, byKey_add, byKey_one]
  congr 1
  unfold coded symsAt
  rw [List.filter_filter, Nat.sub_zero, ← List.range_eq_range']
  apply List.filter_congr
  intro s _
  by_cases e : r.getD s 0 = n
  · simp [e]; omega
  · have : (r.getD s 0 == n) = false := by simpa using e
    rw [this]; rfl
theorem nextC_nil (n : Nat) (h : 1 ≤ n) : nextC [] n = padC [48] n := by
  unfold nextC padC
  rw [if_pos rfl]
  simp only [List.nil_append, List.length_nil, List.length_cons, List.cons_append]
  obtain ⟨m, rfl⟩ : ∃ m, n = m + 1 := ⟨n - 1, by omega⟩
  rfl
end Go.Pw
namespace Go.Proofs.Ytfjbdbdjhkmifaa
open Go.RowKit Go.Pw
theorem incL_carry (c : List UInt8) (h : Ones c) : incL c = curC c 0 := by
  conv => lhs; rw [ones_rep h, incL_ones]
  simp [curC]
theorem isEmpty_of' {s : ByteArray} (h : 0 < s.size) : s.toList.isEmpty = false := by
  rw [Lib.toList_data]
  cases e : s.data.toList with
  | nil => have : s.data.toList.length = s.size := Array.length_toList
           rw [e, List.length_nil] at this; omega
  | cons _ _ => rfl
theorem mk_size (c : List UInt8) : (⟨c.toArray⟩ : ByteArray).size = c.length := by show c.toArray.size = _; simp
theorem mk_push (c : List UInt8) : (⟨c.toArray⟩ : ByteArray) ++ (⟨#[48]⟩ : ByteArray) = ⟨(c ++ [48]).toArray⟩ := by
  apply ByteArray.ext
  simp
theorem addr0 (b j : Nat) : Addr.add ⟨b, 0, none⟩ j = ⟨b, j, none⟩ := by unfold Addr.add; split <;> simp_all
set_option maxHeartbeats 4000000 in
set_option maxRecDepth 100000 in
theorem codesOf_any (v : Value) (r : List Nat) (w : World) (h : Nats w v r) (hn : r.length ≤ 300) :
    Calls Try.prog 25 #[v] w fun e w' => ∃ SB : Nat, e = .returned (.slice (some ⟨SB, 0, none⟩) r.length r.length) ∧ StrsAt w' SB (codesL r) ∧ Below w.heap.size w w' := by
  obtain ⟨hl, A, cap, rfl, hcap, hmax, hx⟩ := h
  unfold maxLen at hmax
  have HX := hide hx
  clear hx hl
  have hmk := run_make_row' (P := Try.prog) 22 9 (.string ⟨#[]⟩) 16 Try.underlying22 info_string rfl .i64 .i64 r.length (by omega) (by omega)
  have hst : StrsAt (w.alloc (.cells (madeCells #[.string ⟨#[]⟩] r.length) 9)) w.heap.size (List.replicate r.length ⟨#[]⟩) := by
    unfold StrsAt
    rw [made_strs]
    exact heap_alloc_new w _
  have HST := hide hst
  have HB := hide ((Below.refl w.heap.size w).alloc (Nat.le_refl _) (.cells (madeCells #[.string ⟨#[]⟩] r.length) 9))
  clear hst
  go_enter Try.func25, Try.ntmps25
  go_wp2_with fail
  clear hmk
  go_loopw [4, 5, 6, 7, 8, 9] (fun sv nv _ _ _ _ wr => ∃ (n : Nat) (c : List UInt8) (o : List ByteArray), sv = .string ⟨c.toArray⟩ ∧ nv = .int .i64 (n : Int) ∧ 1 ≤ n ∧ n ≤ r.length + 1 ∧ Hid (StrsAt wr w.heap.size o) ∧ Hid (Below w.heap.size w wr) ∧ o.length = r.length ∧ c.length ≤ 300 ∧ Hid (codeRun r (byKey (fun s => r.getD s 0) (coded r) n (r.length + 1 - n)) c o = codesL r)) (fun _ nv _ _ _ _ _ => r.length + 1 - (intOf nv).toNat)
  case atStart => exact ⟨1, [], _, rfl, rfl, Nat.le_refl _, by omega, HST, HB, by simp, by simp, hide rfl⟩
  case round =>
    obtain ⟨n, c, o, rfl, rfl, hn1, hn2, hso, hbl, hol, hc3, hrun⟩ := hrel
    by_cases hlt : n ≤ r.length
    · have hrun2 : Hid (codeRun r (symsAt r n 0 ++ byKey (fun s => r.getD s 0) (coded r) (n + 1) (r.length - n)) c o = codesL r) := hide (by
        have := hrun.out
        rw [show r.length + 1 - n = (r.length - n) + 1 by omega, byKey_head r n _ hn1] at this
        exact this)
      clear hrun
      go_wp2_with fail
      go_loopw [4, 6, 7, 8, 9, 21] (fun sv _ _ _ _ iv wr => ∃ (j : Nat) (c : List UInt8) (o : List ByteArray), sv = .string ⟨c.toArray⟩ ∧ iv = .int .i64 (j : Int) ∧ j ≤ r.length ∧ Hid (StrsAt wr w.heap.size o) ∧ Hid (Below w.heap.size w wr) ∧ o.length = r.length ∧ c.length ≤ 300 ∧ Hid (codeRun r (symsAt r n j ++ byKey (fun s => r.getD s 0) (coded r) (n + 1) (r.length - n)) c o = codesL r)) (fun _ _ _ _ _ iv _ => r.length - (intOf iv).toNat)
      case atStart => exact ⟨0, c, o, rfl, rfl, Nat.zero_le _, hso, hbl, hol, hc3, hrun2⟩
      case round =>
        obtain ⟨j, c, o, rfl, rfl, hj, hso, hbl, hol, hc3, hrun⟩ := hrel
        by_cases hjl : j < r.length
        · obtain ⟨b, ob, rfl, hb, hjc⟩ := HX.out (by omega)
          have cc : wr.cell? ⟨b, ob + j, none⟩ = some (.int .i64 ((r.getD j 0 : Nat) : Int)) := (hbl.out.cell (p := ⟨b, ob + j, none⟩) hb).trans (hjc j _ (by simp [natV, hjl, getD_nat hjl]))
          have hst := symsAt_step r n j hjl
          obtain ⟨rj, hrj⟩ : ∃ x, r.getD j 0 = x := ⟨_, rfl⟩
          by_cases he : rj = n
          · subst he
            rw [hrj] at cc hst
            rw [if_pos rfl] at hst
            rw [hst] at hrun
            have hrun3 : Hid (codeRun r (symsAt r rj (j + 1) ++ byKey (fun s => r.getD s 0) (coded r) (rj + 1) (r.length - rj)) (nextC c rj) (o.set j ⟨(nextC c rj).toArray⟩) = codesL r) := hide (by
              have := hrun.out
              rw [List.cons_append, codeRun, hrj] at this
              exact this)
            clear hst hrj hjc hrun
            obtain ⟨sc, hsc⟩ : ∃ sc, (⟨c.toArray⟩ : ByteArray) = sc := ⟨_, rfl⟩
            have hscs : sc.size = c.length := by rw [← hsc]; exact mk_size c
            have hscd : sc.data.toList = c := by rw [← hsc]
            rw [hsc]
            have HSC := hide hsc
            have HSS := hide hscs
            have HSD := hide hscd
            clear hsc hscs hscd
            go_upto_if 30 with (fail)
            go_cut [4, 8, 9] from 30 to 56 (fun sv _ _ wx => ∃ (d : List UInt8) (sd : ByteArray), sv = .string sd ∧ Hid (sd = ⟨d.toArray⟩) ∧ Hid (padC d rj = nextC c rj) ∧ d.length ≤ 300 ∧ Hid (StrsAt wx w.heap.size o) ∧ Hid (Below w.heap.size w wx))
            case first =>
              by_cases hc0 : c = []
              · have hs0 : sc = ⟨#[]⟩ := by rw [← HSC.out, hc0]
                have HP : Hid (padC [48] rj = nextC c rj) := hide (by rw [hc0]; exact (nextC_nil rj hn1).symm)
                subst hs0
                have hs1 : (⟨#[]⟩ : ByteArray).toList.isEmpty = true := by rw [Lib.toList_data]; rfl
                rw [hs1]
                clear hc0 hs1
                go_wp2_with fail
                go_meet
                case rel => exact ⟨[48], _, rfl, hide rfl, HP, by simp, hso, hbl⟩
              · have hs0 : ¬ (sc = ⟨#[]⟩) := fun e => hc0 (by rw [← HSD.out, e])
                have hcp : 0 < c.length := List.length_pos_iff.2 hc0
                have hs1 : sc.toList.isEmpty = false := isEmpty_of' (by rw [HSS.out]; exact hcp)
                obtain ⟨cap2, w1, hconv, hcap2, hrow, hbel⟩ := row_of_string (P := Try.prog) wr 9 100 5 sc Try.underlying9 Try.underlying100 Try.underlying5
                rw [HSS.out] at hconv hcap2
                rw [HSD.out] at hrow
                have hl1 := hso.out.lt
                obtain ⟨cb, hcb⟩ : ∃ cb, wr.heap.size = cb := ⟨_, rfl⟩
                rw [hcb] at hconv hrow hbel hl1
                have hso1 : Hid (StrsAt w1 w.heap.size o) := hide ((hbel.block _ (by omega)).trans hso.out)
                have hbl1 : Hid (Below w.heap.size w w1) := hide (hbl.out.trans (hbel.mono (by omega)))
                have HRW : Hid (RowB w1 cb (curC c c.length)) := hide (by rw [curC_all]; exact hrow)
                have HNX : Hid (padC (incL c) rj = nextC c rj) := hide (by rw [nextC, if_neg hc0])
                rw [hs1]
                clear hrow hbel hc0 hcb hso hbl hs0 hs1
                go_wp2_with fail
                go_loopw [9] (fun i wx => ∃ q : Nat, q ≤ c.length ∧ i = .int .i64 ((q : Int) - 1) ∧ Hid (RowB wx cb (curC c q)) ∧ Hid (StrsAt wx w.heap.size o) ∧ Hid (Below w.heap.size w wx) ∧ Hid (Ones (c.drop q))) (fun i _ => (intOf i + 1).toNat)
                case atStart => exact ⟨c.length, Nat.le_refl _, rfl, HRW, hso1, hbl1, hide (by rw [List.drop_length]; intro x hx; cases hx)⟩
                case round =>
                  obtain ⟨q, hq, rfl, hrw, hso, hbl, hoq⟩ := hrel
                  have KB : Hid (∀ (l : List UInt8) (W : World), l.length = c.length → RowB W cb l → (convert 100 9 (.slice (some ⟨cb, 0, none⟩) c.length cap2)).run Try.prog W = .ok (.string ⟨l.toArray⟩) W) := hide (fun l W hl hr => by
                    rw [← hl]
                    exact run_convert_bytes_back (P := Try.prog) W 100 9 5 ⟨cb, 0, none⟩ cap2 l Try.underlying100 Try.underlying5 Try.underlying9 (fun j hj => by
                      rw [addr0]; exact (hr.2 j _ (List.getElem?_eq_getElem hj)).1))
                  match q, hq, hrw, hoq with
                  | 0, hq, hrw, hoq =>
                    have hback := KB.out _ _ (curC_len c 0 (Nat.zero_le _)) hrw.out
                    rw [← incL_carry c hoq.out] at hback
                    have hidx : (((0 : Nat) : Int) - 1) = (-1 : Int) := rfl
                    rw [hidx]
                    have hil : (incL c).length ≤ 300 := by rw [incL_len]; exact hc3
                    have HIL := hide hil
                    clear hil hidx
                    go_wp2_with fail
                    go_meet
                    case rel => exact ⟨incL c, _, rfl, hide rfl, HNX, HIL.out, hso, hbl⟩
                  | q + 1, hq, hrw, hoq =>
                    obtain ⟨x0, x1⟩ := hrw.out.2 q _ (List.getElem?_eq_getElem (by rw [curC_len _ _ hq]; omega))
                    rw [curC_get c q (by omega)] at x0
                    have hidx : (((q + 1 : Nat) : Int) - 1) = (q : Int) := by omega
                    rw [hidx]
                    have hqn : q < c.length := by omega
                    have hq0 : (0 : Int) ≤ (q : Int) := by omega
                    have hqc : q < (curC c (q + 1)).length := by rw [curC_len _ _ hq]; exact hqn
                    obtain ⟨y, hy⟩ : ∃ y, c[q] = y := ⟨_, rfl⟩
                    rw [hy] at x0
                    have hcbl : w.heap.size < cb := hl1
                    have HSO : Hid (∀ z, StrsAt (wr.setCell ⟨cb, q, none⟩ z) w.heap.size o) := hide (fun z => (heap_setCell_other _ _ _ _ (by show w.heap.size ≠ cb; omega)).trans hso.out)
                    have HBL : Hid (∀ z, Below w.heap.size w (wr.setCell ⟨cb, q, none⟩ z)) := hide (fun z => hbl.out.setCell (p := ⟨cb, q, none⟩) (by show _ ≤ cb; omega) z)
                    by_cases h49 : y = 49
                    · have HN1 : Hid (RowB (wr.setCell ⟨cb, q, none⟩ (.int .u8 48)) cb (curC c q)) := hide (by
                        rw [← curC_step c q hqn]
                        exact hrw.out.set hqc 48)
                      have HN2 : Hid (Ones (c.drop q)) := hide (ones_drop hqn hoq.out (by rw [hy, h49]))
                      subst h49
                      rw [show ((49 : UInt8).toNat : Int) = 49 from rfl] at x0
                      clear hy hidx hqc
                      go_wp2_with fail
                      go_roundw
                      case rel => exact ⟨q, by omega, by go_num, HN1, hide (HSO.out _), hide (HBL.out _), HN2⟩
                      case measure => simp [intOf]
                    · have HN1 : RowB (wr.setCell ⟨cb, q, none⟩ (.int .u8 49)) cb (incL c) := by
                        rw [← curC_inc c q hqn hoq.out (by rw [hy]; exact h49)]
                        exact hrw.out.set hqc 49
                      have hback := KB.out _ _ (incL_len c) HN1
                      have hil : (incL c).length ≤ 300 := by rw [incL_len]; exact hc3
                      have HIL := hide hil
                      have hz : ¬ ((y.toNat : Int) = 49) := fun e => h49 (UInt8.toNat_inj.1 (by show y.toNat = 49; omega))
                      have hz2 : ((y.toNat : Int) == 49) = false := by simp; omega
                      obtain ⟨z, hyz⟩ : ∃ z, (y.toNat : Int) = z := ⟨_, rfl⟩
                      rw [hyz] at x0 hz hz2
                      clear hy h49 hidx hyz hqc HN1 hil
                      go_wp2_with fail
                      go_meet
                      case rel => exact ⟨incL c, _, rfl, hide rfl, HNX, HIL.out, hide (HSO.out _), hide (HBL.out _)⟩
            case rest =>
              obtain ⟨d, sd, rfl, hsd, hpd, hd3, hso, hbl⟩ := hcut
              have hsd2 : Hid (sd = ⟨(d ++ List.replicate (rj - d.length - (rj - d.length)) 48).toArray⟩) := hide (by rw [Nat.sub_self, List.replicate_zero, List.append_nil]; exact hsd.out)
              go_wp2_with fail
              go_loopg [4] (rj - d.length) (fun gh v0 wx => ∃ s : ByteArray, v0 = .string s ∧ gh ≤ rj - d.length ∧ Hid (s = ⟨(d ++ List.replicate (rj - d.length - gh) 48).toArray⟩) ∧ Hid (StrsAt wx w.heap.size o) ∧ Hid (Below w.heap.size w wx))
              case atStart => exact ⟨sd, rfl, Nat.le_refl _, hsd2, hso, hbl⟩
              case round =>
                obtain ⟨s, rfl, hgh, hs, hso, hbl⟩ := hrel
                have hsl : s.size = d.length + (rj - d.length - gk) := by rw [hs.out, mk_size]; simp
                by_cases h0 : gk = 0
                · have hse : s = ⟨(nextC c rj).toArray⟩ := by rw [hs.out, h0, ← hpd.out]; rfl
                  have hlt' : ¬ ((s.size : Int) < (rj : Int)) := by omega
                  have hlt'' : decide ((s.size : Int) < (rj : Int)) = false := by simpa using hlt'
                  have hnl : (nextC c rj).length ≤ 300 := by rw [← hpd.out]; simp [padC]; omega
                  obtain ⟨⟨y0, hy0⟩, y1⟩ := hso.out.cells j (by omega)
                  have HN1 : Hid (StrsAt (wr.setCell ⟨w.heap.size, j, none⟩ (.string s)) w.heap.size (o.set j s)) := hide (hso.out.set j s)
                  have HN2 : Hid (Below w.heap.size w (wr.setCell ⟨w.heap.size, j, none⟩ (.string s))) := hide (hbl.out.setCell (p := ⟨w.heap.size, j, none⟩) (Nat.le_refl _) _)
                  have hol2 : Hid ((o.set j s).length = r.length) := hide (by rw [List.length_set]; exact hol)
                  rw [← hse] at hrun3
                  have HSE := hide hse
                  have HNL := hide hnl
                  clear hsl hse hol hnl h0
                  go_wp2_with fail
                  go_roundw
                  case rel => exact ⟨j + 1, nextC c rj, _, by rw [HSE.out], by go_num, by omega, HN1, HN2, hol2.out, HNL.out, hrun3⟩
                  case measure => simp [intOf]; omega
                · have hlt' : ((s.size : Int) < (rj : Int)) := by omega
                  have HNX : Hid (s ++ (⟨#[48]⟩ : ByteArray) = ⟨(d ++ List.replicate (rj - d.length - (gk - 1)) 48).toArray⟩) := hide (by
                    rw [hs.out, mk_push, List.append_assoc, show rj - d.length - (gk - 1) = (rj - d.length - gk) + 1 by omega, List.replicate_succ'])
                  clear hsl
                  go_wp2_with fail
                  go_roundg (gk - 1)
                  case measure => omega
                  case rel => exact ⟨_, rfl, by omega, HNX, hso, hbl⟩
          · rw [hrj] at cc hst
            rw [if_neg he] at hst
            rw [hst] at hrun
            have he' : ¬ ((rj : Int) = (n : Int)) := by omega
            have he2 : ((rj : Int) == (n : Int)) = false := by simp; omega
            have he3 : ((rj : Int) != (n : Int)) = true := by simp; omega
            clear hst hrj hjc he
            go_wp2_with fail
            go_roundw
            case rel => exact ⟨j + 1, c, o, rfl, by go_num, by omega, hso, hbl, hol, hc3, hrun⟩
            case measure => simp [intOf]; omega
        · obtain rfl : j = r.length := by omega
          have hrun2 : Hid (codeRun r (byKey (fun s => r.getD s 0) (coded r) (n + 1) (r.length + 1 - (n + 1))) c o = codesL r) := hide (by
            have := hrun.out
            rw [symsAt_end r n _ (Nat.le_refl _)] at this
            rw [show r.length + 1 - (n + 1) = r.length - n by omega]
            exact this)
          clear hrun
          go_wp2_with fail
          go_roundw
          case rel => exact ⟨n + 1, c, o, rfl, by go_num, by omega, by omega, hso, hbl, hol, hc3, hrun2⟩
          case measure => simp [intOf]; omega
    · obtain rfl : n = r.length + 1 := by omega
      have hfin : o = codesL r := by
        have := hrun.out
        rw [Nat.sub_self] at this
        exact this
      have hso2 := hso.out
      rw [hfin] at hso2
      have HS2 := hide hso2
      have hlt' : ¬ (((r.length + 1 : Nat) : Int) ≤ (r.length : Int)) := by omega
      have hlt2 : decide (((r.length + 1 : Nat) : Int) ≤ (r.length : Int)) = false := by simpa using hlt'
      clear hso2 hfin hrun
      go_wp2_with fail
      go_ret
      exact ⟨_, rfl, HS2.out, hbl.out⟩
end Go.Proofs.Ytfjbdbdjhkmifaa
