import Derived.Test.YtfjbdbdjhkmifaaKept
import Derived.Test.YtfjbdbdjhkmifaaDiffB
import Derived.Test.YtfjbdbdjhkmifaaFew
import Derived.Test.YtfjbdbdjhkmifaaBest
set_option linter.unusedSimpArgs false
set_option linter.unusedVariables false
namespace Go.Proofs.Ytfjbdbdjhkmifaa
open Go.RowKit Go.Pw

theorem partOf_eq (l : List ByteArray) (i j : Nat) : partOf l i j = part l i j := rfl

/-- what the reference keeps while it goes through two lists -/
structure DfEnv (w wr : World) (a b : List ByteArray) (i k : Nat) (v : Value) (hs : List Hk) : Prop where
  bl : Below w.heap.size w wr
  grid : Grid wr 52 3 w.heap.size (a.length + 1) (b.length + 1) (ell a b)
  own : HunksOwn wr 43 (w.heap.size + a.length + 2) (w.heap.size + a.length + 2) v hs
  sz : w.heap.size + a.length + 2 ≤ wr.heap.size
theorem DfEnv.drewN {w wr : World} {a b : List ByteArray} {i k : Nat} {v : Value} {hs : List Hk} (h : DfEnv w wr a b i k v hs) (n : Nat) : DfEnv w (wr.drewN n) a b i k v hs := ⟨below_drewN h.bl n, h.grid.drewN n, h.own, h.sz⟩

theorem DfEnv.push {w wr w2 w3 : World} {a b : List ByteArray} {i k : Nat} {v v' : Value} {hs : List Hk} (he : DfEnv w wr a b i k v hs) (hb : Below wr.heap.size wr w2) {vs : List (Value × Value)} (hvs : vs.length = hs.length)
    (hrow : wr.ownsRow (w.heap.size + a.length + 2) 43 4 v hs.length (hkCells hs vs)) (hok : ∀ h ∈ hs, h.ok) (hel : HunkElems wr (w.heap.size + a.length + 2) v hs vs) {h : Hk} (hok1 : h.ok) {o n : Value} (ho : Strs w2 o h.old) (hn : Strs w2 n h.new)
    (lo : ∀ g, o.ownBlock = some g → wr.heap.size ≤ g ∧ g < w2.heap.size) (ln : ∀ g, n.ownBlock = some g → wr.heap.size ≤ g ∧ g < w2.heap.size) {ob : Obj}
    (hown3 : w3.ownsRow (w.heap.size + a.length + 2) 43 4 v' (hs.length + 1) (hkCells hs vs ++ [.int .i64 h.frm, .int .i64 h.to_, o, n])) (hgrow : (w2.alloc ob).grownBy w3 v.ownBlock)
    (hat : v'.ownBlock = v.ownBlock ∨ v'.ownBlock = some (w2.alloc ob).heap.size) : DfEnv w w3 a b i k v' (hs ++ [h]) := by
  have hz := he.sz
  have hz2 := hb.size
  have vg := own_ge hrow
  have vl := own_lt hrow
  have ba : Below w2.heap.size w2 (w2.alloc ob) := (Below.refl _ _).alloc (Nat.le_refl _) ob
  have hel2 : HunkElems (w2.alloc ob) (w.heap.size + a.length + 2) v hs vs := by
    intro i h' o' n' e1 e2
    obtain ⟨⟨a1, a2⟩, b1, b2⟩ := hel i h' o' n' e1 e2
    exact ⟨⟨(a1.below hb).below ba, (a2.more hb.size).more ba.size⟩, (b1.below hb).below ba, (b2.more hb.size).more ba.size⟩
  have sit : ∀ x : Value, (∀ g, x.ownBlock = some g → wr.heap.size ≤ g ∧ g < w2.heap.size) → Sits (w2.alloc ob) (w.heap.size + a.length + 2) x v := by
    intro x hx g hg
    obtain ⟨h1, h2⟩ := hx g hg
    exact ⟨by omega, by simp; omega, fun e => by have := vl g e; omega⟩
  have hown := HunksOwn.push hok hok1 (ho.below ba) (hn.below ba) (sit o lo) (sit n ln) hvs hel2 hown3 hgrow hat
  have hsz3 := hgrow.size
  simp at hsz3
  have blk : ∀ k, k < w.heap.size + a.length + 2 → w3.heap[k]? = wr.heap[k]? := fun k hk =>
    ((hgrow.block k (by simp; omega) (fun e => by have := vg k e.symm; omega)).trans (ba.block k (by omega))).trans (hb.block k (by omega))
  have b1 : Below (w.heap.size + a.length + 2) wr w3 := ⟨hgrow.os.trans (ba.os.trans hb.os), hgrow.tape.trans (ba.tape.trans hb.tape), hgrow.output.trans (ba.output.trans hb.output), by omega, fun k hk => blk k hk⟩
  exact ⟨he.bl.trans (b1.mono (by omega)), he.grid.below b1 (by omega), hown, by omega⟩

theorem best_ge {a b : List ByteArray} {i k x y : Nat} (h : Best a b (ell a b i k) k ((i : Int) - 1) ((b.length : Int) - 1) x y) (hi : i ≤ a.length) (hk : k ≤ b.length) : i ≤ x ∧ k ≤ y ∧ x ≤ a.length ∧ y ≤ b.length := by
  rcases h with ⟨h1, h2, _⟩ | ⟨h1, h2, h3, _⟩
  · omega
  · obtain ⟨hx, hy, _⟩ := h1
    omega
/-- the next pair -/
def nextOf (a b : List ByteArray) (i k : Nat) : Nat × Nat := match stayAt a b i k with | [] => (a.length, b.length) | s :: _ => s
theorem best_next {a b : List ByteArray} {i k x y : Nat} (h : Best a b (ell a b i k) k ((i : Int) - 1) ((b.length : Int) - 1) x y) : (stayAt a b i k = [] ∧ x = a.length ∧ y = b.length) ∨ (∃ rest, stayAt a b i k = (x, y) :: rest ∧ rest = stayAt a b (x + 1) (y + 1) ∧ x < a.length ∧ y < b.length ∧ 0 < ell a b i k) := by
  rcases hs : stayAt a b i k with _ | ⟨s, rest⟩
  · exact .inl ⟨rfl, best_done_nil h hs⟩
  · obtain ⟨rfl, rfl, h3⟩ := best_done_cons h hs
    have hf := stay_first a b _ i k rfl
    rw [hs] at hf
    obtain ⟨⟨p1, p2, _, p4⟩, _⟩ := hf
    have := (ell_bd a b (s.1 + 1) (s.2 + 1)).1
    exact .inr ⟨rest, rfl, h3, p1, p2, by omega⟩

set_option maxHeartbeats 4000000 in
set_option maxRecDepth 100000 in
theorem difference_any (va vb : Value) (a b : List ByteArray) (w : World) (ha : Strs w va a) (hb : Strs w vb b) (hla : a.length ≤ 1000) (hlb : b.length ≤ 1000) :
    Calls Try.prog 40 #[va, vb] w fun e w' => ∃ v, e = .returned v ∧ Hunks w' v (hunksOf a b 0 0 (stayAt a b 0 0)) ∧ Below w.heap.size w w' := by
  have HA := hide ha
  have HB := hide hb
  obtain ⟨⟨_, A, ca, rfl, hca, hma, hxa⟩, _⟩ := ha
  obtain ⟨⟨_, B, cb, rfl, hcb, hmb, hxb⟩, _⟩ := hb
  have HXA := hide hxa
  have HXB := hide hxb
  clear hxa hxb
  go_enter Try.func40, Try.ntmps40
  go_wp2_with fail
  refine (kept_any _ _ a b _ HA.out HB.out hla hlb).mono ?_
  rintro e w1 ⟨rfl, hgrid, hb1⟩
  have hsz := hgrid.lt (i := a.length) (by omega)
  have henv : Hid (DfEnv w w1 a b 0 0 (.slice none 0 0) []) := ⟨hb1, hgrid, HunksOwn.nil _ _ _ _, by omega⟩
  clear hgrid hb1 hsz
  go_wp2_with fail
  go_loopw [6, 7, 8] (fun v x y wr => ∃ (i k : Nat) (hs : List Hk), i ≤ a.length ∧ k ≤ b.length ∧ x = .int .i64 (i : Int) ∧ y = .int .i64 (k : Int) ∧ hs.length ≤ i ∧ Hid (hs ++ hunksOf a b i k (stayAt a b i k) = hunksOf a b 0 0 (stayAt a b 0 0)) ∧ Hid (DfEnv w wr a b i k v hs))
    (fun _ x _ _ => a.length + 1 - (intOf x).toNat)
  case atStart => exact ⟨0, 0, [], by omega, by omega, rfl, rfl, by simp, rfl, henv⟩
  case round =>
    clear henv
    obtain ⟨i, k, hs, hi, hk, rfl, rfl, hlen, heq, henv⟩ := hrel
    go_wp2_with fail
    obtain ⟨wo, hwo⟩ : ∃ wo : World, wo = wr := ⟨_, rfl⟩
    rw [← hwo] at henv ⊢
    clear hwo
    go_loopw [9, 10, 11] (fun x y z wr => ∃ (X Y : Nat) (Z : Int) (n : Nat), (i : Int) - 1 ≤ Z ∧ Z < a.length ∧ x = .int .i64 (X : Int) ∧ y = .int .i64 (Y : Int) ∧ z = .int .i64 Z ∧ X ≤ a.length ∧ Y ≤ b.length ∧ Hid (Best a b (ell a b i k) k Z ((b.length : Int) - 1) X Y) ∧ Hid (wr = wo.drewN n))
      (fun _ _ z _ => (intOf z + 1).toNat)
    case atStart => exact ⟨a.length, b.length, (a.length : Int) - 1, 0, by omega, by omega, rfl, rfl, rfl, Nat.le_refl _, Nat.le_refl _, best_none _ _ _ _, rfl⟩
    case round =>
      obtain ⟨X, Y, Z, n, hZ1, hZ2, rfl, rfl, rfl, hX, hY, hbest, hwr⟩ := hrel
      have hwr' := hwr.out
      subst hwr'
      clear hwr
      by_cases hz : (i : Int) ≤ Z
      · obtain ⟨p, rfl⟩ : ∃ p : Nat, Z = p := ⟨Z.toNat, by omega⟩
        go_wp2_with fail
        go_loopw [9, 10, 12] (fun x y u wr => ∃ (X Y : Nat) (U : Int) (n : Nat), (k : Int) - 1 ≤ U ∧ U < b.length ∧ x = .int .i64 (X : Int) ∧ y = .int .i64 (Y : Int) ∧ u = .int .i64 U ∧ X ≤ a.length ∧ Y ≤ b.length ∧ Hid (Best a b (ell a b i k) k p U X Y) ∧ Hid (wr = wo.drewN n))
          (fun _ _ u _ => (intOf u + 1).toNat)
        case atStart => exact ⟨X, Y, (b.length : Int) - 1, n, by omega, by omega, rfl, rfl, rfl, hX, hY, hbest, rfl⟩
        case round =>
          clear hbest hX hY
          obtain ⟨X2, Y2, U, n2, hU1, hU2, rfl, rfl, rfl, hX, hY, hbest, hwr⟩ := hrel
          have hwr' := hwr.out
          subst hwr'
          clear hwr
          by_cases hu : (k : Int) ≤ U
          · obtain ⟨q, rfl⟩ : ∃ q : Nat, U = q := ⟨U.toNat, by omega⟩
            have hpa : p < a.length := by omega
            have hqb : q < b.length := by omega
            obtain ⟨ba, oa, rfl, hba, hja⟩ := HXA.out (by omega)
            obtain ⟨bb, ob, rfl, hbb, hjb⟩ := HXB.out (by omega)
            have c1 : wo.cell? ⟨ba, oa + p, none⟩ = some (.string a[p]) := (henv.out.bl.cell hba).trans (hja p _ (by simp [hpa]))
            have c2 : wo.cell? ⟨bb, ob + q, none⟩ = some (.string b[q]) := (henv.out.bl.cell hbb).trans (hjb q _ (by simp [hqb]))
            clear hja hjb
            have c3 := henv.out.grid.row (i := i) (by omega)
            have c4 := henv.out.grid.row (i := p + 1) (by omega)
            have c5 := henv.out.grid.cell (i := i) (j := k) (by omega) (by omega)
            have c6 := henv.out.grid.cell (i := p + 1) (j := q + 1) (by omega) (by omega)
            have bd := ell_bd a b (p + 1) (q + 1)
            by_cases he : a[p] = b[q]
            · have he' : (a[p].toList == b[q].toList) = true := by rw [he]; simp
              have HE := hide he
              clear he
              by_cases hl : ell a b (p + 1) (q + 1) + 1 = ell a b i k
              · have hl' : (ell a b (p + 1) (q + 1) + 1 == ell a b i k) = true := by simpa using hl
                have HL := hide hl
                clear hl
                go_wp2_with fail
                go_quiet (fail)
                clear c1 c2 c3 c4 c5 c6
                go_wp2_with fail
                go_roundw
                case rel => exact ⟨p, q, (q : Int) - 1, _, by omega, by omega, rfl, rfl, rfl, by omega, by omega, best_hit hbest.out (by omega) ⟨hpa, hqb, HE.out, HL.out⟩, rfl⟩
                case measure => simp [intOf]
              · have hl' : (ell a b (p + 1) (q + 1) + 1 == ell a b i k) = false := by simpa using hl
                have HL := hide hl
                clear hl
                go_wp2_with fail
                go_quiet (fail)
                clear c1 c2 c3 c4 c5 c6
                go_wp2_with fail
                go_roundw
                case rel => exact ⟨X2, Y2, (q : Int) - 1, _, by omega, by omega, rfl, rfl, rfl, hX, hY, best_miss hbest.out (fun ⟨_, _, _, h4⟩ => HL.out h4), rfl⟩
                case measure => simp [intOf]
            · have he' : (a[p].toList == b[q].toList) = false := by
                cases hq : (a[p].toList == b[q].toList)
                · rfl
                · exact absurd (bytes_eq hq) he
              have HE := hide he
              clear he
              go_wp2_with fail
              go_quiet (fail)
              clear c1 c2 c3 c4 c5 c6
              go_wp2_with fail
              go_roundw
              case rel => exact ⟨X2, Y2, (q : Int) - 1, _, by omega, by omega, rfl, rfl, rfl, hX, hY, best_miss hbest.out (fun ⟨_, _, h3, _⟩ => HE.out h3), rfl⟩
              case measure => simp [intOf]
          · go_wp2_with fail
            go_roundw
            case rel => exact ⟨X2, Y2, (p : Int) - 1, n2, by omega, by omega, rfl, rfl, rfl, hX, hY, best_row hbest.out (by omega), rfl⟩
            case measure => simp [intOf]
      · obtain rfl : Z = (i : Int) - 1 := by omega
        have hen2 := hide (henv.out.drewN n)
        clear henv
        generalize wo.drewN n = w2 at *
        have hge := best_ge hbest.out hi hk
        rcases best_next hbest.out with ⟨e1, e2, e3⟩ | ⟨rest, e1, e2, e3, e4, e5⟩
        · have hfin : hs ++ gap a b i k X Y = hunksOf a b 0 0 (stayAt a b 0 0) := by
            have := heq.out
            rw [e1, hunksOf] at this
            rw [← this, e2, e3]
          have e2' : ((X : Int) == (a.length : Int)) = true := by simp; omega
          have HF := hide hfin
          clear hfin e1 e2 e3
          by_cases hg : i < X ∨ k < Y
          · have hgap : gap a b i k X Y = [⟨i, k, part a i X, part b k Y⟩] := by unfold gap; rw [if_pos hg]
            have HGAP := hide hgap
            clear hgap
            obtain ⟨vs, hvs, hrow, hok, hel⟩ := hen2.out.own
            have HVS := hide hvs
            have HOK := hide hok
            have HEL := hide hel
            clear hvs hok hel
            obtain ⟨ip, hip, hpz, hps, hpb⟩ := info_parts info_hunk
            have hor : (decide (i < X) || decide (k < Y)) = true := by simpa using hg
            have hgu : i < X ∨ X ≤ i := Nat.lt_or_ge _ _
            rcases hgu with hgu | hgu
            all_goals
              go_wp2_with fail
              refine (sub_any _ a i X _ (HA.out.below hen2.out.bl) (by omega) (by omega) (by omega)).mono ?_
              rintro e w3 ⟨A1, n1, c1, rfl, hs1, hg1, hb3⟩
              have S1 := hide hs1
              have G1 := hide hg1
              clear hs1 hg1
              have hz3 := hb3.size
              go_wp2_with fail
              refine (sub_any _ b k Y _ ((HB.out.below hen2.out.bl).below hb3) (by omega) (by omega) (by omega)).mono ?_
              rintro e w4 ⟨A2, n2, c2, rfl, hs2, hg2, hb4⟩
              have S2 := hide hs2
              have G2 := hide hg2
              clear hs2 hg2
              have hz4 := hb4.size
              have hsz2 := hen2.out.sz
              have KEY : Hid (∀ (vv : Value) (w5 : World), w5.ownsRow (w.heap.size + a.length + 2) 43 4 vv (hs.length + 1) (hkCells hs vs ++ [.int .i64 (i : Int), .int .i64 (k : Int), .slice A1 n1 c1, .slice A2 n2 c2]) → (w4.alloc (.cells #[.int .i64 (i : Int), .int .i64 (k : Int), .slice A1 n1 c1, .slice A2 n2 c2] 43)).grownBy w5 u6.ownBlock →
                  (vv.ownBlock = u6.ownBlock ∨ vv.ownBlock = some (w4.alloc (.cells #[.int .i64 (i : Int), .int .i64 (k : Int), .slice A1 n1 c1, .slice A2 n2 c2] 43)).heap.size) → DfEnv w w5 a b i k vv (hs ++ gap a b i k X Y)) := by
                intro vv w5 hown5 hgrow5 hat5
                rw [HGAP.out]
                exact hen2.out.push (hb3.trans (hb4.mono hz3)) HVS.out hrow HOK.out HEL.out (h := ⟨i, k, part a i X, part b k Y⟩) ⟨⟨by show (-9223372036854775808 : Int) ≤ (i : Int); omega, by show (i : Int) ≤ 9223372036854775807; omega⟩, ⟨by show (-9223372036854775808 : Int) ≤ (k : Int); omega, by show (k : Int) ≤ 9223372036854775807; omega⟩⟩ (S1.out.below hb4) S2.out (fun g hg => ⟨(G1.out g hg).1, by have := (G1.out g hg).2; omega⟩) (fun g hg => ⟨by have := (G2.out g hg).1; omega, (G2.out g hg).2⟩) hown5 hgrow5 hat5
              go_wp2_with (at_builtin; refine wpList_append_own_at _ rfl _ _ 33 rfl (w.heap.size + a.length + 2) 43 ip _ 4 64 Try.underlying33 hip hpz hps hpb rfl (by decide) _ hs.length (hkCells hs vs) rfl ((own_below (own_below hrow hb3) hb4).alloc _) ⟨w4.heap.size, 0, none⟩ 1 1 [.int .i64 (i : Int), .int .i64 (k : Int), .slice A1 n1 c1, .slice A2 n2 c2] rfl rfl (four_new _ _ _ _ _ _) (by simp [Value.oneCell']) (by unfold maxLen; omega) (by omega) (by simp; omega) ?_; intro vv w5 hown5 hgrow5 hnil5 hat5; have HEN := hide (KEY.out vv w5 hown5 hgrow5 hat5); clear hen2 hrow HVS HOK HEL hip hpz hps hpb S1 S2 G1 G2 hb3 hb4 hz3 hz4 hown5 hgrow5 hnil5 hat5 hsz2 HGAP KEY; skip)
              go_ret
              exact ⟨vv, rfl, by rw [← HF.out]; exact HEN.out.own.read, HEN.out.bl⟩
          · have hgap : gap a b i k X Y = [] := by unfold gap; rw [if_neg hg]
            have HEN : Hid (DfEnv w w2 a b i k u6 (hs ++ gap a b i k X Y)) := by rw [hgap, List.append_nil]; exact hen2
            have g1 : decide (i < X) = false := by simp; omega
            have g2 : decide (k < Y) = false := by simp; omega
            have g3 : decide ((i : Int) < (X : Int)) = false := by simp; omega
            have g4 : decide ((k : Int) < (Y : Int)) = false := by simp; omega
            clear hen2 hgap
            go_wp2_with fail
            go_ret
            exact ⟨u6, rfl, by rw [← HF.out]; exact HEN.out.own.read, HEN.out.bl⟩
        · have hfin : (hs ++ gap a b i k X Y) ++ hunksOf a b (X + 1) (Y + 1) (stayAt a b (X + 1) (Y + 1)) = hunksOf a b 0 0 (stayAt a b 0 0) := by
            have := heq.out
            rw [e1, hunksOf, e2] at this
            rw [← this, List.append_assoc]
          have e3' : ((X : Int) == (a.length : Int)) = false := by simp; omega
          have e5' : (ell a b i k == 0) = false := by simp; omega
          have hgl := gap_length a b i k X Y
          have HF := hide hfin
          clear hfin e1 e2
          by_cases hg : i < X ∨ k < Y
          · have hgap : gap a b i k X Y = [⟨i, k, part a i X, part b k Y⟩] := by unfold gap; rw [if_pos hg]
            have HGAP := hide hgap
            clear hgap
            obtain ⟨vs, hvs, hrow, hok, hel⟩ := hen2.out.own
            have HVS := hide hvs
            have HOK := hide hok
            have HEL := hide hel
            clear hvs hok hel
            obtain ⟨ip, hip, hpz, hps, hpb⟩ := info_parts info_hunk
            have hor : (decide (i < X) || decide (k < Y)) = true := by simpa using hg
            have hgu : i < X ∨ X ≤ i := Nat.lt_or_ge _ _
            rcases hgu with hgu | hgu
            all_goals
              go_wp2_with fail
              refine (sub_any _ a i X _ (HA.out.below hen2.out.bl) (by omega) (by omega) (by omega)).mono ?_
              rintro e w3 ⟨A1, n1, c1, rfl, hs1, hg1, hb3⟩
              have S1 := hide hs1
              have G1 := hide hg1
              clear hs1 hg1
              have hz3 := hb3.size
              go_wp2_with fail
              refine (sub_any _ b k Y _ ((HB.out.below hen2.out.bl).below hb3) (by omega) (by omega) (by omega)).mono ?_
              rintro e w4 ⟨A2, n2, c2, rfl, hs2, hg2, hb4⟩
              have S2 := hide hs2
              have G2 := hide hg2
              clear hs2 hg2
              have hz4 := hb4.size
              have hsz2 := hen2.out.sz
              have KEY : Hid (∀ (vv : Value) (w5 : World), w5.ownsRow (w.heap.size + a.length + 2) 43 4 vv (hs.length + 1) (hkCells hs vs ++ [.int .i64 (i : Int), .int .i64 (k : Int), .slice A1 n1 c1, .slice A2 n2 c2]) → (w4.alloc (.cells #[.int .i64 (i : Int), .int .i64 (k : Int), .slice A1 n1 c1, .slice A2 n2 c2] 43)).grownBy w5 u6.ownBlock →
                  (vv.ownBlock = u6.ownBlock ∨ vv.ownBlock = some (w4.alloc (.cells #[.int .i64 (i : Int), .int .i64 (k : Int), .slice A1 n1 c1, .slice A2 n2 c2] 43)).heap.size) → DfEnv w w5 a b i k vv (hs ++ gap a b i k X Y)) := by
                intro vv w5 hown5 hgrow5 hat5
                rw [HGAP.out]
                exact hen2.out.push (hb3.trans (hb4.mono hz3)) HVS.out hrow HOK.out HEL.out (h := ⟨i, k, part a i X, part b k Y⟩) ⟨⟨by show (-9223372036854775808 : Int) ≤ (i : Int); omega, by show (i : Int) ≤ 9223372036854775807; omega⟩, ⟨by show (-9223372036854775808 : Int) ≤ (k : Int); omega, by show (k : Int) ≤ 9223372036854775807; omega⟩⟩ (S1.out.below hb4) S2.out (fun g hg => ⟨(G1.out g hg).1, by have := (G1.out g hg).2; omega⟩) (fun g hg => ⟨by have := (G2.out g hg).1; omega, (G2.out g hg).2⟩) hown5 hgrow5 hat5
              go_wp2_with (at_builtin; refine wpList_append_own_at _ rfl _ _ 33 rfl (w.heap.size + a.length + 2) 43 ip _ 4 64 Try.underlying33 hip hpz hps hpb rfl (by decide) _ hs.length (hkCells hs vs) rfl ((own_below (own_below hrow hb3) hb4).alloc _) ⟨w4.heap.size, 0, none⟩ 1 1 [.int .i64 (i : Int), .int .i64 (k : Int), .slice A1 n1 c1, .slice A2 n2 c2] rfl rfl (four_new _ _ _ _ _ _) (by simp [Value.oneCell']) (by unfold maxLen; omega) (by omega) (by simp; omega) ?_; intro vv w5 hown5 hgrow5 hnil5 hat5; have HEN := hide (KEY.out vv w5 hown5 hgrow5 hat5); clear hen2 hrow HVS HOK HEL hip hpz hps hpb S1 S2 G1 G2 hb3 hb4 hz3 hz4 hown5 hgrow5 hnil5 hat5 hsz2 HGAP KEY; have c3 := HEN.out.grid.row (i := i) (by omega); have c5 := HEN.out.grid.cell (i := i) (j := k) (by omega) (by omega))
              go_roundw
              case rel => first | exact ⟨X + 1, Y + 1, hs ++ gap a b i k X Y, by omega, by omega, by go_num, by go_num, by simp; omega, HF, ⟨HEN.out.bl, HEN.out.grid, HEN.out.own, HEN.out.sz⟩⟩ | ((repeat apply Exists.intro); exact ⟨⟨X + 1, Y + 1, hs ++ gap a b i k X Y, by omega, by omega, by go_num, by go_num, by simp; omega, HF, ⟨HEN.out.bl, HEN.out.grid, HEN.out.own, HEN.out.sz⟩⟩, rfl⟩)
              case measure => simp [intOf]; omega
          · have hgap : gap a b i k X Y = [] := by unfold gap; rw [if_neg hg]
            have HEN : Hid (DfEnv w w2 a b i k u6 (hs ++ gap a b i k X Y)) := by rw [hgap, List.append_nil]; exact hen2
            have g1 : decide (i < X) = false := by simp; omega
            have g2 : decide (k < Y) = false := by simp; omega
            have g3 : decide ((i : Int) < (X : Int)) = false := by simp; omega
            have g4 : decide ((k : Int) < (Y : Int)) = false := by simp; omega
            clear hen2 hgap
            have c3 := HEN.out.grid.row (i := i) (by omega)
            have c5 := HEN.out.grid.cell (i := i) (j := k) (by omega) (by omega)
            go_wp2_with fail
            go_roundw
            case rel => exact ⟨X + 1, Y + 1, hs ++ gap a b i k X Y, by omega, by omega, by go_num, by go_num, by simp; omega, HF, ⟨HEN.out.bl, HEN.out.grid, HEN.out.own, HEN.out.sz⟩⟩
            case measure => simp [intOf]; omega
end Go.Proofs.Ytfjbdbdjhkmifaa
