/- The law DateReadsBack: the walk. -/
import Derived.Test.YtifpmigghplmoaaGreatDoorZDBackP
set_option linter.unusedVariables false
set_option linter.unusedSimpArgs false
namespace Go.Pw
open Go.RowKit
/-- the pieces of a format -/
def pcL : List (List UInt8) := [[], [97, 116, 32], [37, 106, 32], [37, 97, 44, 32], [37, 117], [46], [37, 37], [37, 121, 45], [37, 98, 37, 100], [37, 72, 37, 77]]
def ppL : List (List (UInt8 × UInt8)) := [[], [(0, 97), (0, 116), (0, 32)], [(106, 0), (0, 32)], [(97, 0), (0, 44), (0, 32)], [(117, 0)], [(0, 46)], [(37, 0)], [(121, 0), (0, 45)], [(98, 0), (100, 0)], [(72, 0), (77, 0)]]
def pcs (k : Nat) : List UInt8 := pcL.getD k []
def pps (k : Nat) : List (UInt8 × UInt8) := ppL.getD k []
def ixB (n : Int) : Nat := (n % 18446744073709551616 % 10).toNat
theorem ixB_lt (n : Int) : ixB n < 10 := by unfold ixB; omega
theorem opt_map_nil (o : Option (List (UInt8 × UInt8))) : o.map (([] : List (UInt8 × UInt8)) ++ ·) = o := by cases o <;> simp
theorem dParse_pc (k : Nat) (hk : k < 10) (l : List UInt8) : dParse (pcs k ++ l) = (dParse l).map (pps k ++ ·) := by
  match k, hk with
  | 0, _ => show dParse l = (dParse l).map ([] ++ ·); rw [opt_map_nil]
  | 1, _ => show dParse (97 :: 116 :: 32 :: l) = _; rw [dParse_byte _ (by decide), dParse_byte _ (by decide), dParse_byte _ (by decide)]; cases dParse l <;> rfl
  | 2, _ => show dParse (37 :: 106 :: 32 :: l) = _; rw [dParse_yes _ (by decide), dParse_byte _ (by decide)]; cases dParse l <;> rfl
  | 3, _ => show dParse (37 :: 97 :: 44 :: 32 :: l) = _; rw [dParse_yes _ (by decide), dParse_byte _ (by decide), dParse_byte _ (by decide)]; cases dParse l <;> rfl
  | 4, _ => show dParse (37 :: 117 :: l) = _; rw [dParse_yes _ (by decide)]; cases dParse l <;> rfl
  | 5, _ => show dParse (46 :: l) = _; rw [dParse_byte _ (by decide)]; cases dParse l <;> rfl
  | 6, _ => show dParse (37 :: 37 :: l) = _; rw [dParse_yes _ (by decide)]; cases dParse l <;> rfl
  | 7, _ => show dParse (37 :: 121 :: 45 :: l) = _; rw [dParse_yes _ (by decide), dParse_byte _ (by decide)]; cases dParse l <;> rfl
  | 8, _ => show dParse (37 :: 98 :: 37 :: 100 :: l) = _; rw [dParse_yes _ (by decide), dParse_yes _ (by decide)]; cases dParse l <;> rfl
  | 9, _ => show dParse (37 :: 72 :: 37 :: 77 :: l) = _; rw [dParse_yes _ (by decide), dParse_yes _ (by decide)]; cases dParse l <;> rfl
def fpc (ns : List Int) : List UInt8 := ns.flatMap fun n => pcs (ixB n)
def fpp (ns : List Int) : List (UInt8 × UInt8) := ns.flatMap fun n => pps (ixB n)
theorem dParse_flat : ∀ (ns : List Int) (l : List UInt8), dParse (fpc ns ++ l) = (dParse l).map (fpp ns ++ ·)
  | [], l => (opt_map_nil _).symm
  | n :: ns, l => by
    have ih := dParse_flat ns l
    show dParse ((pcs (ixB n) ++ fpc ns) ++ l) = _
    rw [List.append_assoc, dParse_pc _ (ixB_lt n), ih]
    cases dParse l with
    | none => rfl
    | some q => simp [fpp]
def bkF (h t : List Int) : List UInt8 := fpc h ++ [37, 70, 32, 37, 84] ++ fpc t
def bkP (h t : List Int) : List (UInt8 × UInt8) := fpp h ++ ([(70, 0), (0, 32), (84, 0)] ++ fpp t)
theorem bk_parse (h t : List Int) : dParse (bkF h t) = some (bkP h t) := by
  unfold bkF bkP
  rw [List.append_assoc, dParse_flat]
  show (dParse (37 :: 70 :: 32 :: 37 :: 84 :: fpc t)).map _ = _
  have e := dParse_flat t []
  rw [List.append_nil, dParse_nil] at e
  rw [dParse_yes _ (by decide), dParse_byte _ (by decide), dParse_yes _ (by decide), e]
  simp
theorem pps_ok : ∀ k : Fin 10, ∀ p ∈ pps k.val, p.1 = 0 ∨ p.1 ∈ bkLs := by decide
theorem bk_letters (h t : List Int) : ∀ p ∈ bkP h t, p.1 = 0 ∨ p.1 ∈ bkLs := by
  intro p hp
  have fl : ∀ ns : List Int, p ∈ fpp ns → p.1 = 0 ∨ p.1 ∈ bkLs := fun ns hp => by
    obtain ⟨n, hn, hp⟩ := List.mem_flatMap.1 hp
    exact pps_ok ⟨ixB n, ixB_lt n⟩ p hp
  unfold bkP at hp
  rcases List.mem_append.1 hp with hp | hp
  · exact fl h hp
  · rcases List.mem_append.1 hp with hp | hp
    · simp only [List.mem_cons, List.not_mem_nil, or_false] at hp
      rcases hp with rfl | rfl | rfl <;> decide
    · exact fl t hp
theorem pcs_len : ∀ k : Fin 10, (pcs k.val).length ≤ 4 := by decide
theorem fpc_len : ∀ ns : List Int, (fpc ns).length ≤ 4 * ns.length
  | [] => by simp [fpc]
  | n :: ns => by
    have ih := fpc_len ns
    have := pcs_len ⟨ixB n, ixB_lt n⟩
    show (pcs (ixB n) ++ fpc ns).length ≤ _
    rw [List.length_append, List.length_cons]; simp only at this; omega
theorem fpc_take {ns : List Int} {k : Nat} (h : k < ns.length) : fpc (ns.take (k + 1)) = fpc (ns.take k) ++ pcs (ixB ns[k]) := by
  unfold fpc
  rw [List.take_succ_eq_append_getElem h, List.flatMap_append]; simp
/-- the array of the pieces -/
def pcCells : Array Value := #[.string ⟨#[]⟩, .string ⟨#[97, 116, 32]⟩, .string ⟨#[37, 106, 32]⟩, .string ⟨#[37, 97, 44, 32]⟩, .string ⟨#[37, 117]⟩, .string ⟨#[46]⟩, .string ⟨#[37, 37]⟩, .string ⟨#[37, 121, 45]⟩, .string ⟨#[37, 98, 37, 100]⟩, .string ⟨#[37, 72, 37, 77]⟩]
theorem pc_cell {W : World} {B : Nat} {t : TypeId} (h : W.heap[B]? = some (.cells pcCells t (0, 0))) (k : Nat) (hk : k < 10) : W.cell? ⟨B, k, none⟩ = some (.string (mkB (pcs k))) := by
  rw [cell_of_row _ _ _ _ _ _ h]
  match k, hk with
  | 0, _ => rfl
  | 1, _ => rfl
  | 2, _ => rfl
  | 3, _ => rfl
  | 4, _ => rfl
  | 5, _ => rfl
  | 6, _ => rfl
  | 7, _ => rfl
  | 8, _ => rfl
  | 9, _ => rfl
theorem mkB_size' (l : List UInt8) : (mkB l).size = l.length := by unfold mkB; show l.toArray.size = _; simp
theorem dText_fits {X : DMo} (hg : X.good) (h t : List Int) (hl : h.length + t.length ≤ 20) : (dText X (bkP h t)).length ≤ 60000 := by
  have h1 := dText_len hg (bkP h t)
  have h2 := dParse_len _ _ (Nat.le_refl _) _ (bk_parse h t)
  have h3 : (bkF h t).length ≤ 100 := by
    have a := fpc_len h
    have b := fpc_len t
    unfold bkF
    rw [List.length_append, List.length_append]
    simp only [List.length_cons, List.length_nil]; omega
  omega
end Go.Pw
namespace Go.Proofs.YtifpmigghplmoaaGreatDoor
open Go.RowKit Go.Pw
set_option maxHeartbeats 8000000 in
set_option maxRecDepth 100000 in
theorem dateReadsBack_any (t : Int) (hv tv : Value) (hl tl : List Int) (w : World) (h0 : -9223372036854775808 ≤ t ∧ t ≤ 9223372036854775807) (hh : Rd w 1 hv hl.length (hl.map (Value.int .i64))) (ht : Rd w 1 tv tl.length (tl.map (Value.int .i64))) (hh1 : hl.length ≤ 140737488355328) (ht1 : tl.length ≤ 140737488355328) (hT : PowTab w) (hA : SpTab w) :
    Calls Tryz.prog 4 #[.int .i64 t, hv, tv] w fun e w' => e = .returned (.bool true) ∧ Below w.heap.size w w' := by
  have HT := hide hT
  have HA := hide hA
  obtain ⟨_, A1, cap1, rfl, hcap1, hmax1, hx1⟩ := hh
  obtain ⟨_, A2, cap2, rfl, hcap2, hmax2, hx2⟩ := ht
  have HX1 := hide hx1
  have HX2 := hide hx2
  unfold maxLen at hmax1 hmax2
  clear hx1 hx2 hT hA
  have u1 : IntKind.i64.wrap ((hl.length : Int) + (tl.length : Int)) = (hl.length : Int) + (tl.length : Int) := IntWalk.i64_in _ (by omega)
  by_cases hbig : 20 < hl.length + tl.length
  · have hb : (20 : Int) < (hl.length : Int) + (tl.length : Int) := by omega
    go_enter Tryz.func4, Tryz.ntmps4
    go_wp2_with fail
    refine (sorts_any _).mono ?_
    rintro e w3 ⟨rfl, hb3⟩
    have HB3 : Hid (Below w.heap.size w w3) := hide (((Below.refl _ _).alloc (Nat.le_refl _) _).trans (hb3.mono (by simp)))
    clear hb3
    go_wp2_with fail
    go_ret
    exact ⟨rfl, HB3.out⟩
  · have hb : ¬ (20 : Int) < (hl.length : Int) + (tl.length : Int) := by omega
    have HROW : Hid ((w.alloc (.cells pcCells 28)).heap[w.heap.size]? = some (.cells pcCells 28 (0, 0))) := hide (heap_alloc_new w _)
    have HBA : Hid (Below w.heap.size w (w.alloc (.cells pcCells 28))) := hide ((Below.refl _ _).alloc (Nat.le_refl _) _)
    go_enter Tryz.func4, Tryz.ntmps4
    go_wp2_with fail
    obtain ⟨w1, hw1⟩ : ∃ w1, w.alloc (.cells pcCells 28) = w1 := ⟨_, rfl⟩
    rw [hw1] at HROW HBA
    have hw2 : w.alloc (.cells #[.string ⟨#[]⟩, .string ⟨#[97, 116, 32]⟩, .string ⟨#[37, 106, 32]⟩, .string ⟨#[37, 97, 44, 32]⟩, .string ⟨#[37, 117]⟩, .string ⟨#[46]⟩, .string ⟨#[37, 37]⟩, .string ⟨#[37, 121, 45]⟩, .string ⟨#[37, 98, 37, 100]⟩, .string ⟨#[37, 72, 37, 77]⟩] 28) = w1 := hw1
    rw [hw2]
    have HZ1 : Hid (w.heap.size ≤ w1.heap.size) := hide HBA.out.size
    have HZ2 : Hid (w.heap.size < w1.heap.size) := hide (by rw [← hw1]; simp)
    clear hw1 hw2
    have HPL1 : Hid (([] : List UInt8).length ≤ 100) := hide (by simp)
    go_loopw [8, 28] (fun v i wr => ∃ k : Nat, k ≤ hl.length ∧ i = .int .i64 (k : Int) ∧ v = .string (mkB ([] ++ fpc (hl.take k))) ∧ Hid (Below w1.heap.size w1 wr)) (fun _ i _ => hl.length - (intOf i).toNat)
    case atStart => exact ⟨0, by omega, rfl, by first | (simp [fpc, mkB]; done) | rfl, hide (Below.refl _ _)⟩
    case round =>
      obtain ⟨k, hk, rfl, rfl, HB⟩ := hrel
      by_cases hlt : k < hl.length
      · obtain ⟨b1, o1, rfl, hb1, hj1⟩ := HX1.out (by omega)
        have c1 : wr.cell? ⟨b1, o1 + k, none⟩ = some (.int .i64 hl[k]) := (HB.out.cell (p := ⟨b1, o1 + k, none⟩) (Nat.lt_of_lt_of_le hb1 HZ1.out)).trans ((HBA.out.cell (p := ⟨b1, o1 + k, none⟩) hb1).trans (hj1 k _ (by simp [hlt])))
        have HNX := hide (fpc_take hlt)
        have hlen := fpc_len (hl.take k)
        have hpl : (pcs (ixB hl[k])).length ≤ 4 := pcs_len ⟨ixB hl[k], ixB_lt _⟩
        have htk : (hl.take k).length ≤ 20 := by rw [List.length_take]; omega
        obtain ⟨n, hn⟩ : ∃ n, hl[k] = n := ⟨_, rfl⟩
        rw [hn] at c1 HNX hpl
        have hix := ixB_lt n
        have HIX : Hid (((ixB n : Nat) : Int) = n % 18446744073709551616 % 10) := hide (by unfold ixB; omega)
        obtain ⟨x, hx⟩ : ∃ x, ixB n = x := ⟨_, rfl⟩
        rw [hx] at HNX hpl hix HIX
        have hcell := pc_cell HROW.out x hix
        have c2 : wr.cell? ⟨w.heap.size, x, none⟩ = some (.string (mkB (pcs x))) := (HB.out.cell (p := ⟨w.heap.size, x, none⟩) HZ2.out).trans hcell
        have e1 : IntKind.u64.wrap n = n % 18446744073709551616 := rfl
        have e2 : (n % 18446744073709551616) % 10 = (x : Int) := HIX.out.symm
        have x0 : (0 : Int) ≤ (x : Int) := by omega
        have x1 : (x : Int) < 10 := by omega
        have HMK : Hid (mkB ([] ++ fpc (hl.take (k + 1))) = mkB ([] ++ fpc (hl.take k)) ++ mkB (pcs x)) := hide (by rw [HNX.out, mkB_app']; (congr 1 <;> simp only [List.append_assoc]))
        have hs1 : (mkB ([] ++ fpc (hl.take k))).size ≤ 1000 := by rw [mkB_size', List.length_append]; have := HPL1.out; omega
        have hs2 : (mkB (pcs x)).size ≤ 4 := by rw [mkB_size']; exact hpl
        have hs3 : ¬ (9223372036854775807 < (mkB ([] ++ fpc (hl.take k))).size + (mkB (pcs x)).size) := by omega
        obtain ⟨q1, hq1⟩ : ∃ q, mkB ([] ++ fpc (hl.take k)) = q := ⟨_, rfl⟩
        obtain ⟨q2, hq2⟩ : ∃ q, mkB (pcs x) = q := ⟨_, rfl⟩
        rw [hq1] at HMK hs1 hs3 ⊢
        rw [hq2] at HMK hs2 hs3 c2
        clear hcell hj1 hn hx hq1 hq2 HIX
        go_wp2_with fail
        go_roundw
        case rel => exact ⟨k + 1, by omega, by go_num, by rw [HMK.out], HB⟩
        case measure => simp [intOf]; omega
      · obtain rfl : k = hl.length := by omega
        have hd : ¬ ((hl.length : Int) < (hl.length : Int)) := by omega
        rw [List.take_length]
        obtain ⟨q3, hq3⟩ : ∃ q, mkB ([] ++ fpc hl) = q := ⟨_, rfl⟩
        rw [hq3]
        have HQ3 : Hid (q3 ++ (⟨#[37, 70, 32, 37, 84]⟩ : ByteArray) = mkB (fpc hl ++ [37, 70, 32, 37, 84])) := hide (by rw [← hq3]; exact mkB_app' _ [37, 70, 32, 37, 84])
        have hs4 : q3.size ≤ 1000 := by rw [← hq3, mkB_size']; have := fpc_len hl; simp only [List.nil_append]; omega
        have hs5 : ¬ (9223372036854775807 < q3.size + 5) := by omega
        have HB0 := HB
        have HPL2 : Hid ((fpc hl ++ [37, 70, 32, 37, 84]).length ≤ 100) := hide (by have := fpc_len hl; rw [List.length_append]; simp only [List.length_cons, List.length_nil]; omega)
        clear hq3
        go_wp2_with fail
        rw [HQ3.out]
        go_loopw [8, 44] (fun v i wr => ∃ k : Nat, k ≤ tl.length ∧ i = .int .i64 (k : Int) ∧ v = .string (mkB (fpc hl ++ [37, 70, 32, 37, 84] ++ fpc (tl.take k))) ∧ Hid (Below w1.heap.size w1 wr)) (fun _ i _ => tl.length - (intOf i).toNat)
        case atStart => exact ⟨0, by omega, rfl, by first | (simp [fpc]; done) | rfl, HB0⟩
        case round =>
          obtain ⟨k, hk, rfl, rfl, HB⟩ := hrel
          by_cases hlt : k < tl.length
          · obtain ⟨b1, o1, rfl, hb1, hj1⟩ := HX2.out (by omega)
            have c1 : wr.cell? ⟨b1, o1 + k, none⟩ = some (.int .i64 tl[k]) := (HB.out.cell (p := ⟨b1, o1 + k, none⟩) (Nat.lt_of_lt_of_le hb1 HZ1.out)).trans ((HBA.out.cell (p := ⟨b1, o1 + k, none⟩) hb1).trans (hj1 k _ (by simp [hlt])))
            have HNX := hide (fpc_take hlt)
            have hlen := fpc_len (tl.take k)
            have hpl : (pcs (ixB tl[k])).length ≤ 4 := pcs_len ⟨ixB tl[k], ixB_lt _⟩
            have htk : (tl.take k).length ≤ 20 := by rw [List.length_take]; omega
            obtain ⟨n, hn⟩ : ∃ n, tl[k] = n := ⟨_, rfl⟩
            rw [hn] at c1 HNX hpl
            have hix := ixB_lt n
            have HIX : Hid (((ixB n : Nat) : Int) = n % 18446744073709551616 % 10) := hide (by unfold ixB; omega)
            obtain ⟨x, hx⟩ : ∃ x, ixB n = x := ⟨_, rfl⟩
            rw [hx] at HNX hpl hix HIX
            have hcell := pc_cell HROW.out x hix
            have c2 : wr.cell? ⟨w.heap.size, x, none⟩ = some (.string (mkB (pcs x))) := (HB.out.cell (p := ⟨w.heap.size, x, none⟩) HZ2.out).trans hcell
            have e1 : IntKind.u64.wrap n = n % 18446744073709551616 := rfl
            have e2 : (n % 18446744073709551616) % 10 = (x : Int) := HIX.out.symm
            have x0 : (0 : Int) ≤ (x : Int) := by omega
            have x1 : (x : Int) < 10 := by omega
            have HMK : Hid (mkB (fpc hl ++ [37, 70, 32, 37, 84] ++ fpc (tl.take (k + 1))) = mkB (fpc hl ++ [37, 70, 32, 37, 84] ++ fpc (tl.take k)) ++ mkB (pcs x)) := hide (by rw [HNX.out, mkB_app']; (congr 1 <;> simp only [List.append_assoc]))
            have hs1 : (mkB (fpc hl ++ [37, 70, 32, 37, 84] ++ fpc (tl.take k))).size ≤ 1000 := by rw [mkB_size', List.length_append]; have := HPL2.out; omega
            have hs2 : (mkB (pcs x)).size ≤ 4 := by rw [mkB_size']; exact hpl
            have hs3 : ¬ (9223372036854775807 < (mkB (fpc hl ++ [37, 70, 32, 37, 84] ++ fpc (tl.take k))).size + (mkB (pcs x)).size) := by omega
            obtain ⟨q1, hq1⟩ : ∃ q, mkB (fpc hl ++ [37, 70, 32, 37, 84] ++ fpc (tl.take k)) = q := ⟨_, rfl⟩
            obtain ⟨q2, hq2⟩ : ∃ q, mkB (pcs x) = q := ⟨_, rfl⟩
            rw [hq1] at HMK hs1 hs3 ⊢
            rw [hq2] at HMK hs2 hs3 c2
            clear hcell hj1 hn hx hq1 hq2 HIX
            go_wp2_with fail
            go_roundw
            case rel => exact ⟨k + 1, by omega, by go_num, by rw [HMK.out], HB⟩
            case measure => simp [intOf]; omega
          · obtain rfl : k = tl.length := by omega
            have hd : ¬ ((tl.length : Int) < (tl.length : Int)) := by omega
            rw [List.take_length]
            have HB2 := HB
            have HFM : Hid (mkB (fpc hl ++ [37, 70, 32, 37, 84] ++ fpc tl) = mkB (bkF hl tl)) := hide rfl
            rw [HFM.out]
            have HBW : Hid (Below w.heap.size w wr) := hide (HBA.out.trans (HB.out.mono HBA.out.size))
            have hF : (mkB (bkF hl tl)).size ≤ 200 := by
              rw [mkB_size']
              have a := fpc_len hl
              have b := fpc_len tl
              unfold bkF
              rw [List.length_append, List.length_append]
              simp only [List.length_cons, List.length_nil]; omega
            have hP : dParse (mkB (bkF hl tl)).data.toList = some (bkP hl tl) := by rw [mkB_data]; exact bk_parse hl tl
            cases hin : dInB t with
            | false =>
              have HDT := hide (Date_range t (mkB (bkF hl tl)) wr hF (bkP hl tl) hP h0.1 h0.2 hin)
              obtain ⟨FF, hFF⟩ : ∃ q, mkB (bkF hl tl) = q := ⟨_, rfl⟩
              rw [hFF] at HDT ⊢
              clear hF hP hin hFF HFM
              go_wp2_with fail
              refine HDT.out.mono ?_
              rintro e w2 ⟨rfl, hb2⟩
              have HB3 := hide (HBW.out.trans (hb2.mono HBW.out.size))
              clear hb2
              go_wp2_with fail
              refine (sorts_any _).mono ?_
              rintro e w3 ⟨rfl, hb3⟩
              have HB4 := hide (HB3.out.trans (hb3.mono HB3.out.size))
              clear hb3
              go_wp2_with fail
              go_ret
              exact ⟨rfl, HB4.out⟩
            | true =>
              obtain ⟨n, r, y, m, d, hI⟩ := dis_ex h0.1 h0.2 hin
              have HDT := hide (Date_good t (mkB (bkF hl tl)) wr hF (bkP hl tl) hP hI (HT.out.below HBW.out) (HA.out.below HBW.out))
              have hbk := back_tH hI (bk_letters hl tl) (by unfold bkP; simp) (by unfold bkP; simp)
              have hfit := dText_fits hI.good hl tl (by omega)
              have hrd := reads_text hI.good (bkP hl tl) (bk_letters hl tl) [] []
              have HPD : Hid (∀ W, Below w.heap.size w W → Calls Tryz.prog 6 #[.string (mkB (dText (dMo n r t y m d) (bkP hl tl))), .string (mkB (bkF hl tl))] W fun e w' => e = .returned (.tuple #[.int .i64 t, .int .i64 0, .int .i64 0]) ∧ Below W.heap.size W w') := hide (fun W hb => by
                have hR : rdL (mkB (dText (dMo n r t y m d) (bkP hl tl))).data.toList (stepsOf (bkP hl tl)) 0 [] = .inr ((dText (dMo n r t y m d) (bkP hl tl)).length, itsOf (dMo n r t y m d) (bkP hl tl)) := by
                  rw [mkB_data]
                  simpa using hrd
                have h1 := PDate_any (mkB (dText (dMo n r t y m d) (bkP hl tl))) (mkB (bkF hl tl)) W hF (by rw [mkB_size']; omega) (bkP hl tl) hP _ hR (some (t, dMo n r t y m d)) (fun a its e => by
                  obtain ⟨rfl, rfl⟩ := Prod.mk.inj (Sum.inr.inj e)
                  exact hbk.1) (HT.out.below hb) (HA.out.below hb)
                have e : outV (mkB (dText (dMo n r t y m d) (bkP hl tl))).size (.inr ((dText (dMo n r t y m d) (bkP hl tl)).length, itsOf (dMo n r t y m d) (bkP hl tl))) (some (t, dMo n r t y m d)) = (t, 0, 0) := by
                  show (if _ < _ then _ else _) = _
                  rw [mkB_size', if_neg (by omega), hbk.2]
                rw [e] at h1
                exact h1)
              obtain ⟨FF, hFF⟩ : ∃ q, mkB (bkF hl tl) = q := ⟨_, rfl⟩
              obtain ⟨TX, hTX⟩ : ∃ q, mkB (dText (dMo n r t y m d) (bkP hl tl)) = q := ⟨_, rfl⟩
              rw [hFF] at HDT HPD ⊢
              rw [hTX] at HDT HPD
              clear hF hP hin hFF HFM hI hbk hfit hrd hTX
              go_wp2_with fail
              refine HDT.out.mono ?_
              rintro e w2 ⟨rfl, hb2⟩
              have HB3 := hide (HBW.out.trans (hb2.mono HBW.out.size))
              clear hb2
              go_wp2_with fail
              refine (HPD.out _ HB3.out).mono ?_
              rintro e w3 ⟨rfl, hb3⟩
              have HB4 := hide (HB3.out.trans (hb3.mono HB3.out.size))
              clear hb3
              go_wp2_with fail
              refine (sorts_any _).mono ?_
              rintro e w4 ⟨rfl, hb4⟩
              have HB5 := hide (HB4.out.trans (hb4.mono HB4.out.size))
              clear hb4
              have e1 : (t == t) = true := by simp
              go_wp2_with fail
              go_ret
              exact ⟨rfl, HB5.out⟩
end Go.Proofs.YtifpmigghplmoaaGreatDoor
