/- The reference's natMul. -/
import Derived.Test.YtinpgnekjebipaaDoorSmP
import Derived.Test.YtinpgnekjebipaaDoorDecW
import Derived.BigRegion
set_option linter.unusedVariables false
set_option linter.unusedSimpArgs false
namespace Go.Proofs.YtinpgnekjebipaaDoor
open Go.RowKit Go.Pw
def natVs (l : List Nat) : List Value := l.map fun s : Nat => Value.int .i64 (s : Int)
/-- numbers that are made -/
def NatsAt (w : World) (O : Nat) (r : List Nat) : Prop := w.heap[O]? = some (.cells (natVs r).toArray 3 (0, 0))
theorem NatsAt.lt {w : World} {O : Nat} {r : List Nat} (h : NatsAt w O r) : O < w.heap.size := (Array.getElem?_eq_some_iff.1 h).1
theorem NatsAt.below {w w' : World} {O : Nat} {r : List Nat} (h : NatsAt w O r) (hb : Below w.heap.size w w') : NatsAt w' O r := (hb.block O h.lt).trans h
theorem NatsAt.set {w : World} {O : Nat} {r : List Nat} (h : NatsAt w O r) (s x : Nat) : NatsAt (w.setCell ⟨O, s, none⟩ (.int .i64 (x : Int))) O (r.set s x) := by
  unfold NatsAt at h ⊢
  have e : natVs (r.set s x) = (natVs r).set s (.int .i64 (x : Int)) := by simp [natVs, List.map_set]
  rw [e]
  simp [World.setCell, Array.getElem?_modify, h]
theorem NatsAt.cells {w : World} {O : Nat} {r : List Nat} (h : NatsAt w O r) {s x : Nat} (hs : r[s]? = some x) : w.cell? ⟨O, s, none⟩ = some (.int .i64 (x : Int)) ∧ w.frozen? ⟨O, s, none⟩ = false := by
  unfold NatsAt at h
  obtain ⟨hl, rfl⟩ := List.getElem?_eq_some_iff.1 hs
  refine ⟨?_, by simp [World.frozen?, h]⟩
  simp [World.cell?, h, natVs, hl]
theorem natsAt_made (w : World) (n : Nat) : NatsAt (w.alloc (.cells (madeCells #[.int .i64 0] n) 3)) w.heap.size (List.replicate n 0) := by
  unfold NatsAt
  have : madeCells #[Value.int .i64 0] n = (natVs (List.replicate n 0)).toArray := by
    apply Array.ext
    · simp [madeCells, natVs]
    · intro i h1 h2
      simp [madeCells, natVs, Nat.mod_one]
  rw [this]
  exact heap_alloc_new _ _
theorem infoI : (Tryd.prog.info? 3).map (fun i => (i.zero, i.size, i.bytes)) = some (some (.int .i64 0), 1, 8) := by kernel_rfl
set_option maxHeartbeats 8000000 in
set_option maxRecDepth 100000 in
theorem natMul_any (a b : ByteArray) (w : World) (ha : DigL a.data.toList) (hb : DigL b.data.toList) (hsa : a.size ≤ 1000) (hsb : b.size ≤ 1000) :
    Calls Tryd.prog 80 #[.string a, .string b] w fun e w' => NumR (valL a.data.toList * valL b.data.toList) e ∧ Below w.heap.size w w' := by
  have la := len_size a
  have lb := len_size b
  have HLT : Hid (valL a.data.toList * valL b.data.toList < 10 ^ (a.size + b.size)) := hide (by have := mul_lt_ten ha hb; rw [la, lb] at this; exact this)
  have HDA := hide ha
  have HDB := hide hb
  obtain ⟨n, hn⟩ : ∃ n, a.size + b.size = n := ⟨_, rfl⟩
  have hni : (a.size : Int) + (b.size : Int) = (n : Int) := by omega
  have hn1 : n ≤ 2000 := by omega
  have hR := natsAt_made w n
  have HR0 := hide hR
  have HB0 := hide ((Below.refl w.heap.size w).alloc (Nat.le_refl _) (.cells (madeCells #[.int .i64 0] n) 3))
  have hA0 := MulAt.start a.data.toList b.data.toList
  rw [la, lb, hn] at hA0
  have HA0 := hide hA0
  have hmk := run_make_row' (P := Tryd.prog) 120 3 (.int .i64 0) 8 Tryd.underlying120 infoI rfl .i64 .i64 n (by omega) (by omega)
  have HLA := hide la
  have HLB := hide lb
  have HN := hide hn
  clear hR hA0 ha hb la lb
  go_enter Tryd.func80, Tryd.ntmps80
  go_wp2_with fail
  clear hmk hni
  go_loopw [20] (fun iv wr => ∃ (i : Nat) (C : List Nat), i ≤ a.size ∧ iv = .int .i64 (i : Int) ∧ Hid (MulAt a.data.toList b.data.toList C i 0) ∧ Hid (NatsAt wr w.heap.size C) ∧ Hid (Below w.heap.size w wr)) (fun iv _ => a.size - (intOf iv).toNat)
  case atStart => exact ⟨0, _, by omega, rfl, HA0, HR0, HB0⟩
  case round =>
    obtain ⟨i, C, hi, rfl, HA, HR, HB⟩ := hrel
    by_cases hlt : i < a.size
    · have hd : (i : Int) < (a.size : Int) := by omega
      have hdx := dig_at HDA.out hlt
      have hax : a.data.toList[i]? = some a[i] := by rw [List.getElem?_eq_getElem (by rw [HLA.out]; exact hlt)]; rfl
      obtain ⟨x, hx⟩ : ∃ x, a[i] = x := ⟨_, rfl⟩
      rw [hx] at hax hdx
      have HAX := hide hax
      clear hax
      go_wp2_with fail
      go_loopw [25] (fun kv wr => ∃ (k : Nat) (C : List Nat), k ≤ b.size ∧ kv = .int .i64 (k : Int) ∧ Hid (MulAt a.data.toList b.data.toList C i k) ∧ Hid (NatsAt wr w.heap.size C) ∧ Hid (Below w.heap.size w wr)) (fun kv _ => b.size - (intOf kv).toNat)
      case atStart => exact ⟨0, C, by omega, rfl, HA, HR, HB⟩
      case round =>
        clear HA HR HB C
        obtain ⟨k, C, hk, rfl, HA, HR, HB⟩ := hrel
        by_cases hkl : k < b.size
        · have hdk : (k : Int) < (b.size : Int) := by omega
          have hdy := dig_at HDB.out hkl
          have hby : b.data.toList[k]? = some b[k] := by rw [List.getElem?_eq_getElem (by rw [HLB.out]; exact hkl)]; rfl
          obtain ⟨y, hy⟩ : ∃ y, b[k] = y := ⟨_, rfl⟩
          rw [hy] at hby hdy
          obtain ⟨j, hj⟩ : ∃ j, i + k + 1 = j := ⟨_, rfl⟩
          have hN := HN.out
          have hlen := HA.out.len
          rw [HLA.out, HLB.out] at hlen
          obtain ⟨c, hc⟩ : ∃ c, C[j]? = some c := ⟨_, List.getElem?_eq_getElem (by omega)⟩
          obtain ⟨cc, cf⟩ := HR.out.cells hc
          have hcb : c ≤ 81000000 := by
            have h1 := HA.out.le c (List.mem_of_getElem? hc)
            rw [HLB.out] at h1
            have h2 : i * b.size ≤ 999 * 1000 := Nat.mul_le_mul (by omega) hsb
            omega
          obtain ⟨X, hX⟩ : ∃ X : Nat, x.toNat - 48 = X := ⟨_, rfl⟩
          obtain ⟨Y, hY⟩ : ∃ Y : Nat, y.toNat - 48 = Y := ⟨_, rfl⟩
          obtain ⟨Z, hZ⟩ : ∃ Z : Nat, X * Y = Z := ⟨_, rfl⟩
          have hz : Z ≤ 9 * 9 := by rw [← hZ]; exact Nat.mul_le_mul (by omega) (by omega)
          have HSN := hide (HA.out.step HAX.out hby (by rw [hj]; exact hc) ⟨by omega, by omega⟩)
          rw [hX, hY, hZ, hj] at HSN
          have HRN := hide (HR.out.set j (c + Z))
          have HBN := hide (HB.out.setCell (p := ⟨w.heap.size, j, none⟩) (by simp) (.int .i64 ((c + Z : Nat) : Int)))
          have w1 : IntKind.u8.wrap ((x.toNat : Int) - 48) = (X : Int) := by rw [IntWalk.u8_in _ (by omega)]; omega
          have w2 : IntKind.u8.wrap ((y.toNat : Int) - 48) = (Y : Int) := by rw [IntWalk.u8_in _ (by omega)]; omega
          have w3 : IntKind.i64.wrap ((X : Int) * (Y : Int)) = (Z : Int) := by rw [show (X : Int) * (Y : Int) = (Z : Int) by rw [← hZ]; exact (Int.natCast_mul _ _).symm]; exact IntWalk.i64_in _ (by omega)
          have w4 : IntKind.i64.wrap ((c : Int) + (Z : Int)) = ((c + Z : Nat) : Int) := by rw [IntWalk.i64_in _ (by omega)]; omega
          have w5 : IntKind.i64.wrap ((i : Int) + (k : Int)) = (i : Int) + (k : Int) := IntWalk.i64_in _ (by omega)
          have w6 : IntKind.i64.wrap ((i : Int) + (k : Int) + 1) = (j : Int) := by rw [IntWalk.i64_in _ (by omega)]; omega
          have w7 : IntKind.i64.wrap (X : Int) = (X : Int) := IntWalk.i64_in _ (by omega)
          have w8 : IntKind.i64.wrap (Y : Int) = (Y : Int) := IntWalk.i64_in _ (by omega)
          have j0 : (0 : Int) ≤ (j : Int) := by omega
          have j1 : (j : Int) < (n : Int) := by omega
          clear hby hc hlen hdy hX hY hZ hj
          go_wp2_with fail
          go_region
          all_goals
            go_wp2_with fail
            go_roundw
            case rel => exact ⟨k + 1, C.set j (c + Z), by omega, by go_num, HSN, by exact HRN.out, hide (by exact HBN.out.drew)⟩
            case measure => simp [intOf]; omega
        · obtain rfl : k = b.size := by omega
          have hnx := HA.out
          rw [← HLB.out] at hnx
          have HNX := hide (hnx.next (by rw [HLA.out]; exact hlt))
          clear hnx
          go_wp2_with fail
          go_roundw
          case rel => exact ⟨i + 1, C, by omega, by go_num, HNX, HR, HB⟩
          case measure => simp [intOf]; omega
    · obtain rfl : i = a.size := by omega
      have hm := HA.out
      have hlen := hm.len
      rw [HLA.out, HLB.out, HN.out] at hlen
      have HV : Hid (valN C = valL a.data.toList * valL b.data.toList) := hide (by rw [← HLA.out] at hm; exact hm.done)
      have HCM : Hid (∀ c ∈ C, c ≤ 81000000) := hide (fun c hc => by
        have h1 := hm.le c hc
        have h2 : a.size * b.data.toList.length ≤ 1000 * 1000 := Nat.mul_le_mul hsa (by rw [HLB.out]; exact hsb)
        omega)
      have HCL := hide hlen
      have hR2 := rowB_made wr n 5
      have hmk2 := run_make_row' (P := Tryd.prog) 78 5 (.int .u8 0) 1 Tryd.underlying78 infoB rfl .i64 .i64 n (by omega) (by omega)
      have HQ0 := hide (CarAt.start (C := C) (O := List.replicate n 0) (M := 81000000) (n := n) hlen (by simp))
      have HRB0 := hide hR2
      obtain ⟨R, hRs⟩ : ∃ R, wr.heap.size = R := ⟨_, rfl⟩
      have hRw : w.heap.size < R := by rw [← hRs]; exact HR.out.lt
      have hbz := (Below.refl wr.heap.size wr).alloc (Nat.le_refl _) (.cells (madeCells #[.int .u8 0] n) 5)
      have HR2 := hide (HR.out.below hbz)
      have HB2 := hide (HB.out.trans (hbz.mono HB.out.size))
      rw [hRs] at HRB0
      clear hm hlen hR2 hbz
      go_wp2_with fail
      clear hmk2
      go_loopw [9, 10] (fun cv iv wx => ∃ (i cr : Nat) (O : List UInt8), i ≤ n ∧ iv = .int .i64 ((i : Int) - 1) ∧ cv = .int .i64 (cr : Int) ∧ cr ≤ 81000000 ∧ Hid (CarAt C O cr 81000000 n i) ∧ Hid (RowB wx R O) ∧ Hid (NatsAt wx w.heap.size C) ∧ Hid (Below w.heap.size w wx)) (fun _ iv _ => (intOf iv + 1).toNat)
      case atStart => exact ⟨n, 0, _, Nat.le_refl _, by go_num, rfl, by omega, HQ0, HRB0, HR2, HB2⟩
      case round =>
        clear HR2 HB2 HRB0 HQ0 HR HB HA
        obtain ⟨i, cr, O, hi, rfl, rfl, hcr, HQ, HRB, HR, HB⟩ := hrel
        rcases Nat.eq_zero_or_pos i with h0 | h0
        · subst h0
          have hdn := HQ.out.done (by rw [HV.out, ← HN.out]; exact HLT.out)
          rw [HV.out] at hdn
          have hst := strip_val O hdn.1
          have hOl := HQ.out.len
          have hback : (convert 78 9 (.slice (some ⟨R, 0, none⟩) n n)).run Tryd.prog wr = .ok (.string (mkB O)) wr := by
            have := run_convert_bytes_back (P := Tryd.prog) wr 78 9 5 ⟨R, 0, none⟩ n O Tryd.underlying78 Tryd.underlying5 Tryd.underlying9 (fun j hj => by
              have := (HRB.out.2 j _ (List.getElem?_eq_getElem hj)).1
              have ea : Addr.add ⟨R, 0, none⟩ j = ⟨R, j, none⟩ := by
                unfold Addr.add; split
                · rename_i h; rw [h]
                · simp
              rw [ea]; exact this)
            rw [hOl] at this
            exact this
          have HST : Hid (NumR (valL a.data.toList * valL b.data.toList) (.returned (.string (mkB ((mkB O).data.toList.dropWhile (· == 48)))))) := hide ⟨_, rfl, hst.1, by rw [← hdn.2]; exact hst.2⟩
          clear hdn hst hOl
          go_wp2_with fail
          refine (plainD_any _ _).mono ?_
          rintro e w' ⟨rfl, rfl⟩
          go_wp2_with fail
          go_ret
          exact ⟨HST.out, HB.out⟩
        · obtain ⟨j, rfl⟩ : ∃ j, i = j + 1 := ⟨i - 1, by omega⟩
          have hji : ((j + 1 : Nat) : Int) - 1 = (j : Int) := by omega
          rw [hji]
          have hC := HCL.out
          obtain ⟨c, hc⟩ : ∃ c, C[j]? = some c := ⟨_, List.getElem?_eq_getElem (by omega)⟩
          obtain ⟨cc, cf⟩ := HR.out.cells hc
          have hcM := HCM.out c (List.mem_of_getElem? hc)
          have hOl := HQ.out.len
          obtain ⟨o, ho⟩ : ∃ o, O[j]? = some o := ⟨_, List.getElem?_eq_getElem (by omega)⟩
          obtain ⟨oc, of⟩ := HRB.out.2 j o ho
          obtain ⟨d, hd1, hd2, hd3⟩ := digit_of (x := ((c : Int) + (cr : Int)) % 10) (by omega) (by omega)
          have HSN := hide (HQ.out.step (c := d) (by omega) hc hcM (by omega))
          have HRN := hide (HRB.out.set (k := j) (by omega) d)
          have hne : R ≠ w.heap.size := by omega
          have HN2 : Hid (NatsAt (wr.setCell ⟨R, j, none⟩ (.int .u8 (d.toNat : Int))) w.heap.size C) := hide ((heap_setCell_other _ _ _ _ (by show w.heap.size ≠ R; omega)).trans HR.out)
          have HB3 := hide (HB.out.setCell (p := ⟨R, j, none⟩) (by show w.heap.size ≤ R; omega) (.int .u8 (d.toNat : Int)))
          rw [hd1] at HRN HN2 HB3
          obtain ⟨dc, hdc⟩ : ∃ dc : Nat, ((c : Int) + (cr : Int)) / 10 = (dc : Int) := ⟨(((c : Int) + (cr : Int)) / 10).toNat, by omega⟩
          have hdcN : (c + cr) / 10 = dc := by omega
          rw [hdcN] at HSN
          have hdcb : dc ≤ 81000000 := by omega
          have HDC := hide hdc
          have j0 : (0 : Int) ≤ (j : Int) := by omega
          have j1 : (j : Int) < (n : Int) := by omega
          clear hc ho hOl hC hd1 hd2 hd3 hdc hdcN hji
          go_wp2_with fail
          go_roundw
          case rel => exact ⟨j, dc, O.set j d, by omega, by go_num, by rw [HDC.out], by omega, HSN, HRN, HN2, HB3⟩
          case measure => simp [intOf]
end Go.Proofs.YtinpgnekjebipaaDoor
