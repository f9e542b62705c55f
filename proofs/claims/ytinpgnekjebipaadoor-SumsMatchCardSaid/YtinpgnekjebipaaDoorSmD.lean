/- The reference's natDiv, DecInt and prime. -/
import Derived.Test.YtinpgnekjebipaaDoorSmM
import Derived.Test.YtinpgnekjebipaaDoorSmQ
set_option linter.unusedVariables false
set_option linter.unusedSimpArgs false
namespace Go.Pw
open Go.RowKit
theorem canon_nil : Canon [] := ⟨fun c hc => by simp at hc, fun h => by simp at h⟩
theorem canon_size {a b : List UInt8} (ha : Canon a) (hb : Canon b) (h : valL a ≤ valL b) : a.length ≤ b.length := by
  apply Nat.le_of_not_lt
  intro hl
  have := canon_len hb ha hl
  omega
/-- a long division, so far -/
structure DivAt (A B : List UInt8) (Q : List UInt8) (r : List UInt8) (i : Nat) : Prop where
  len : Q.length = A.length
  dig : DigL (Q.take i)
  can : Canon r
  lt : valL r < valL B
  val : valL (Q.take i) * valL B + valL r = valL (A.take i)
theorem DivAt.start {A B : List UInt8} {Q : List UInt8} (hQ : Q.length = A.length) (hB : 0 < valL B) : DivAt A B Q [] 0 :=
  ⟨hQ, fun c hc => by simp at hc, canon_nil, hB, by simp [valL]⟩
theorem DivAt.step {A B Q r s : List UInt8} {i m : Nat} {a c : UInt8} (h : DivAt A B Q r i) (ha : A[i]? = some a) (hs : Canon s) (hlt : valL s < valL B) (hm : valL s + m * valL B = valL r * 10 + (a.toNat - 48)) (h9 : m ≤ 9) (hc : c.toNat = 48 + m) : DivAt A B (Q.set i c) s (i + 1) := by
  have hi := (List.getElem?_eq_some_iff.1 ha).1
  have hl := h.len
  have e : (Q.set i c).take (i + 1) = Q.take i ++ [c] := by
    rw [List.take_succ_eq_append_getElem (by rw [List.length_set]; omega), List.getElem_set_self, List.take_set_of_le (Nat.le_refl _)]
  refine ⟨by rw [List.length_set]; exact hl, ?_, hs, hlt, ?_⟩
  · rw [e]
    intro x hx
    rcases List.mem_append.1 hx with hx | hx
    · exact h.dig x hx
    · obtain rfl := List.mem_singleton.1 hx
      omega
  · rw [e, valL_append, valL_take_succ ha, ← h.val]
    simp only [valL, List.length_singleton, List.length_nil, Nat.pow_one, Nat.pow_zero, Nat.mul_one, Nat.add_zero, hc, Nat.add_sub_cancel_left]
    have e2 : (valL (Q.take i) * 10 + m) * valL B = valL (Q.take i) * valL B * 10 + m * valL B := by
      rw [Nat.add_mul]; congr 1; ac_rfl
    rw [e2]
    omega
theorem digit_nine {r b m d s : Nat} (h : r < b) (hs : s + m * b = r * 10 + d) (hd : d ≤ 9) : m ≤ 9 := by
  apply Nat.le_of_not_lt
  intro hm
  have h1 : 10 * b ≤ m * b := Nat.mul_le_mul_right _ hm
  omega
/-- the digits of a number -/
def natS (n : Nat) : List UInt8 := if h : n = 0 then [] else natS (n / 10) ++ [UInt8.ofNat (48 + n % 10)]
theorem natS_dig : ∀ n, DigL (natS n) ∧ valL (natS n) = n := by
  intro n
  induction n using Nat.strongRecOn with
  | _ n ih =>
    by_cases h : n = 0
    · subst h
      unfold natS
      exact ⟨by intro c hc; simp at hc, by simp [valL]⟩
    · obtain ⟨h1, h2⟩ := ih (n / 10) (by omega)
      rw [natS, dif_neg h]
      have e : (UInt8.ofNat (48 + n % 10)).toNat = 48 + n % 10 := by rw [UInt8.toNat_ofNat']; omega
      refine ⟨fun c hc => ?_, ?_⟩
      · rcases List.mem_append.1 hc with hc | hc
        · exact h1 c hc
        · obtain rfl := List.mem_singleton.1 hc
          rw [e]; omega
      · rw [valL_append, h2]
        simp only [valL, List.length_singleton, List.length_nil, Nat.pow_one, Nat.pow_zero, Nat.mul_one, Nat.add_zero, e]
        omega
theorem natS_len : ∀ (k n : Nat), n < 10 ^ k → (natS n).length ≤ k
  | 0, n, h => by
    obtain rfl : n = 0 := by simpa using h
    unfold natS; simp
  | k + 1, n, h => by
    by_cases h0 : n = 0
    · subst h0; unfold natS; simp
    · rw [natS, dif_neg h0, List.length_append]
      have := natS_len k (n / 10) (by rw [Nat.pow_succ] at h; omega)
      simp; omega
end Go.Pw
namespace Go.Proofs.YtinpgnekjebipaaDoor
open Go.RowKit Go.Pw
set_option maxHeartbeats 4000000 in
theorem prime_any (n : Nat) (w : World) (hn : n ≤ 1000000) : Calls Tryd.prog 42 #[.int .i64 (n : Int)] w fun e w' => e = .returned (.bool (prB n)) ∧ w = w' := by
  go_enter Tryd.func42, Tryd.ntmps42
  go_wp2_with fail
  go_loop [3] (fun dv => ∃ d : Nat, dv = .int .i64 (d : Int) ∧ 2 ≤ d ∧ d ≤ n + 2 ∧ Hid (∀ e, 2 ≤ e → e < d → n % e ≠ 0)) (fun dv => n + 3 - (intOf dv).toNat)
  case atStart => exact ⟨2, rfl, by omega, by omega, hide (fun e h1 h2 => by omega)⟩
  case round =>
    obtain ⟨d, rfl, hd2, hdn, HE⟩ := hrel
    have hsq : d * d ≤ 1000002 * 1000002 := Nat.mul_le_mul (by omega) (by omega)
    obtain ⟨q, hq⟩ : ∃ q, d * d = q := ⟨_, rfl⟩
    rw [hq] at hsq
    have w1 : IntKind.i64.wrap ((d : Int) * (d : Int)) = (q : Int) := by
      rw [show (d : Int) * (d : Int) = (q : Int) by rw [← hq]; exact (Int.natCast_mul _ _).symm]
      exact IntWalk.i64_in _ (by omega)
    by_cases hle : q ≤ n
    · have h1 : (q : Int) ≤ (n : Int) := by omega
      have hdlt : d ≤ n := by
        have : d * 1 ≤ d * d := Nat.mul_le_mul_left _ (by omega)
        omega
      have hmod : ((n : Int) % (d : Int)) = ((n % d : Nat) : Int) := rfl
      by_cases hm : n % d = 0
      · have HP := hide (prB_no hd2 (by omega) hm)
        have hz : (((n : Int) % (d : Int)) == 0) = true := by rw [hmod, hm]; rfl
        go_wp2_with fail
        go_ret
        exact ⟨by rw [HP.out]; rfl, rfl⟩
      · have hz : (((n : Int) % (d : Int)) == 0) = false := by rw [hmod]; simp; omega
        have HE2 : Hid (∀ e, 2 ≤ e → e < d + 1 → n % e ≠ 0) := hide (fun e h1 h2 => by
          rcases Nat.lt_or_ge e d with h | h
          · exact HE.out e h1 h
          · obtain rfl : e = d := by omega
            exact hm)
        clear hmod
        go_wp2_with fail
        go_round
        case rel => exact ⟨d + 1, by go_num, by omega, by omega, HE2⟩
        case measure => simp [intOf]; omega
    · have h1 : ¬ (q : Int) ≤ (n : Int) := by omega
      have HP := hide (prB_yes hd2 HE.out (by omega))
      by_cases hn1 : 1 < n
      · have h2 : (1 : Int) < (n : Int) := by omega
        have HQ : Hid (prB n = true) := hide (by rw [HP.out]; simpa using hn1)
        go_wp2_with fail
        go_ret
        exact ⟨by rw [HQ.out]; rfl, rfl⟩
      · have h2 : ¬ (1 : Int) < (n : Int) := by omega
        have HQ : Hid (prB n = false) := hide (by rw [HP.out]; simpa using hn1)
        have h3 : decide ((1 : Int) < (n : Int)) = false := by simpa using h2
        go_wp2_with fail
        go_ret
        exact ⟨by rw [HQ.out]; rfl, rfl⟩
theorem one_byte (w : World) (c : UInt8) (x : Int) (hx : (c.toNat : Int) = x) : (convert 78 9 (.slice (some ⟨w.heap.size, 0, none⟩) 1 1)).run Tryd.prog (w.alloc (.cells #[.int .u8 x] 5)) = .ok (.string (mkB [c])) (w.alloc (.cells #[.int .u8 x] 5)) := by
  subst hx
  exact run_convert_bytes_back (P := Tryd.prog) (w.alloc (.cells #[.int .u8 (c.toNat : Int)] 5)) 78 9 5 ⟨w.heap.size, 0, none⟩ 1 [c] Tryd.underlying78 Tryd.underlying5 Tryd.underlying9 (fun j hj => by
    obtain rfl : j = 0 := by simpa using hj
    simp [Addr.add, World.cell?_alloc_new])
theorem heap_alloc_succ (w : World) (a b : Obj) : ((w.alloc a).alloc b).heap[w.heap.size + 1]? = some b := by
  have := heap_alloc_new (w.alloc a) b
  simpa using this
theorem _root_.Go.Pw.RowB.belowK {w w' : World} {b : Nat} {l : List UInt8} (h : RowB w b l) (hb : Below w.heap.size w w') : RowB w' b l :=
  ⟨Nat.lt_of_lt_of_le h.1 hb.size, fun j c hj => ⟨(hb.cell (p := ⟨b, j, none⟩) h.1).trans (h.2 j c hj).1, (hb.frozen (p := ⟨b, j, none⟩) h.1).trans (h.2 j c hj).2⟩⟩
/-- a block of a call's own -/
def AtB (w : World) (b : Nat) (cs : Array Value) (t : TypeId) : Prop := w.heap[b]? = some (.cells cs t (0, 0))
theorem AtB.below {w w' : World} {b : Nat} {cs : Array Value} {t : TypeId} (h : AtB w b cs t) (hb : Below w.heap.size w w') : AtB w' b cs t := (hb.block b (Array.getElem?_eq_some_iff.1 h).1).trans h
theorem AtB.cell {w : World} {b : Nat} {cs : Array Value} {t : TypeId} (h : AtB w b cs t) (j : Nat) : w.cell? ⟨b, j, none⟩ = cs[j]? ∧ w.frozen? ⟨b, j, none⟩ = false := by
  unfold AtB at h
  simp [World.cell?, World.frozen?, h]
theorem info_dec2 : (Tryd.prog.info? 98).map (·.size) = some 3 := by kernel_rfl
theorem info_dec : (Tryd.prog.info? 98).map (fun i => (i.zero, i.size, i.bytes)) = some (some (.agg #[.bool false, .string ⟨#[]⟩, .int .i64 0]), 3, 32) := by kernel_rfl
set_option maxHeartbeats 4000000 in
set_option maxRecDepth 100000 in
theorem decInt_any (n : Nat) (w : World) (hn : n ≤ 1000000) : Calls Tryd.prog 59 #[.int .i64 (n : Int)] w fun e w' => e = .returned (.agg #[.bool false, .string (mkB (natS n)), .int .i64 0]) ∧ Below w.heap.size w w' := by
  have hb0 := ((Below.refl w.heap.size w).alloc (Nat.le_refl _) (.cells #[.bool false, .string ⟨#[]⟩, .int .i64 0] 98)).alloc (by simp) (.cells #[.bool false, .string ⟨#[]⟩, .int .i64 0] 98)
  have hn0 : ¬ (n : Int) < 0 := by omega
  go_enter Tryd.func59, Tryd.ntmps59
  go_wp2_with fail
  go_loopw [0, 4] (fun nv sv wr => ∃ (m : Nat) (l : List UInt8), nv = .int .i64 (m : Int) ∧ sv = .string (mkB l) ∧ m ≤ n ∧ l.length ≤ 100 ∧ Hid (natS n = natS m ++ l) ∧ Hid (AtB wr (w.heap.size + 1) #[.bool false, .string ⟨#[]⟩, .int .i64 0] 98) ∧ Hid (AtB wr w.heap.size #[.bool false, .string ⟨#[]⟩, .int .i64 0] 98) ∧ Hid (Below w.heap.size w wr)) (fun nv _ _ => (intOf nv).toNat)
  case atStart =>
    refine ⟨n, [], rfl, rfl, Nat.le_refl _, by simp, hide (by simp), hide ?_, hide ?_, hide hb0⟩
    · exact heap_alloc_succ _ _ _
    · exact (heap_alloc_old _ _ (by simp)).trans (heap_alloc_new _ _)
  case round =>
    obtain ⟨m, l, rfl, rfl, hmn, hl, HE, H3, H2, HB⟩ := hrel
    have hll : l.length ≤ 7 := by
      have h1 := natS_len 7 n (Nat.lt_of_le_of_lt hn (by decide))
      rw [HE.out, List.length_append] at h1
      omega
    by_cases h0 : 0 < m
    · have h1 : (0 : Int) < (m : Int) := by omega
      obtain ⟨c, hc1, hc2, hc3⟩ := digit_of (x := (m : Int) % 10) (by omega) (by omega)
      have hcv := one_byte wr c _ hc1
      have HE2 : Hid (natS n = natS (m / 10) ++ ([c] ++ l)) := hide (by
        rw [HE.out, natS, dif_neg (by omega), List.append_assoc]
        congr 2
        congr 1
        apply byte_of
        rw [UInt8.toNat_ofNat']
        omega)
      have hsz : ¬ (9223372036854775807 < (mkB [c]).size + (mkB l).size) := by
        have : (mkB l).size = l.length := by simp [mkB, ByteArray.size]
        have h2 : (mkB [c]).size = 1 := rfl
        omega
      have happ := mkB_app' [c] l
      have hb1 := (Below.refl wr.heap.size wr).alloc (Nat.le_refl _) (.cells #[.int .u8 (48 + (m : Int) % 10)] 5)
      have H32 := hide (H3.out.below hb1)
      have H22 := hide (H2.out.below hb1)
      have HB2 := hide (HB.out.trans (hb1.mono HB.out.size))
      clear hc1 hc2 hc3 hb1
      go_wp2_with fail
      go_roundw
      case rel => exact ⟨m / 10, [c] ++ l, by go_num, by rw [← happ]; rfl, by omega, by simp; omega, HE2, H32, H22, HB2⟩
      case measure => simp [intOf]; omega
    · obtain rfl : m = 0 := by omega
      have HE2 : Hid (natS n = l) := hide (by rw [HE.out]; unfold natS; rfl)
      obtain ⟨⟨c30, f30⟩, ⟨c31, f31⟩, ⟨c32, f32⟩⟩ := (⟨H3.out.cell 0, H3.out.cell 1, H3.out.cell 2⟩ : _ ∧ _ ∧ _)
      obtain ⟨⟨c20, f20⟩, ⟨c21, f21⟩, ⟨c22, f22⟩⟩ := (⟨H2.out.cell 0, H2.out.cell 1, H2.out.cell 2⟩ : _ ∧ _ ∧ _)
      simp at c30 c31 c32 c20 c21 c22
      have HB3 := hide ((((HB.out.setCell (p := ⟨w.heap.size + 1, 1, none⟩) (by show w.heap.size ≤ w.heap.size + 1; omega) (.string (mkB l))).setCell (p := ⟨w.heap.size, 0, none⟩) (Nat.le_refl _) (.bool false)).setCell (p := ⟨w.heap.size, 1, none⟩) (Nat.le_refl _) (.string (mkB l))).setCell (p := ⟨w.heap.size, 2, none⟩) (Nat.le_refl _) (.int .i64 0))
      have hAt : AtB ((((wr.setCell ⟨w.heap.size + 1, 1, none⟩ (.string (mkB l))).setCell ⟨w.heap.size, 0, none⟩ (.bool false)).setCell ⟨w.heap.size, 1, none⟩ (.string (mkB l))).setCell ⟨w.heap.size, 2, none⟩ (.int .i64 0)) w.heap.size #[.bool false, .string (mkB l), .int .i64 0] 98 := by
        have h := H2.out
        unfold AtB at h ⊢
        simp [World.setCell, Array.getElem?_modify, h]
      have HAT := hide hAt
      clear hAt
      go_wp2_with fail
      refine bodyPost_ret (results_cell_row rfl _ _ w.heap.size 98 #[.bool false, .string (mkB l), .int .i64 0] (0, 0) _ rfl HAT.out Tryd.underlying98 rfl info_dec2) rfl ⟨by rw [HE2.out], HB3.out⟩
set_option maxHeartbeats 8000000 in
set_option maxRecDepth 100000 in
theorem natDiv_any (a b : ByteArray) (w : World) (ha : DigL a.data.toList) (hb : Canon b.data.toList) (hb0 : 0 < valL b.data.toList) (hsa : a.size ≤ 10000) (hsb : b.size ≤ 10000) :
    Calls Tryd.prog 61 #[.string a, .string b] w fun e w' => (∃ q r : ByteArray, e = .returned (.tuple #[.string q, .string r]) ∧ Canon q.data.toList ∧ Canon r.data.toList ∧ valL q.data.toList * valL b.data.toList + valL r.data.toList = valL a.data.toList ∧ valL r.data.toList < valL b.data.toList) ∧ Below w.heap.size w w' := by
  have la := len_size a
  have lb := len_size b
  obtain ⟨n, hn⟩ : ∃ n, a.size = n := ⟨_, rfl⟩
  have hR := rowB_made w a.size 5
  have hmk := run_make_row' (P := Tryd.prog) 78 5 (.int .u8 0) 1 Tryd.underlying78 infoB rfl .i64 .i64 a.size (by omega) (by omega)
  have HR0 := hide hR
  have HB0 := hide ((Below.refl w.heap.size w).alloc (Nat.le_refl _) (.cells (madeCells #[.int .u8 0] a.size) 5))
  have HA0 := hide (DivAt.start (A := a.data.toList) (B := b.data.toList) (Q := List.replicate a.size 0) (by simp [la]) hb0)
  have HDA := hide ha
  have HDB := hide hb
  have HLA := hide la
  have HLB := hide lb
  have HN := hide hn
  have hnI : (a.size : Int) = (n : Int) := by omega
  rw [hn] at HR0 HB0 HA0 hmk
  clear hR la lb ha hb hn
  go_enter Tryd.func61, Tryd.ntmps61
  go_wp2_with fail
  clear hmk
  go_loopw [7, 15] (fun rv iv wr => ∃ (i : Nat) (r : ByteArray) (Q : List UInt8), i ≤ n ∧ iv = .int .i64 (i : Int) ∧ rv = .string r ∧ Hid (DivAt a.data.toList b.data.toList Q r.data.toList i) ∧ Hid (RowB wr w.heap.size Q) ∧ Hid (Below w.heap.size w wr)) (fun _ iv _ => n - (intOf iv).toNat)
  case atStart => exact ⟨0, ⟨#[]⟩, _, by omega, rfl, rfl, HA0, HR0, HB0⟩
  case round =>
    obtain ⟨i, r, Q, hi, rfl, rfl, HA, HR, HB⟩ := hrel
    by_cases hlt : i < n
    · have hd : (i : Int) < (n : Int) := by omega
      have hN := HN.out
      have hia : i < a.size := by omega
      have hdx := dig_at HDA.out hia
      have hax : a.data.toList[i]? = some a[i] := by rw [List.getElem?_eq_getElem (by rw [HLA.out]; exact hia)]; rfl
      have hex : (a.extract i (i + 1)).data.toList = [a[i]] := by
        rw [ByteArray.data_extract, Array.toList_extract]
        simp only [List.extract]
        rw [List.drop_eq_getElem_cons (by rw [HLA.out]; exact hia)]
        simp
        rfl
      obtain ⟨x, hx⟩ : ∃ x, a[i] = x := ⟨_, rfl⟩
      rw [hx] at hax hdx hex
      have hrb : r.size ≤ b.size := by
        have := canon_size HA.out.can HDB.out (Nat.le_of_lt HA.out.lt)
        rw [len_size, len_size] at this
        exact this
      obtain ⟨ax, haxe⟩ : ∃ ax, a.extract i (i + 1) = ax := ⟨_, rfl⟩
      have hsl : ∀ W, (Instr.slice 9 (.string a) (some (.int .i64 (i : Int))) (some (.int .i64 ((i : Int) + 1))) none).run Tryd.prog W = .ok (.string ax) W := fun W => by
        rw [← haxe]
        have h1 : (i : Int) + 1 ≤ (a.size : Int) := by omega
        simp [go_sem, h1]
        rw [if_pos (by omega), if_pos (by omega)]
      rw [haxe] at hex
      have hsz : ax.size = 1 := by rw [← len_size, hex]; rfl
      have hcat : ¬ (9223372036854775807 < r.size + ax.size) := by omega
      have hst := strip_val (r ++ ax).data.toList (by
        rw [ByteArray.data_append, Array.toList_append, hex]
        exact dig_append HA.out.can.1 (fun c hc => by obtain rfl := List.mem_singleton.1 hc; omega))
      have hval : valL (r ++ ax).data.toList = valL r.data.toList * 10 + (x.toNat - 48) := by
        rw [ByteArray.data_append, Array.toList_append, hex, valL_append]; simp [valL]
      rw [hval] at hst
      obtain ⟨r0, hr0⟩ : ∃ r0, mkB ((r ++ ax).data.toList.dropWhile (· == 48)) = r0 := ⟨_, rfl⟩
      have hr0l : (r ++ ax).data.toList.dropWhile (· == 48) = r0.data.toList := by rw [← hr0]; rfl
      rw [hr0l] at hst
      have hr0s : r0.size ≤ 10001 := by
        rw [← len_size, ← hr0l]
        refine Nat.le_trans (List.dropWhile_sublist _).length_le ?_
        rw [len_size, ByteArray.size_append]; omega
      have HAX := hide hax
      have HST := hide hst
      have HR0E := hide hr0
      clear hex hst hval hr0 hr0l haxe hx hax
      go_wp2_with fail
      refine (plainD_any _ _).mono ?_
      rintro e w' ⟨rfl, rfl⟩
      rw [HR0E.out]
      go_wp2_with fail
      go_loopw [7, 9] (fun rv mv wx => ∃ (m : Nat) (s : ByteArray), rv = .string s ∧ mv = .int .i64 (m : Int) ∧ s.size ≤ 10001 ∧ Hid (Canon s.data.toList) ∧ Hid (valL s.data.toList + m * valL b.data.toList = valL r.data.toList * 10 + (x.toNat - 48)) ∧ Hid (RowB wx w.heap.size Q) ∧ Hid (Below w.heap.size w wx)) (fun rv _ _ => match rv with | .string s => valL s.data.toList | _ => 0)
      case atStart => exact ⟨0, r0, rfl, rfl, hr0s, hide HST.out.1, hide (by rw [Nat.zero_mul, Nat.add_zero]; exact HST.out.2), HR, HB⟩
      case round =>
        clear HR HB HST HR0E hr0s
        obtain ⟨m, s, rfl, rfl, hss, HC, HV, HR, HB⟩ := hrel
        have HCM := hide (natCmp_any s b wr HC.out HDB.out (by omega) (by omega))
        by_cases hle : valL b.data.toList ≤ valL s.data.toList
        · obtain ⟨cv, hcv⟩ : ∃ cv, Lib.compareInt (valL s.data.toList : Int) (valL b.data.toList : Int) = cv := ⟨_, rfl⟩
          have hc0 : (0 : Int) ≤ cv := by
            rw [← hcv]; unfold Lib.compareInt
            rw [if_neg (by omega)]; split <;> omega
          rw [hcv] at HCM
          have hbs : b.size ≤ s.size := by
            have := canon_size HDB.out HC.out hle
            rw [len_size, len_size] at this
            exact this
          have HSUB := hide (fun W => natSub_any s b W HC.out.1 HDB.out.1 (by omega) hbs hle)
          have hm9 : m ≤ 9 := digit_nine HA.out.lt HV.out (by omega)
          have HLE := hide hle
          clear hcv hle
          go_wp2_with fail
          refine HCM.out.mono ?_
          rintro e w1 ⟨rfl, hb1⟩
          have HR1 := hide (HR.out.belowK (hb1))
          have HB1 := hide (HB.out.trans (hb1.mono HB.out.size))
          clear hb1
          go_wp2_with fail
          refine (HSUB.out _).mono ?_
          rintro e w2 ⟨⟨s2, rfl, hc2, hv2⟩, hb2⟩
          have HR2 := hide (HR1.out.belowK (hb2))
          have HB2 := hide (HB1.out.trans (hb2.mono HB1.out.size))
          have HC2 := hide hc2
          have HV2 : Hid (valL s2.data.toList + (m + 1) * valL b.data.toList = valL r.data.toList * 10 + (x.toNat - 48)) := hide (by
            have h1 := HV.out
            have h2 := HLE.out
            rw [Nat.add_mul, hv2]; omega)
          have hs2 : s2.size ≤ 10001 := by
            have := canon_size hc2 HC.out (by omega)
            rw [len_size, len_size] at this
            omega
          have HLT : Hid (valL s2.data.toList < valL s.data.toList) := hide (by have := HLE.out; omega)
          clear hb2 hc2 hv2
          go_wp2_with fail
          go_roundw
          case rel => exact ⟨m + 1, s2, rfl, by go_num, hs2, HC2, HV2, HR2, HB2⟩
          case measure => exact HLT.out
        · obtain ⟨cv, hcv⟩ : ∃ cv, Lib.compareInt (valL s.data.toList : Int) (valL b.data.toList : Int) = cv := ⟨_, rfl⟩
          have hc0 : ¬ (0 : Int) ≤ cv := by
            rw [← hcv]; unfold Lib.compareInt
            rw [if_pos (by omega)]; omega
          rw [hcv] at HCM
          have hm9 : m ≤ 9 := digit_nine HA.out.lt HV.out (by omega)
          obtain ⟨c, hc1, hc2, hc3⟩ := digit_of (x := (m : Int)) (by omega) (by omega)
          have HAN := hide (HA.out.step HAX.out HC.out (by omega) HV.out hm9 (c := c) (by omega))
          have hQl := HA.out.len
          rw [HLA.out] at hQl
          obtain ⟨o, ho⟩ : ∃ o, Q[i]? = some o := ⟨_, List.getElem?_eq_getElem (by omega)⟩
          have hi0 : (0 : Int) ≤ (i : Int) := by omega
          have HQL := hide hQl
          have HC1 := hide hc1
          have HO := hide ho
          clear hcv hle hc1 hc2 hc3 ho hQl
          go_wp2_with fail
          refine HCM.out.mono ?_
          rintro e w1 ⟨rfl, hb1⟩
          have hr1 := HR.out.belowK (hb1)
          have HB1 := hide (HB.out.trans (hb1.mono HB.out.size))
          obtain ⟨oc, of⟩ := hr1.2 i o HO.out
          have HRN := hide (hr1.set (k := i) (by rw [HQL.out]; omega) c)
          have HBN := hide (HB1.out.setCell (p := ⟨w.heap.size, i, none⟩) (by simp) (.int .u8 (c.toNat : Int)))
          rw [HC1.out] at HRN HBN
          clear hb1 hr1
          go_wp2_with fail
          go_roundw
          case rel => exact ⟨i + 1, s, Q.set i c, by omega, by go_num, rfl, HAN, HRN, HBN⟩
          case measure => simp [intOf]; omega
    · obtain rfl : i = n := by omega
      have hd : ¬ ((i : Int) < (i : Int)) := by omega
      have ha := HA.out
      have hQl := ha.len
      rw [HLA.out, HN.out] at hQl
      have hdg := ha.dig
      have hvl := ha.val
      rw [List.take_of_length_le (by omega), List.take_of_length_le (by rw [HLA.out, HN.out]; exact Nat.le_refl _)] at hvl
      rw [List.take_of_length_le (by omega)] at hdg
      have hst := strip_val Q hdg
      have hback : (convert 78 9 (.slice (some ⟨w.heap.size, 0, none⟩) i i)).run Tryd.prog wr = .ok (.string (mkB Q)) wr := by
        have := run_convert_bytes_back (P := Tryd.prog) wr 78 9 5 ⟨w.heap.size, 0, none⟩ i Q Tryd.underlying78 Tryd.underlying5 Tryd.underlying9 (fun j hj => by
          have := (HR.out.2 j _ (List.getElem?_eq_getElem hj)).1
          have ea : Addr.add ⟨w.heap.size, 0, none⟩ j = ⟨w.heap.size, j, none⟩ := by
            unfold Addr.add; split
            · rename_i h; rw [h]
            · simp
          rw [ea]; exact this)
        rw [hQl] at this
        exact this
      have HF : Hid (Canon (mkB (Q.dropWhile (· == 48))).data.toList ∧ Canon r.data.toList ∧ valL (mkB (Q.dropWhile (· == 48))).data.toList * valL b.data.toList + valL r.data.toList = valL a.data.toList ∧ valL r.data.toList < valL b.data.toList) := hide ⟨hst.1, ha.can, by
        have e : (mkB (Q.dropWhile (· == 48))).data.toList = Q.dropWhile (· == 48) := rfl
        rw [e, hst.2]; exact hvl, ha.lt⟩
      clear hst hdg hvl hQl ha
      go_wp2_with fail
      refine (plainD_any _ _).mono ?_
      rintro e w' ⟨rfl, rfl⟩
      rw [show (mkB Q).data.toList = Q from rfl]
      go_wp2_with fail
      go_ret2
      exact ⟨⟨_, _, rfl, HF.out⟩, HB.out⟩
end Go.Proofs.YtinpgnekjebipaaDoor
