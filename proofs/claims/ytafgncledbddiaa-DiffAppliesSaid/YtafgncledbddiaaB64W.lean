import Derived.Test.YtafgncledbddiaaLists
import Derived.Test.YtafgncledbddiaaB64
set_option linter.unusedSimpArgs false
set_option linter.unusedVariables false
namespace Go.Proofs.Ytafgncledbddiaa
open Go.RowKit Go.Pw

/-- bits as a text -/
def charB (b : Bool) : UInt8 := if b then 49 else 48
def strB (l : List Bool) : ByteArray := ⟨(l.map charB).toArray⟩

theorem charB_int (u : Nat) : ((charB (u % 2 == 1)).toNat : Int) = 48 + (u : Int) % 2 := by
  rcases Nat.mod_two_eq_zero_or_one u with e | e
  · have : (u : Int) % 2 = 0 := by omega
    rw [e, this]; rfl
  · have : (u : Int) % 2 = 1 := by omega
    rw [e, this]; rfl
/-- string([]byte{c}) -/
theorem conv_one (w : World) (c : UInt8) (x : Int) (hx : (c.toNat : Int) = x) :
    (convert 83 9 (.slice (some ⟨w.heap.size, 0, none⟩) 1 1)).run Try.prog (w.alloc (.cells #[.int .u8 x] 5)) = .ok (.string ⟨#[c]⟩) (w.alloc (.cells #[.int .u8 x] 5)) := by
  have := run_convert_bytes_back (P := Try.prog) (w.alloc (.cells #[.int .u8 x] 5)) 83 9 5 ⟨w.heap.size, 0, none⟩ 1 [c] Try.underlying83 Try.underlying5 Try.underlying9 (fun j hj => by
    obtain rfl : j = 0 := by simpa using hj
    simp [Addr.add, World.cell?_alloc_new, hx])
  exact this
theorem strB_size (l : List Bool) : (strB l).size = l.length := by simp [strB, ByteArray.size]
theorem strB_cons (b : Bool) (l : List Bool) : (⟨#[charB b]⟩ : ByteArray) ++ strB l = strB (b :: l) := by
  apply ByteArray.ext
  simp [strB]
theorem bitsN_front (k v : Nat) : bitsN (k + 1) v = (v / 2 ^ k % 2 == 1) :: bitsN k v := by
  rw [Nat.add_comm, bitsN_add 1 k]; rfl

set_option maxHeartbeats 1000000 in
set_option maxRecDepth 100000 in
theorem bits_any (v m : Nat) (w : World) (hv : v ≤ 1000000) (hm : m ≤ 64) :
    Calls Try.prog 62 #[.int .i64 (v : Int), .int .i64 (m : Int)] w fun e w' => e = .returned (.string (strB (bitsN m v))) ∧ Below w.heap.size w w' := by
  go_enter Try.func62, Try.ntmps62
  go_wp2
  go_loopw [0, 5, 7] (fun x s i wr => ∃ k : Nat, k ≤ m ∧ i = .int .i64 (k : Int) ∧ x = .int .i64 ((v / 2 ^ k : Nat) : Int) ∧ s = .string (strB (bitsN k v)) ∧ Below w.heap.size w wr) (fun _ _ i _ => m - (intOf i).toNat)
  case atStart => exact ⟨0, by omega, rfl, by simp, rfl, Below.refl _ _⟩
  case round =>
    obtain ⟨k, hk, rfl, rfl, rfl, hbl⟩ := hrel
    obtain ⟨u, hu⟩ : ∃ u, u = v / 2 ^ k := ⟨_, rfl⟩
    have hul : u ≤ 1000000 := by rw [hu]; exact Nat.le_trans (Nat.div_le_self _ _) hv
    rw [← hu]
    have HU := hide hu
    clear hu
    by_cases hlt : k < m
    · have hcv := conv_one wr (charB (u % 2 == 1)) (48 + (u : Int) % 2) (charB_int u)
      obtain ⟨sk, hsk⟩ : ∃ sk, sk = strB (bitsN k v) := ⟨_, rfl⟩
      rw [← hsk]
      have hsz : sk.size ≤ 64 := by rw [hsk, strB_size, bitsN_length]; omega
      have HSK := hide hsk
      clear hsk
      obtain ⟨ck, hck⟩ : ∃ ck, ck = charB (u % 2 == 1) := ⟨_, rfl⟩
      rw [← hck] at hcv
      have HCK := hide hck
      clear hck
      go_wp2
      go_roundw
      case rel =>
        refine ⟨k + 1, by omega, by go_num, ?_, ?_, hbl.alloc hbl.size _⟩
        · rw [Nat.pow_succ, ← Nat.div_div_eq_div_mul, ← HU.out]; rfl
        · rw [bitsN_front, ← HU.out, HCK.out, HSK.out, strB_cons]
      case measure => simp [intOf]; omega
    · obtain rfl : k = m := by omega
      go_wp2
      go_ret
      exact ⟨rfl, hbl⟩

theorem strB_at (B : List Bool) (i : Nat) (h : i < (strB B).size) (h' : i < B.length) : (strB B)[i] = charB B[i] := by
  have : (strB B)[i] = (strB B).data[i]'h := rfl
  rw [this]
  simp [strB]

set_option maxHeartbeats 1000000 in
set_option maxRecDepth 100000 in
theorem zeroTail_any (B : List Bool) (q : Nat) (w : World) (hq : 4 ≤ B.length) (hB : B.length ≤ 9223372036854775807) :
    Calls Try.prog 63 #[.string (strB B), .int .i64 (q : Int)] w fun e w' => e = .returned (.bool (rtail B q)) ∧ w = w' := by
  have hsz : (strB B).size = B.length := strB_size B
  by_cases h3 : q = 3
  · have h3' : ((q : Int) == 3) = true := by simp; omega
    have hr : rtail B q = !((B.drop (B.length - 2)).any id) := by simp [rtail, zeroB, h3]
    have HR := hide hr
    clear hr h3
    have hs1 : (strB B).size ≤ 9223372036854775807 := by omega
    have hs2 : 4 ≤ (strB B).size := by omega
    have HSZ := hide hsz
    clear hsz
    go_enter Try.func63, Try.ntmps63
    go_wp2
    go_loop [6] (fun x => ∃ i : Nat, i ≤ (strB B).size ∧ x = .int .i64 (i : Int) ∧ Hid (rtail B q = !((B.drop i).any id))) (fun x => (strB B).size - (intOf x).toNat)
    case atStart => exact ⟨(strB B).size - 2, by omega, by go_num, by rw [HSZ.out]; exact HR⟩
    case round =>
      obtain ⟨i, hi, rfl, hz⟩ := hrel
      by_cases hlt : i < (strB B).size
      · have hlB : i < B.length := by have := HSZ.out; omega
        have hg := strB_at B i hlt hlB
        have hz2 := hz.out
        rw [List.drop_eq_getElem_cons hlB, List.any_cons] at hz2
        rcases hb : B[i] with _ | _
        · have ht : (((strB B)[i].toNat : Int) == 49) = false := by rw [hg, hb]; rfl
          rw [hb] at hz2
          have HZ2 := hide hz2
          clear hz2 hg hb
          go_wp2
          go_round
          case rel => exact ⟨i + 1, by omega, by go_num, HZ2⟩
          case measure => simp [intOf]; omega
        · have ht : (((strB B)[i].toNat : Int) == 49) = true := by rw [hg, hb]; rfl
          rw [hb] at hz2
          have HZ2 := hide hz2
          clear hz2 hg hb
          go_wp2
          go_ret
          exact ⟨ret_bool (by rw [HZ2.out]; rfl), rfl⟩
      · have hz2 := hz.out
        rw [List.drop_of_length_le (by have := HSZ.out; omega)] at hz2
        have HZ2 := hide hz2
        clear hz2
        go_wp2
        go_ret
        exact ⟨ret_bool (by rw [HZ2.out]; rfl), rfl⟩
  · have h3' : ((q : Int) == 3) = false := by simp; omega
    have hr : rtail B q = !((B.drop (B.length - 4)).any id) := by simp [rtail, zeroB, h3]
    have HR := hide hr
    clear hr h3
    have hs1 : (strB B).size ≤ 9223372036854775807 := by omega
    have hs2 : 4 ≤ (strB B).size := by omega
    have HSZ := hide hsz
    clear hsz
    go_enter Try.func63, Try.ntmps63
    go_wp2
    go_loop [6] (fun x => ∃ i : Nat, i ≤ (strB B).size ∧ x = .int .i64 (i : Int) ∧ Hid (rtail B q = !((B.drop i).any id))) (fun x => (strB B).size - (intOf x).toNat)
    case atStart => exact ⟨(strB B).size - 4, by omega, by go_num, by rw [HSZ.out]; exact HR⟩
    case round =>
      obtain ⟨i, hi, rfl, hz⟩ := hrel
      by_cases hlt : i < (strB B).size
      · have hlB : i < B.length := by have := HSZ.out; omega
        have hg := strB_at B i hlt hlB
        have hz2 := hz.out
        rw [List.drop_eq_getElem_cons hlB, List.any_cons] at hz2
        rcases hb : B[i] with _ | _
        · have ht : (((strB B)[i].toNat : Int) == 49) = false := by rw [hg, hb]; rfl
          rw [hb] at hz2
          have HZ2 := hide hz2
          clear hz2 hg hb
          go_wp2
          go_round
          case rel => exact ⟨i + 1, by omega, by go_num, HZ2⟩
          case measure => simp [intOf]; omega
        · have ht : (((strB B)[i].toNat : Int) == 49) = true := by rw [hg, hb]; rfl
          rw [hb] at hz2
          have HZ2 := hide hz2
          clear hz2 hg hb
          go_wp2
          go_ret
          exact ⟨ret_bool (by rw [HZ2.out]; rfl), rfl⟩
      · have hz2 := hz.out
        rw [List.drop_of_length_le (by have := HSZ.out; omega)] at hz2
        have HZ2 := hide hz2
        clear hz2
        go_wp2
        go_ret
        exact ⟨ret_bool (by rw [HZ2.out]; rfl), rfl⟩
end Go.Proofs.Ytafgncledbddiaa
