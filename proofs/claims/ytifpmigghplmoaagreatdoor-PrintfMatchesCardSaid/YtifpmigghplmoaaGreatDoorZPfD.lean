/- Printf: the program's directives: has, digitsIn, read. -/
import Derived.Test.YtifpmigghplmoaaGreatDoorZPrB
import Derived.Test.YtifpmigghplmoaaGreatDoorZNum
import Derived.Test.YtifpmigghplmoaaGreatDoorZFill
import Derived.Test.YtifpmigghplmoaaGreatDoorShelf
import Derived.Test.YtifpmigghplmoaaGreatDoorShelf3
import Derived.Lib.Atoi
import Derived.Laws.ResultCell
set_option linter.unusedVariables false
set_option linter.unusedSimpArgs false
namespace Go.Pw
open Go.RowKit
/-- a part of a format -/
structure Dv where
  tx : List UInt8
  fl : List UInt8
  wd : Nat
  dot : Bool
  pr : Nat
  lt : UInt8
def dvC (d : Dv) : Array Value := #[.string (mkB d.tx), .string (mkB d.fl), .int .i64 (d.wd : Int), .bool d.dot, .int .i64 (d.pr : Int), .int .u8 (d.lt.toNat : Int)]
def dvV (d : Dv) : Value := .agg (dvC d)
def flagL : List UInt8 := [45, 43, 32, 48, 35]
def letL : List UInt8 := [100, 105, 117, 111, 120, 88, 99, 115, 98]
/-- how many digits, at most three -/
def dgK (l : List UInt8) : Nat := min (l.takeWhile digB).length 3
def flR (acc : List UInt8) : List UInt8 → Option (List UInt8 × List UInt8)
  | [] => some (acc, [])
  | c :: r => if c ∈ flagL then (if c ∈ acc then none else flR (acc ++ [c]) r) else some (acc, c :: r)
/-- behind the flags -/
def dirB (fl : List UInt8) (l : List UInt8) : Option (Dv × List UInt8) :=
  let wd := valL (l.take (dgK l))
  let l2 := l.drop (dgK l)
  let dot := l2.headD 0 == 46
  let pr := if dot then valL ((l2.drop 1).take (dgK (l2.drop 1))) else 0
  let l3 := if dot then (l2.drop 1).drop (dgK (l2.drop 1)) else l2
  match l3 with
  | [] => none
  | c :: r => if c ∈ letL then some (⟨[], fl, wd, dot, pr, c⟩, r) else none
/-- a directive behind its percent sign -/
def rdP : List UInt8 → Option (Dv × List UInt8)
  | 37 :: r => some (⟨[37], [], 0, false, 0, 0⟩, r)
  | l => match flR [] l with
    | none => none
    | some (fl, l1) => dirB fl l1
theorem decFrom_dig' : ∀ (l : List UInt8) (acc : Nat), DigL l → Lib.decFrom acc l = some (acc * 10 ^ l.length + valL l)
  | [], acc, _ => by simp [Lib.decFrom, valL]
  | c :: l, acc, h => by
    have hc := h c List.mem_cons_self
    have ih := decFrom_dig' l (acc * 10 + (c.toNat - 48)) (fun x hx => h x (List.mem_cons_of_mem _ hx))
    have e : Lib.digitVal c = some (c.toNat - 48) := by unfold Lib.digitVal; rw [if_pos hc]
    simp only [Lib.decFrom, e]
    rw [ih, valL, List.length_cons, Nat.pow_succ]
    congr 1
    rw [Nat.add_mul, Nat.mul_assoc, Nat.mul_comm 10, ← Nat.add_assoc]
theorem atoi_zero {l : List UInt8} (h : DigL l) : Lib.atoi (48 :: l) = some (valL l : Int) := by
  have h2 : DigL (48 :: l) := by
    intro c hc
    rcases List.mem_cons.1 hc with rfl | hc
    · decide
    · exact h c hc
  have e : Lib.decNat (48 :: l) = some (valL (48 :: l)) := by
    unfold Lib.decNat
    rw [if_neg (by simp), decFrom_dig' _ 0 h2]; simp
  unfold Lib.atoi
  simp only [show ((48 : UInt8) == 45) = false from rfl, show ((48 : UInt8) == 43) = false from rfl, Bool.false_eq_true, if_false, e, Option.map_some]
  congr 2
  rw [valL]; simp
theorem takeWhile_dig : ∀ l : List UInt8, DigL (l.takeWhile digB)
  | [] => by intro c hc; cases hc
  | a :: r => by
    intro c hc
    rw [List.takeWhile_cons] at hc
    cases ha : digB a with
    | true =>
      rw [ha] at hc
      simp only [if_true] at hc
      rcases List.mem_cons.1 hc with rfl | hc
      · have h := (digB_iff c).1 ha
        omega
      · exact takeWhile_dig r c hc
    | false => rw [ha] at hc; simp at hc
theorem dgK_dig (l : List UInt8) : DigL (l.take (dgK l)) ∧ (l.take (dgK l)).length = dgK l ∧ dgK l ≤ 3 ∧ dgK l ≤ l.length := by
  have hle : (l.takeWhile digB).length ≤ l.length := by
    have h := congrArg List.length (List.takeWhile_append_dropWhile (p := digB) (l := l))
    rw [List.length_append] at h; omega
  have hk : dgK l ≤ (l.takeWhile digB).length := Nat.min_le_left _ _
  have h3 : dgK l ≤ 3 := Nat.min_le_right _ _
  refine ⟨?_, by rw [List.length_take]; omega, h3, by omega⟩
  have e : l.take (dgK l) = (l.takeWhile digB).take (dgK l) := by
    have h := List.takeWhile_append_dropWhile (p := digB) (l := l)
    obtain ⟨k, hk2⟩ : ∃ k, dgK l = k := ⟨_, rfl⟩
    rw [hk2] at hk ⊢
    have h2 := List.take_append_of_le_length (l₂ := l.dropWhile digB) hk
    rw [h] at h2
    exact h2
  rw [e]
  intro c hc
  exact takeWhile_dig l c (List.mem_of_mem_take hc)
theorem valL_lt' : ∀ l : List UInt8, DigL l → valL l < 10 ^ l.length
  | [], _ => by simp [valL]
  | c :: l, h => by
    have ih := valL_lt' l (fun x hx => h x (List.mem_cons_of_mem _ hx))
    have hc := h c List.mem_cons_self
    rw [valL, List.length_cons, Nat.pow_succ]
    have : (c.toNat - 48) * 10 ^ l.length ≤ 9 * 10 ^ l.length := Nat.mul_le_mul_right _ (by omega)
    omega
theorem dgK_val (l : List UInt8) : valL (l.take (dgK l)) < 1000 := by
  obtain ⟨h1, h2, h3, h4⟩ := dgK_dig l
  have := valL_lt' _ h1
  rw [h2] at this
  have h5 : (10 : Nat) ^ dgK l ≤ 10 ^ 3 := Nat.pow_le_pow_right (by decide) h3
  omega
theorem mkB_data2 (l : List UInt8) : (mkB l).data.toList = l := by unfold mkB; simp
theorem extract_take (s : ByteArray) (k : Nat) : s.extract 0 k = mkB (s.data.toList.take k) := by
  rw [← mkB_list (s.extract 0 k), ByteArray.data_extract, Array.toList_extract, List.extract_eq_take_drop]; simp
theorem extract_drop (s : ByteArray) (k : Nat) : s.extract k s.size = mkB (s.data.toList.drop k) := by
  rw [← mkB_list (s.extract k s.size), ByteArray.data_extract, Array.toList_extract, List.extract_eq_take_drop, List.take_of_length_le (by rw [List.length_drop, len_size]; exact Nat.le_refl _)]
end Go.Pw
namespace Go.Proofs.YtifpmigghplmoaaGreatDoor
open Go.RowKit Go.Pw Go.Shelf
theorem has_any (d : Dv) (c : UInt8) (w : World) :
    Calls Tryz.prog 85 #[dvV d, .string ⟨#[c]⟩] w fun e w' => e = .returned (.bool (decide (c ∈ d.fl))) ∧ Below w.heap.size w w' := by
  have HC := hide (fun W => Tryz.strings_Contains_one (mkB d.fl) c W)
  have HV : Hid (decide (0 ≤ Lib.indexByte (mkB d.fl).data.toList c) = decide (c ∈ d.fl)) := hide (by
    rw [mkB_data2, ← Lib.contains_iff_indexByte]
    by_cases h : c ∈ d.fl
    · rw [List.contains_iff_mem.2 h, decide_eq_true h]
    · rw [Bool.eq_false_iff.2 (fun e => h (List.contains_iff_mem.1 e)), decide_eq_false h])
  simp only [HV.out] at HC
  have HB := hide ((Below.refl w.heap.size w).alloc (Nat.le_refl _) (.cells (dvC d) 89))
  unfold dvV dvC at *
  obtain ⟨x, hx⟩ : ∃ x, decide (c ∈ d.fl) = x := ⟨_, rfl⟩
  simp only [hx] at HC
  rw [hx]
  clear HV hx
  go_enter Tryz.func85, Tryz.ntmps85
  go_wp2_with fail
  refine (HC.out _).mono ?_
  rintro e w' ⟨rfl, rfl⟩
  go_wp2_with fail
  go_ret
  exact ⟨rfl, HB.out⟩
set_option maxHeartbeats 2000000 in
set_option maxRecDepth 100000 in
theorem digitsIn_any (s : ByteArray) (w : World) (hs : s.size ≤ 1000000) :
    Calls Tryz.prog 119 #[.string s] w fun e w' => e = .returned (.tuple #[.int .i64 (valL (s.data.toList.take (dgK s.data.toList)) : Int), .string (mkB (s.data.toList.drop (dgK s.data.toList)))]) ∧ Below w.heap.size w w' := by
  have HDO := hide (fun W => digitsOf_any s W hs)
  obtain ⟨h1, h2, h3, h4⟩ := dgK_dig s.data.toList
  have HK : Hid (min ((s.data.toList.takeWhile digB).length : Int) 3 = ((dgK s.data.toList : Nat) : Int)) := hide (by unfold dgK; omega)
  obtain ⟨L, hL⟩ : ∃ L, (s.data.toList.takeWhile digB).length = L := ⟨_, rfl⟩
  rw [hL] at HK
  simp only [hL] at HDO
  obtain ⟨k, hk⟩ : ∃ k, dgK s.data.toList = k := ⟨_, rfl⟩
  rw [hk] at HK h1 h2 h3 h4 ⊢
  rw [len_size] at h4
  have HE := hide (extract_take s k)
  have HD := hide (extract_drop s k)
  have HA := hide (fun W => Tryz.strconv_Atoi ((⟨#[48]⟩ : ByteArray) ++ mkB (s.data.toList.take k)) (valL (s.data.toList.take k) : Int) (by
    have : ((⟨#[48]⟩ : ByteArray) ++ mkB (s.data.toList.take k)).size = 1 + (mkB (s.data.toList.take k)).size := by rw [ByteArray.size_append]; rfl
    rw [this, show (mkB (s.data.toList.take k)).size = (s.data.toList.take k).length from by unfold mkB; show (s.data.toList.take k).toArray.size = _; simp, h2]; omega) (by
    have e : ((⟨#[48]⟩ : ByteArray) ++ mkB (s.data.toList.take k)).data.toList = 48 :: s.data.toList.take k := by simp [mkB]
    rw [e]; exact atoi_zero h1) W)
  simp only [← HE.out] at HA
  have k0 : (0 : Int) ≤ (k : Int) := by omega
  have k1 : (k : Int) ≤ (s.size : Int) := by omega
  have k2 : k ≤ s.size := h4
  have hsz : ¬ (9223372036854775807 < 1 + (s.extract 0 k).size) := by rw [ByteArray.size_extract]; omega
  clear hL hk h1 h2 h3
  go_enter Tryz.func119, Tryz.ntmps119
  go_wp2_with fail
  refine (HDO.out _).mono ?_
  rintro e w' ⟨rfl, rfl⟩
  have emin : min (L : Int) 3 = (k : Int) := HK.out
  go_wp2_with fail
  refine (HA.out _).mono ?_
  rintro e w2 ⟨rfl, t, rfl⟩
  have HB : Hid (Below w.heap.size w (Lib.bytesWorld w 5 t)) := hide ⟨rfl, rfl, rfl, by rw [Lib.bytesWorld_size]; omega, fun j hj => Lib.bytesWorld_at_old w _ t j hj⟩
  go_wp2_with fail
  go_quiet (fail)
  go_wp2_with fail
  go_ret2
  exact ⟨by rw [← HD.out]; rfl, below_q HB.out⟩
/-- what the program's read returns -/
def readR (bs : List UInt8) (e : Ending) : Prop := match rdP bs with
  | some (d, r) => e = .returned (.tuple #[dvV d, .string (mkB r), .bool true])
  | none => ∃ (d : Dv) (q : Value), e = .returned (.tuple #[dvV d, q, .bool false])
theorem results_cell_tmp2 {fn : Func} {p u v : Tmp} {ty : TypeId} (h : fn.results = #[.cell p ty, .tmp u, .tmp v]) (tmps : Array Value) (P : Program) (w : World) :
    (results fn tmps).run P w =
      ((asAddr (tmps.getD p undef)).run P w).andThen fun a w₁ => ((loadVar ty a).run P w₁).andThen fun x w₂ => .ok (.tuple #[x, tmps.getD u undef, tmps.getD v undef]) w₂ := by
  simp only [results, h]
  simp [Sem.run_bind, Result.andThen]
theorem info_dv : (Tryz.prog.info? 89).map (·.size) = some 6 := by kernel_rfl
theorem results_dv {fn : Func} {p u v : Tmp} (h : fn.results = #[.cell p 89, .tmp u, .tmp v]) (tmps : Array Value) (w : World) (g : Nat) (d : Dv)
    (hp : tmps.getD p undef = .pointer (some ⟨g, 0, none⟩)) (hg : w.heap[g]? = some (.cells (dvC d) 89 (0, 0))) : (results fn tmps).run Tryz.prog w = .ok (.tuple #[dvV d, tmps.getD u undef, tmps.getD v undef]) w := by
  rw [results_cell_tmp2 h, hp]
  simp [asAddr, run_loadVar_row w g 89 89 _ (0, 0) _ hg Tryz.underlying89 rfl info_dv, Result.andThen, dvV, dvC]
end Go.Proofs.YtifpmigghplmoaaGreatDoor
