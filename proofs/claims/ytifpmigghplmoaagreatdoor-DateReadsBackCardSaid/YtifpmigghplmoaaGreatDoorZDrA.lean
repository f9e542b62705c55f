/- A time is read along a format: plain: what is read, and whether it fits. -/
import Derived.Test.YtifpmigghplmoaaGreatDoorDateP
import Derived.Test.YtifpmigghplmoaaGreatDoorDecP
import Derived.Test.YtifpmigghplmoaaGreatDoorNumbP
import Derived.Test.YtifpmigghplmoaaGreatDoorDatesX
/- DReadP -/
set_option linter.unusedVariables false
namespace Go.Pw
open Go.RowKit
/-- what was read for a directive: its letter, the number, the bytes -/
structure It where
  c : UInt8
  n : Int
  p : List UInt8
/-- what is to be read: what a directive tells, or a byte -/
inductive Stp where
  | dir (c : UInt8)
  | byte (b : UInt8)
/-- the steps of a directive -/
def expand (c : UInt8) : List Stp :=
  if c = 70 then [.dir 89, .byte 45, .dir 109, .byte 45, .dir 100] else
  if c = 84 then [.dir 72, .byte 58, .dir 77, .byte 58, .dir 83] else
  if c = 110 then [.byte 10] else
  if c = 116 then [.byte 9] else
  if c = 37 then [.byte 37] else [.dir c]
def stepsOf (ps : List (UInt8 × UInt8)) : List Stp := ps.flatMap fun p => if p.1 = 0 then [.byte p.2] else expand p.1
def isDg (c : UInt8) : Bool := decide (48 ≤ c.toNat) && decide (c.toNat ≤ 57)
def piece (T : List UInt8) (a b : Nat) : List UInt8 := (T.drop a).take (b - a)
/-- just so many digits, or the place of the first byte that is none -/
def digsN (T : List UInt8) : Nat → Nat → Int → Sum Nat Int
  | _, 0, acc => .inr acc
  | at_, k + 1, acc => if isDg (T.getD at_ 0) then digsN T (at_ + 1) k (10 * acc + ((T.getD at_ 0).toNat - 48 : Int)) else .inl at_
def rdNum (T : List UInt8) (c : UInt8) (from_ at_ m : Nat) : Sum Nat (Nat × List It) :=
  match digsN T at_ m 0 with
  | .inl q => .inl q
  | .inr v => .inr (at_ + m, [⟨c, v, piece T from_ (at_ + m)⟩])
def hasP (names : List (List UInt8)) (T : List UInt8) (at_ n : Nat) : Bool := names.any fun s => s.take n == (T.drop at_).take n
def nameK (names : List (List UInt8)) (T : List UInt8) (at_ : Nat) : Nat := names.findIdx fun s => s.take 3 == (T.drop at_).take 3
def rdName (names : List (List UInt8)) (T : List UInt8) (c : UInt8) (at_ : Nat) : Sum Nat (Nat × List It) :=
  if hasP names T at_ 1 = false then .inl at_ else
  if hasP names T at_ 2 = false then .inl (at_ + 1) else
  if hasP names T at_ 3 = false then .inl (at_ + 2) else
  .inr (at_ + 3, [⟨c, (nameK names T at_ : Int) + 1, piece T at_ (at_ + 3)⟩])
/-- how many digits stand there, at most so many -/
def digCnt (T : List UInt8) : Nat → Nat → Nat
  | _, 0 => 0
  | at_, k + 1 => if isDg (T.getD at_ 0) then digCnt T (at_ + 1) k + 1 else 0
def signOf (T : List UInt8) (at_ : Nat) : Nat := if T.getD at_ 0 = 45 then 1 else 0
def rdTime (T : List UInt8) (at_ : Nat) : Sum Nat (Nat × List It) :=
  let f := at_ + signOf T at_
  let k := digCnt T f 12
  if k = 0 then .inl f else
  .inr (f + k, [⟨115, (if T.getD at_ 0 = 45 then -(valL (piece T f (f + k)) : Int) else (valL (piece T f (f + k)) : Int)), piece T at_ (f + k)⟩])
def rd1 (T : List UInt8) (c : UInt8) (at_ : Nat) : Sum Nat (Nat × List It) :=
  if c = 89 then rdNum T 89 at_ at_ 4 else
  if c = 106 then rdNum T 106 at_ at_ 3 else
  if c = 117 then rdNum T 117 at_ at_ 1 else
  if c = 101 then (if T.getD at_ 0 = 32 then rdNum T 101 at_ (at_ + 1) 1 else rdNum T 101 at_ at_ 2) else
  if c = 97 then rdName dNames T 97 at_ else
  if c = 98 then rdName mNames T 98 at_ else
  if c = 115 then rdTime T at_ else rdNum T c at_ at_ 2
def rdS (T : List UInt8) (s : Stp) (at_ : Nat) : Sum Nat (Nat × List It) :=
  match s with
  | .dir c => rd1 T c at_
  | .byte b => if T[at_]? = some b then .inr (at_ + 1, []) else .inl at_
def rdL (T : List UInt8) : List Stp → Nat → List It → Sum Nat (Nat × List It)
  | [], at_, acc => .inr (at_, acc)
  | s :: r, at_, acc =>
    match rdS T s at_ with
    | .inl q => .inl q
    | .inr (at', its) => rdL T r at' (acc ++ its)
def thenR (r : Sum Nat (Nat × List It)) (f : Nat → List It → Sum Nat (Nat × List It)) : Sum Nat (Nat × List It) :=
  match r with
  | .inl q => .inl q
  | .inr x => f x.1 x.2
theorem rdL_cons (T : List UInt8) (s : Stp) (r : List Stp) (at_ : Nat) (acc : List It) : rdL T (s :: r) at_ acc = thenR (rdS T s at_) fun a its => rdL T r a (acc ++ its) := by
  rw [rdL]; cases rdS T s at_ <;> rfl
theorem rdL_append (T : List UInt8) : ∀ (a b : List Stp) (at_ : Nat) (acc : List It), rdL T (a ++ b) at_ acc = thenR (rdL T a at_ acc) fun at' acc' => rdL T b at' acc'
  | [], b, at_, acc => rfl
  | s :: a, b, at_, acc => by
    rw [List.cons_append, rdL_cons, rdL_cons]
    cases rdS T s at_ with
    | inl q => rfl
    | inr x => exact rdL_append T a b x.1 (acc ++ x.2)
theorem rdL_acc (T : List UInt8) : ∀ (a : List Stp) (at_ : Nat) (acc : List It), rdL T a at_ acc = thenR (rdL T a at_ []) fun at' its => .inr (at', acc ++ its)
  | [], at_, acc => by simp [rdL, thenR]
  | s :: a, at_, acc => by
    rw [rdL_cons, rdL_cons]
    cases rdS T s at_ with
    | inl q => rfl
    | inr x =>
      show rdL T a x.1 (acc ++ x.2) = thenR (rdL T a x.1 ([] ++ x.2)) _
      rw [rdL_acc T a x.1 (acc ++ x.2), rdL_acc T a x.1 ([] ++ x.2)]
      cases rdL T a x.1 [] with
      | inl q => rfl
      | inr y => simp [thenR]
theorem stepsOf_cons (p : UInt8 × UInt8) (ps : List (UInt8 × UInt8)) : stepsOf (p :: ps) = (if p.1 = 0 then [.byte p.2] else expand p.1) ++ stepsOf ps := rfl
theorem stepsOf_snoc (ps : List (UInt8 × UInt8)) (p : UInt8 × UInt8) : stepsOf (ps ++ [p]) = stepsOf ps ++ (if p.1 = 0 then [.byte p.2] else expand p.1) := by
  unfold stepsOf; rw [List.flatMap_append]; simp

/-! numbers and their texts -/
theorem isDg_iff (c : UInt8) : isDg c = true ↔ 48 ≤ c.toNat ∧ c.toNat ≤ 57 := by unfold isDg; simp
theorem isDg_getD {T : List UInt8} {a : Nat} (h : isDg (T.getD a 0) = true) : a < T.length := by
  rcases Nat.lt_or_ge a T.length with h' | h'
  · exact h'
  · rw [List.getD_eq_getElem?_getD, List.getElem?_eq_none h'] at h
    exact absurd h (by decide)
theorem piece_snoc {T : List UInt8} {a b : Nat} (h : a ≤ b) (hb : b < T.length) : piece T a (b + 1) = piece T a b ++ [T.getD b 0] := by
  unfold piece
  rw [show b + 1 - a = (b - a) + 1 by omega, List.take_succ_eq_append_getElem (by rw [List.length_drop]; omega)]
  congr 1
  rw [List.getElem_drop, List.getD_eq_getElem?_getD, List.getElem?_eq_getElem hb]
  simp [show a + (b - a) = b by omega]
theorem piece_cons {T : List UInt8} {a b : Nat} (h : a < b) (ha : a < T.length) : piece T a b = T.getD a 0 :: piece T (a + 1) b := by
  unfold piece
  rw [List.drop_eq_getElem_cons ha, show b - a = (b - (a + 1)) + 1 by omega, List.take_succ_cons]
  congr 1
  rw [List.getD_eq_getElem?_getD, List.getElem?_eq_getElem ha]; rfl
theorem digsN_val {T : List UInt8} : ∀ (k at_ : Nat) (acc : Int) (v : Int), digsN T at_ k acc = .inr v → DigL (piece T at_ (at_ + k)) ∧ (piece T at_ (at_ + k)).length = k ∧ v = acc * (10 : Int) ^ k + (valL (piece T at_ (at_ + k)) : Int) ∧ at_ + k ≤ max at_ T.length
  | 0, at_, acc, v, h => by
    have hv : acc = v := by simpa [digsN] using h
    subst hv
    have : piece T at_ (at_ + 0) = [] := by unfold piece; simp
    rw [this]
    refine ⟨by intro c hc; simp at hc, rfl, by simp [valL], by omega⟩
  | k + 1, at_, acc, v, h => by
    rw [digsN] at h
    by_cases hd : isDg (T.getD at_ 0) = true
    · rw [if_pos hd] at h
      obtain ⟨h1, h2, h3, h4⟩ := digsN_val k (at_ + 1) _ v h
      have hlt := isDg_getD hd
      have e : piece T at_ (at_ + (k + 1)) = T.getD at_ 0 :: piece T (at_ + 1) (at_ + 1 + k) := by
        rw [piece_cons (by omega) hlt, show at_ + (k + 1) = at_ + 1 + k by omega]
      rw [e]
      have hdd := (isDg_iff _).1 hd
      refine ⟨?_, by simp [h2], ?_, by omega⟩
      · intro c hc
        rcases List.mem_cons.1 hc with rfl | hc
        · exact hdd
        · exact h1 c hc
      · rw [h3, valL, h2]
        have e2 : (((T.getD at_ 0).toNat - 48 : Nat) : Int) = ((T.getD at_ 0).toNat : Int) - 48 := by omega
        rw [Int.natCast_add, Int.natCast_mul, e2, Int.natCast_pow, Int.pow_succ]
        show (10 * acc + (((T.getD at_ 0).toNat : Int) - 48)) * 10 ^ k + _ = acc * (10 ^ k * 10) + ((((T.getD at_ 0).toNat : Int) - 48) * 10 ^ k + _)
        rw [Int.add_mul, Int.mul_comm 10 acc, Int.mul_assoc, Int.mul_comm 10 (10 ^ k), Int.add_assoc]
    · rw [if_neg hd] at h; cases h
end Go.Pw

/- DReadQ -/
set_option linter.unusedVariables false
namespace Go.Pw
open Go.RowKit
theorem dec_ok (u : Nat) : DigL (Lib.decDigits u) ∧ valL (Lib.decDigits u) = u ∧ (0 < u → Canon (Lib.decDigits u)) ∧ Lib.decDigits u ≠ [] := by
  induction u using Nat.strongRecOn with
  | _ u ih =>
    by_cases h : u < 10
    · rw [Lib.decDigits_one h]
      have hv : (UInt8.ofNat (48 + u)).toNat = 48 + u := by simp; omega
      have hd : DigL [UInt8.ofNat (48 + u)] := by
        intro c hc
        obtain rfl := List.mem_singleton.1 hc
        omega
      refine ⟨hd, ?_, fun h0 => ⟨hd, fun _ => ?_⟩, by simp⟩
      · simp [valL]; omega
      · intro e
        have := congrArg UInt8.toNat e
        rw [List.getElem_cons_zero, hv] at this
        simp at this; omega
    · obtain ⟨h1, h2, h3, h4⟩ := ih (u / 10) (by omega)
      rw [Lib.decDigits, dif_neg h]
      have hv : (UInt8.ofNat (48 + u % 10)).toNat = 48 + u % 10 := by simp; omega
      have hd : DigL (Lib.decDigits (u / 10) ++ [UInt8.ofNat (48 + u % 10)]) := by
        intro c hc
        rcases List.mem_append.1 hc with hc | hc
        · exact h1 c hc
        · obtain rfl := List.mem_singleton.1 hc
          omega
      refine ⟨hd, ?_, fun h0 => ⟨hd, fun hl => ?_⟩, by simp⟩
      · rw [valL_append, h2]
        simp [valL]; omega
      · have hc := h3 (by omega)
        have hpos : 0 < (Lib.decDigits (u / 10)).length := List.length_pos_iff.2 h4
        rw [List.getElem_append_left hpos]
        exact hc.2 hpos
/-- leading zeros and blanks are taken away, but one byte stays -/
def stripZ : List UInt8 → List UInt8
  | [] => []
  | [c] => [c]
  | c :: d :: r => if c = 48 ∨ c = 32 then stripZ (d :: r) else c :: d :: r
theorem stripZ_go {c : UInt8} {l : List UInt8} (hl : l ≠ []) (h : c = 48 ∨ c = 32) : stripZ (c :: l) = stripZ l := by
  cases l with
  | nil => exact absurd rfl hl
  | cons d r => rw [stripZ, if_pos h]
theorem stripZ_stop {c : UInt8} {l : List UInt8} (h : ¬ (c = 48 ∨ c = 32)) : stripZ (c :: l) = c :: l := by
  cases l with
  | nil => rfl
  | cons d r => rw [stripZ, if_neg h]
theorem stripZ_dig : ∀ l : List UInt8, DigL l → l ≠ [] → stripZ l = Lib.decDigits (valL l)
  | [], _, h => absurd rfl h
  | [c], hd, _ => by
    have hc := hd c (by simp)
    have e : valL [c] = c.toNat - 48 := by simp [valL]
    rw [e, Lib.decDigits_one (by omega)]
    show [c] = _
    congr 1
    apply UInt8.toNat_inj.1
    simp; omega
  | c :: d :: r, hd, _ => by
    have hd2 : DigL (d :: r) := fun x hx => hd x (List.mem_cons_of_mem _ hx)
    have hc := hd c (by simp)
    by_cases h : c = 48
    · rw [stripZ_go (by simp) (.inl h), stripZ_dig (d :: r) hd2 (by simp)]
      congr 1
      subst h
      have e0 : (48 : UInt8).toNat - 48 = 0 := rfl
      rw [valL.eq_2 48, e0, Nat.zero_mul, Nat.zero_add]
    · have h32 : ¬ c = 32 := fun e => by subst e; simp at hc
      rw [stripZ_stop (by simp [h, h32])]
      have hca : Canon (c :: d :: r) := ⟨hd, fun _ e => h e⟩
      have hge := valL_ge hca (by simp)
      have hp := Nat.one_le_pow ((c :: d :: r).length - 1) 10 (by decide)
      obtain ⟨a1, a2, a3, a4⟩ := dec_ok (valL (c :: d :: r))
      exact canon_inj hca (a3 (by omega)) a2.symm
/-- a part as it is compared -/
def plainS (l : List UInt8) : List UInt8 :=
  match l with
  | 45 :: r => if stripZ r = [48] then [48] else 45 :: stripZ r
  | _ => stripZ l
theorem plainS_neg (r : List UInt8) : plainS (45 :: r) = if stripZ r = [48] then [48] else 45 :: stripZ r := rfl
theorem plainS_pos {l : List UInt8} (h : ∀ r, l ≠ 45 :: r) : plainS l = stripZ l := by
  unfold plainS
  split
  · rename_i r; exact absurd rfl (h r)
  · rfl
theorem dig_not45 {l : List UInt8} (h : DigL l) : ∀ r, l ≠ 45 :: r := fun r e => by
  have := h 45 (by rw [e]; simp)
  simp at this
theorem plainS_dig {l : List UInt8} (h : DigL l) (h0 : l ≠ []) : plainS l = Lib.itoa (valL l : Int) := by
  rw [plainS_pos (dig_not45 h), stripZ_dig l h h0, Lib.itoa_nonneg]
theorem plainS_minus {l : List UInt8} (h : DigL l) (h0 : l ≠ []) : plainS (45 :: l) = Lib.itoa (-(valL l : Int)) := by
  rw [plainS_neg, stripZ_dig l h h0]
  by_cases hz : valL l = 0
  · have e : Lib.itoa (-((0 : Nat) : Int)) = [48] := by
      rw [show (-((0 : Nat) : Int)) = ((0 : Nat) : Int) by decide, Lib.itoa_nonneg, Lib.decDigits_one (by decide)]; rfl
    rw [hz, e, Lib.decDigits_one (by decide)]
    rfl
  · rw [Lib.itoa_neg _ (by omega), if_neg]
    intro e
    have := congrArg valL e
    rw [(dec_ok _).2.1] at this
    simp [valL] at this
    exact hz this
theorem plainS_blank {d : UInt8} (h : 48 ≤ d.toNat ∧ d.toNat ≤ 57) : plainS [32, d] = Lib.itoa ((d.toNat : Int) - 48) := by
  have hd : DigL [d] := by intro c hc; obtain rfl := List.mem_singleton.1 hc; exact h
  rw [plainS_pos (fun r e => by cases e), stripZ_go (by simp) (.inr rfl), stripZ_dig [d] hd (by simp), show ((d.toNat : Int) - 48) = ((valL [d] : Nat) : Int) by simp [valL]; omega, Lib.itoa_nonneg]
theorem itoa_inj {a b : Int} (h : Lib.itoa a = Lib.itoa b) : a = b := by
  have key : ∀ u v : Nat, 1 ≤ u → Lib.itoa (-(u : Int)) ≠ Lib.itoa (v : Int) := fun u v hu e => by
    rw [Lib.itoa_neg u hu, Lib.itoa_nonneg] at e
    exact dig_not45 (dec_ok v).1 _ e.symm
  rcases Int.lt_or_le a 0 with ha | ha <;> rcases Int.lt_or_le b 0 with hb | hb
  · obtain ⟨u, rfl⟩ : ∃ u : Nat, a = -(u : Int) := ⟨a.natAbs, by omega⟩
    obtain ⟨v, rfl⟩ : ∃ v : Nat, b = -(v : Int) := ⟨b.natAbs, by omega⟩
    rw [Lib.itoa_neg u (by omega), Lib.itoa_neg v (by omega)] at h
    have := congrArg valL (List.cons.inj h).2
    rw [(dec_ok u).2.1, (dec_ok v).2.1] at this
    omega
  · obtain ⟨u, rfl⟩ : ∃ u : Nat, a = -(u : Int) := ⟨a.natAbs, by omega⟩
    obtain ⟨v, rfl⟩ : ∃ v : Nat, b = (v : Int) := ⟨b.toNat, by omega⟩
    exact absurd h (key u v (by omega))
  · obtain ⟨u, rfl⟩ : ∃ u : Nat, a = (u : Int) := ⟨a.toNat, by omega⟩
    obtain ⟨v, rfl⟩ : ∃ v : Nat, b = -(v : Int) := ⟨b.natAbs, by omega⟩
    exact absurd h.symm (key v u (by omega))
  · obtain ⟨u, rfl⟩ : ∃ u : Nat, a = (u : Int) := ⟨a.toNat, by omega⟩
    obtain ⟨v, rfl⟩ : ∃ v : Nat, b = (v : Int) := ⟨b.toNat, by omega⟩
    rw [Lib.itoa_nonneg, Lib.itoa_nonneg] at h
    have := congrArg valL h
    rw [(dec_ok u).2.1, (dec_ok v).2.1] at this
    omega
/-- a number that is filled up with zeros -/
theorem fillN_dig {n : Int} (h0 : 0 ≤ n) (w : Nat) : DigL (fillN n w true) ∧ fillN n w true ≠ [] ∧ (valL (fillN n w true) : Int) = n := by
  obtain ⟨u, rfl⟩ : ∃ u : Nat, n = (u : Int) := ⟨n.toNat, by omega⟩
  have e : fillN (u : Int) w true = List.replicate (w - (Lib.itoa (u : Int)).length) 48 ++ Lib.decDigits u := by
    have hn : ¬ (u : Int) < 0 := by omega
    unfold fillN
    simp only [Bool.true_and, decide_eq_true_eq, if_neg hn, if_true, Lib.itoa_nonneg]
  rw [e]
  obtain ⟨a1, a2, a3, a4⟩ := dec_ok u
  refine ⟨?_, by simp [a4], ?_⟩
  · intro c hc
    rcases List.mem_append.1 hc with hc | hc
    · rw [List.eq_of_mem_replicate hc]; decide
    · exact a1 c hc
  · rw [valL_pad, a2]
theorem plainS_fill {n : Int} (h0 : 0 ≤ n) (w : Nat) : plainS (fillN n w true) = Lib.itoa n := by
  obtain ⟨h1, h2, h3⟩ := fillN_dig h0 w
  rw [plainS_dig h1 h2, h3]
theorem plainS_itoa (n : Int) : plainS (Lib.itoa n) = Lib.itoa n := by
  rcases Int.lt_or_le n 0 with h | h
  · obtain ⟨u, rfl⟩ : ∃ u : Nat, n = -(u : Int) := ⟨n.natAbs, by omega⟩
    obtain ⟨a1, a2, a3, a4⟩ := dec_ok u
    rw [Lib.itoa_neg u (by omega), plainS_minus a1 a4, a2, Lib.itoa_neg u (by omega)]
  · obtain ⟨u, rfl⟩ : ∃ u : Nat, n = (u : Int) := ⟨n.toNat, by omega⟩
    obtain ⟨a1, a2, a3, a4⟩ := dec_ok u
    rw [Lib.itoa_nonneg, plainS_dig a1 a4, a2, Lib.itoa_nonneg]
theorem fill_e2 {d : Int} (h0 : 0 ≤ d) (h1 : d ≤ 31) : fillN d 2 false = if d < 10 then 32 :: Lib.itoa d else Lib.itoa d := by
  have key : ∀ k : Fin 32, fillN (k.val : Int) 2 false = if (k.val : Int) < 10 then 32 :: Lib.itoa (k.val : Int) else Lib.itoa (k.val : Int) := by decide +kernel
  obtain ⟨k, rfl⟩ : ∃ k : Nat, d = (k : Int) := ⟨d.toNat, by omega⟩
  exact key ⟨k, by omega⟩
theorem plainS_fe {d : Int} (h0 : 0 ≤ d) (h1 : d ≤ 31) : plainS (fillN d 2 false) = Lib.itoa d := by
  rw [fill_e2 h0 h1]
  by_cases h : d < 10
  · rw [if_pos h]
    obtain ⟨u, rfl⟩ : ∃ u : Nat, d = (u : Int) := ⟨d.toNat, by omega⟩
    obtain ⟨a1, a2, a3, a4⟩ := dec_ok u
    rw [Lib.itoa_nonneg, plainS_pos (fun r e => by cases e), stripZ_go a4 (.inr rfl), stripZ_dig _ a1 a4, a2]
  · rw [if_neg h, plainS_itoa]

/-- the number that a directive tells of a time -/
def toldN (x : DMo) (c : UInt8) : Int :=
  if c = 89 then x.y else if c = 121 then x.y % 100 else if c = 109 ∨ c = 98 then x.m else if c = 100 ∨ c = 101 then x.d else
  if c = 72 then x.h else if c = 77 then x.mi else if c = 83 then x.s else if c = 106 then x.day else if c = 117 ∨ c = 97 then x.wk else x.t
def numLetters : List UInt8 := [89, 121, 109, 100, 72, 77, 83, 106]
/-- what was read for a directive is what such a directive may tell -/
def ItOk (i : It) : Prop :=
  (i.c ∈ numLetters ∧ DigL i.p ∧ i.p ≠ [] ∧ i.n = (valL i.p : Int)) ∨
  (i.c = 117 ∧ DigL i.p ∧ i.p ≠ [] ∧ i.n = (valL i.p : Int)) ∨
  (i.c = 101 ∧ plainS i.p = Lib.itoa i.n) ∨
  (i.c = 97 ∧ 1 ≤ i.n ∧ i.n ≤ 7 ∧ i.p = dNames.getD (i.n - 1).toNat []) ∨
  (i.c = 98 ∧ 1 ≤ i.n ∧ i.n ≤ 12 ∧ i.p = mNames.getD (i.n - 1).toNat []) ∨
  (i.c = 115 ∧ plainS i.p = Lib.itoa i.n)
theorem names7 : ∀ i j : Fin 7, (plainS (dNames.getD i.val []) = plainS (dNames.getD j.val [])) ↔ i = j := by decide +kernel
theorem names12 : ∀ i j : Fin 12, (plainS (mNames.getD i.val []) = plainS (mNames.getD j.val [])) ↔ i = j := by decide +kernel
theorem itoa_iff {a b : Int} : Lib.itoa a = Lib.itoa b ↔ b = a := ⟨fun h => (itoa_inj h).symm, fun h => by rw [h]⟩
/-- parts are equal just if the numbers are -/
theorem same_iff {x : DMo} (hx : x.good) {i : It} (h : ItOk i) : plainS (dTold x i.c) = plainS i.p ↔ i.n = toldN x i.c := by
  obtain ⟨⟨y0, y1⟩, ⟨m0, m1⟩, ⟨d0, d1⟩, ⟨h0, h1⟩, ⟨i0, i1⟩, ⟨s0, s1⟩, ⟨w0, w1⟩, ⟨j0, j1⟩, ⟨t0, t1⟩⟩ := hx
  obtain ⟨c, n, p⟩ := i
  rcases h with ⟨hc, hd, hp, hn⟩ | ⟨hc, hd, hp, hn⟩ | ⟨hc, hp⟩ | ⟨hc, hn0, hn1, hp⟩ | ⟨hc, hn0, hn1, hp⟩ | ⟨hc, hp⟩
  · simp only at hc hd hp hn ⊢
    rw [plainS_dig hd hp, ← hn]
    unfold numLetters at hc
    simp only [List.mem_cons, List.not_mem_nil, or_false] at hc
    rcases hc with rfl | rfl | rfl | rfl | rfl | rfl | rfl | rfl
    · rw [show dTold x 89 = fillN x.y 4 true by simp [dTold], plainS_fill y0, itoa_iff]; simp [toldN]
    · rw [show dTold x 121 = fillN (x.y % 100) 2 true by simp [dTold], plainS_fill (by omega), itoa_iff]; simp [toldN]
    · rw [show dTold x 109 = fillN x.m 2 true by simp [dTold], plainS_fill (by omega), itoa_iff]; simp [toldN]
    · rw [show dTold x 100 = fillN x.d 2 true by simp [dTold], plainS_fill d0, itoa_iff]; simp [toldN]
    · rw [show dTold x 72 = fillN x.h 2 true by simp [dTold], plainS_fill h0, itoa_iff]; simp [toldN]
    · rw [show dTold x 77 = fillN x.mi 2 true by simp [dTold], plainS_fill i0, itoa_iff]; simp [toldN]
    · rw [show dTold x 83 = fillN x.s 2 true by simp [dTold], plainS_fill s0, itoa_iff]; simp [toldN]
    · rw [show dTold x 106 = fillN x.day 3 true by simp [dTold], plainS_fill j0, itoa_iff]; simp [toldN]
  · simp only at hc hd hp hn ⊢
    subst hc
    rw [plainS_dig hd hp, ← hn, show dTold x 117 = Lib.itoa x.wk by simp [dTold], plainS_itoa, itoa_iff]; simp [toldN]
  · simp only at hc hp ⊢
    subst hc
    rw [hp, show dTold x 101 = fillN x.d 2 false by simp [dTold], plainS_fe d0 d1, itoa_iff]; simp [toldN]
  · simp only at hc hn0 hn1 hp ⊢
    subst hc
    have := names7 ⟨(x.wk - 1).toNat, by omega⟩ ⟨(n - 1).toNat, by omega⟩
    rw [hp, show dTold x 97 = dNames.getD (x.wk - 1).toNat [] by simp [dTold], this, Fin.mk.injEq, show toldN x 97 = x.wk by simp [toldN]]
    omega
  · simp only at hc hn0 hn1 hp ⊢
    subst hc
    have := names12 ⟨(x.m - 1).toNat, by omega⟩ ⟨(n - 1).toNat, by omega⟩
    rw [hp, show dTold x 98 = mNames.getD (x.m - 1).toNat [] by simp [dTold], this, Fin.mk.injEq, show toldN x 98 = x.m by simp [toldN]]
    omega
  · simp only at hc hp ⊢
    subst hc
    rw [hp, show dTold x 115 = Lib.itoa x.t by simp [dTold], plainS_itoa, itoa_iff]; simp [toldN]
end Go.Pw

/- DReadR -/
set_option linter.unusedVariables false
namespace Go.Pw
open Go.RowKit
theorem piece_len {T : List UInt8} {a b : Nat} (h : b ≤ T.length) : (piece T a b).length = b - a := by
  unfold piece; rw [List.length_take, List.length_drop]; omega
theorem rdNum_ok {T : List UInt8} {c : UInt8} {a m a' : Nat} {its : List It} (hm : 0 < m) (hc : c ∈ numLetters ∨ c = 117 ∨ c = 101) (h : rdNum T c a a m = .inr (a', its)) :
    a' = a + m ∧ a' ≤ T.length ∧ (∀ i ∈ its, ItOk i ∧ 0 ≤ i.n ∧ i.n < (10 : Int) ^ m ∧ i.c = c) ∧ its.length = 1 := by
  unfold rdNum at h
  cases hd : digsN T a m 0 with
  | inl q => rw [hd] at h; cases h
  | inr v =>
    rw [hd] at h
    simp only [Sum.inr.injEq, Prod.mk.injEq] at h
    obtain ⟨rfl, rfl⟩ := h
    obtain ⟨h1, h2, h3, h4⟩ := digsN_val m a 0 v hd
    rw [Int.zero_mul, Int.zero_add] at h3
    have hlt : a < T.length := by
      cases m with
      | zero => omega
      | succ m =>
        rw [digsN] at hd
        by_cases hg : isDg (T.getD a 0) = true
        · exact isDg_getD hg
        · rw [if_neg hg] at hd; cases hd
    have hne : piece T a (a + m) ≠ [] := by intro e; rw [e] at h2; simp at h2; omega
    refine ⟨rfl, by omega, ?_, rfl⟩
    intro i hi
    obtain rfl := List.mem_singleton.1 hi
    have hv := valL_lt _ h1
    rw [h2] at hv
    refine ⟨?_, by simp only; omega, by simp only; rw [h3]; exact_mod_cast hv, rfl⟩
    rcases hc with hc | hc | hc
    · exact .inl ⟨hc, h1, hne, h3⟩
    · exact .inr (.inl ⟨hc, h1, hne, h3⟩)
    · refine .inr (.inr (.inl ⟨hc, ?_⟩))
      simp only
      rw [plainS_dig h1 hne, ← h3]
theorem rdE_ok {T : List UInt8} {a a' : Nat} {its : List It} (hb : T.getD a 0 = 32) (h : rdNum T 101 a (a + 1) 1 = .inr (a', its)) :
    a' = a + 2 ∧ a' ≤ T.length ∧ (∀ i ∈ its, ItOk i ∧ 0 ≤ i.n ∧ i.n < (10 : Int) ^ 1 ∧ i.c = 101) ∧ its.length = 1 := by
  unfold rdNum at h
  cases hd : digsN T (a + 1) 1 0 with
  | inl q => rw [hd] at h; cases h
  | inr v =>
    rw [hd] at h
    simp only [Sum.inr.injEq, Prod.mk.injEq] at h
    obtain ⟨rfl, rfl⟩ := h
    obtain ⟨h1, h2, h3, h4⟩ := digsN_val 1 (a + 1) 0 v hd
    rw [Int.zero_mul, Int.zero_add] at h3
    have hg : isDg (T.getD (a + 1) 0) = true := by
      rw [digsN] at hd
      by_cases hg : isDg (T.getD (a + 1) 0) = true
      · exact hg
      · rw [if_neg hg] at hd; cases hd
    have hlt := isDg_getD hg
    have hv := valL_lt _ h1
    rw [h2] at hv
    refine ⟨by omega, by omega, ?_, rfl⟩
    intro i hi
    obtain rfl := List.mem_singleton.1 hi
    refine ⟨.inr (.inr (.inl ⟨rfl, ?_⟩)), by simp only; omega, by simp only; rw [h3]; exact_mod_cast hv, rfl⟩
    simp only
    have e1 : piece T a (a + 1 + 1) = [32, T.getD (a + 1) 0] := by
      rw [piece_cons (by omega) (by omega), piece_cons (by omega) hlt, hb]
      unfold piece; simp
    have e2 : piece T (a + 1) (a + 1 + 1) = [T.getD (a + 1) 0] := by
      rw [piece_cons (by omega) hlt]
      unfold piece; simp
    have hdd := (isDg_iff _).1 hg
    rw [e1, plainS_blank hdd, h3, e2]
    obtain ⟨d, hd⟩ : ∃ d, T.getD (a + 1) 0 = d := ⟨_, rfl⟩
    rw [hd] at hdd ⊢
    congr 1
    simp [valL]; omega
theorem mem_take3 {names : List (List UInt8)} (hn : ∀ s ∈ names, s.length = 3) {T : List UInt8} {a : Nat} (h : hasP names T a 3 = true) :
    nameK names T a < names.length ∧ piece T a (a + 3) = names.getD (nameK names T a) [] ∧ a + 3 ≤ T.length := by
  unfold hasP at h
  have hlt : nameK names T a < names.length := List.findIdx_lt_length.2 (by obtain ⟨s, h1, h2⟩ := List.any_eq_true.1 h; exact ⟨s, h1, h2⟩)
  have hx := List.findIdx_getElem (w := hlt)
  rw [beq_iff_eq] at hx
  have h3 := hn _ (List.getElem_mem hlt)
  have e : names.getD (nameK names T a) [] = names[nameK names T a] := by
    rw [List.getD_eq_getElem?_getD, List.getElem?_eq_getElem hlt]; rfl
  have hx2 : (names[nameK names T a]).take 3 = (T.drop a).take 3 := hx
  have ht : (names[nameK names T a]).take 3 = names[nameK names T a] := List.take_of_length_le (by omega)
  rw [ht] at hx2
  refine ⟨hlt, ?_, ?_⟩
  · rw [e, hx2]; unfold piece; rw [show a + 3 - a = 3 by omega]
  · have := congrArg List.length hx2
    rw [h3, List.length_take, List.length_drop] at this
    omega
theorem digCnt_le (T : List UInt8) : ∀ k a, digCnt T a k ≤ k ∧ (0 < digCnt T a k → a + digCnt T a k ≤ T.length) ∧ DigL (piece T a (a + digCnt T a k))
  | 0, a => ⟨Nat.le_refl _, fun h => absurd h (by simp [digCnt]), by rw [digCnt]; unfold piece; simp; intro c hc; simp at hc⟩
  | k + 1, a => by
    rw [digCnt]
    by_cases hg : isDg (T.getD a 0) = true
    · rw [if_pos hg]
      obtain ⟨h1, h2, h3⟩ := digCnt_le T k (a + 1)
      have hlt := isDg_getD hg
      refine ⟨by omega, fun _ => ?_, ?_⟩
      · by_cases h0 : 0 < digCnt T (a + 1) k
        · have := h2 h0; omega
        · omega
      · rw [show a + (digCnt T (a + 1) k + 1) = a + 1 + digCnt T (a + 1) k by omega, piece_cons (by omega) hlt]
        intro c hc
        rcases List.mem_cons.1 hc with rfl | hc
        · exact (isDg_iff _).1 hg
        · exact h3 c hc
    · rw [if_neg hg]
      refine ⟨by omega, fun h => absurd h (by omega), ?_⟩
      unfold piece; simp; intro c hc; simp at hc
theorem rdTime_ok {T : List UInt8} {a a' : Nat} {its : List It} (h : rdTime T a = .inr (a', its)) :
    a < a' ∧ a' ≤ T.length ∧ (∀ i ∈ its, ItOk i ∧ -(10 : Int) ^ 12 < i.n ∧ i.n < (10 : Int) ^ 12 ∧ i.c = 115) ∧ its.length = 1 := by
  unfold rdTime at h
  simp only at h
  obtain ⟨k1, k2, k3⟩ := digCnt_le T 12 (a + signOf T a)
  by_cases h0 : digCnt T (a + signOf T a) 12 = 0
  · rw [if_pos h0] at h; cases h
  · rw [if_neg h0] at h
    simp only [Sum.inr.injEq, Prod.mk.injEq] at h
    obtain ⟨rfl, rfl⟩ := h
    have hle := k2 (by omega)
    have hlen := piece_len (T := T) (a := a + signOf T a) hle
    obtain ⟨D, hD⟩ : ∃ D, piece T (a + signOf T a) (a + signOf T a + digCnt T (a + signOf T a) 12) = D := ⟨_, rfl⟩
    rw [hD] at k3 hlen ⊢
    have hv := valL_lt _ k3
    have hv2 : valL D < 10 ^ 12 := Nat.lt_of_lt_of_le hv (Nat.pow_le_pow_right (by decide) (by omega))
    have hv3 : (valL D : Int) < (10 : Int) ^ 12 := by exact_mod_cast hv2
    have hDne : D ≠ [] := by intro e; rw [e] at hlen; simp at hlen; omega
    refine ⟨by omega, hle, ?_, rfl⟩
    intro i hi
    obtain rfl := List.mem_singleton.1 hi
    by_cases hm : T.getD a 0 = 45
    · have hs : signOf T a = 1 := by unfold signOf; rw [if_pos hm]
      rw [hs] at hD ⊢
      have hp : piece T a (a + 1 + digCnt T (a + 1) 12) = 45 :: D := by
        rw [piece_cons (by omega) (by omega), hm, hD]
      refine ⟨.inr (.inr (.inr (.inr (.inr ⟨rfl, ?_⟩)))), ?_, ?_, rfl⟩
      · simp only
        rw [hp, if_pos hm, plainS_minus k3 hDne]
      · simp only; rw [if_pos hm]; omega
      · simp only; rw [if_pos hm]; omega
    · have hs : signOf T a = 0 := by unfold signOf; rw [if_neg hm]
      rw [hs, Nat.add_zero] at hD ⊢
      refine ⟨.inr (.inr (.inr (.inr (.inr ⟨rfl, ?_⟩)))), ?_, ?_, rfl⟩
      · simp only
        rw [hD, if_neg hm, plainS_dig k3 hDne]
      · simp only; rw [if_neg hm]; omega
      · simp only; rw [if_neg hm]; omega
/-- the letters of directives that tell one thing -/
def oneLetters : List UInt8 := [89, 121, 109, 100, 72, 77, 83, 106, 101, 117, 97, 98, 115]
theorem dNames3 : ∀ s ∈ dNames, s.length = 3 := by decide
theorem mNames3 : ∀ s ∈ mNames, s.length = 3 := by decide
/-- what one step reads -/
def ItGood (c : UInt8) (i : It) : Prop := ItOk i ∧ -1000000000000 < i.n ∧ i.n < 1000000000000 ∧ i.c = c
theorem rd1_ok {T : List UInt8} {c : UInt8} {a a' : Nat} {its : List It} (hc : c ∈ oneLetters) (h : rd1 T c a = .inr (a', its)) :
    a' ≤ T.length ∧ (∀ i ∈ its, ItGood c i) ∧ its.length = 1 := by
  unfold oneLetters at hc
  simp only [List.mem_cons, List.not_mem_nil, or_false] at hc
  have num : ∀ (c : UInt8) (m : Nat), 0 < m → m ≤ 4 → (c ∈ numLetters ∨ c = 117 ∨ c = 101) → rdNum T c a a m = .inr (a', its) → a' ≤ T.length ∧ (∀ i ∈ its, ItGood c i) ∧ its.length = 1 := by
    intro c m hm hm4 hc h
    obtain ⟨h1, h2, h3, h4⟩ := rdNum_ok hm hc h
    refine ⟨h2, fun i hi => ?_, h4⟩
    obtain ⟨g1, g2, g3, g4⟩ := h3 i hi
    have hp : (10 : Int) ^ m ≤ 10000 := by
      match m, hm4 with
      | 0, _ | 1, _ | 2, _ | 3, _ | 4, _ => decide
    exact ⟨g1, by omega, by omega, g4⟩
  have nm : ∀ (c : UInt8) (names : List (List UInt8)), (∀ s ∈ names, s.length = 3) → names.length ≤ 12 → (∀ k, k < names.length → ItOk ⟨c, (k : Int) + 1, names.getD k []⟩) → rdName names T c a = .inr (a', its) → a' ≤ T.length ∧ (∀ i ∈ its, ItGood c i) ∧ its.length = 1 := by
    intro c names hn hl hk h
    unfold rdName at h
    by_cases h1 : hasP names T a 1 = false
    · rw [if_pos h1] at h; cases h
    · rw [if_neg h1] at h
      by_cases h2 : hasP names T a 2 = false
      · rw [if_pos h2] at h; cases h
      · rw [if_neg h2] at h
        by_cases h3 : hasP names T a 3 = false
        · rw [if_pos h3] at h; cases h
        · rw [if_neg h3] at h
          simp only [Sum.inr.injEq, Prod.mk.injEq] at h
          obtain ⟨rfl, rfl⟩ := h
          obtain ⟨k1, k2, k3⟩ := mem_take3 hn (by simpa using h3)
          refine ⟨k3, ?_, rfl⟩
          intro i hi
          obtain rfl := List.mem_singleton.1 hi
          rw [k2]
          exact ⟨hk _ k1, by simp only; omega, by simp only; omega, rfl⟩
  rcases hc with rfl | rfl | rfl | rfl | rfl | rfl | rfl | rfl | rfl | rfl | rfl | rfl | rfl
  · exact num 89 4 (by omega) (by omega) (.inl (by decide)) (by simpa [rd1] using h)
  · exact num 121 2 (by omega) (by omega) (.inl (by decide)) (by simpa [rd1] using h)
  · exact num 109 2 (by omega) (by omega) (.inl (by decide)) (by simpa [rd1] using h)
  · exact num 100 2 (by omega) (by omega) (.inl (by decide)) (by simpa [rd1] using h)
  · exact num 72 2 (by omega) (by omega) (.inl (by decide)) (by simpa [rd1] using h)
  · exact num 77 2 (by omega) (by omega) (.inl (by decide)) (by simpa [rd1] using h)
  · exact num 83 2 (by omega) (by omega) (.inl (by decide)) (by simpa [rd1] using h)
  · exact num 106 3 (by omega) (by omega) (.inl (by decide)) (by simpa [rd1] using h)
  · have h2 : (if T.getD a 0 = 32 then rdNum T 101 a (a + 1) 1 else rdNum T 101 a a 2) = .inr (a', its) := by simpa [rd1] using h
    by_cases hb : T.getD a 0 = 32
    · rw [if_pos hb] at h2
      obtain ⟨k1, k2, k3, k4⟩ := rdE_ok hb h2
      refine ⟨k2, fun i hi => ?_, k4⟩
      obtain ⟨g1, g2, g3, g4⟩ := k3 i hi
      exact ⟨g1, by omega, by omega, g4⟩
    · rw [if_neg hb] at h2
      exact num 101 2 (by omega) (by omega) (.inr (.inr rfl)) h2
  · exact num 117 1 (by omega) (by omega) (.inr (.inl rfl)) (by simpa [rd1] using h)
  · exact nm 97 dNames dNames3 (by decide) (fun k hk => .inr (.inr (.inr (.inl ⟨rfl, by simp only; omega, by have : dNames.length = 7 := rfl; simp only; omega, by simp only; rw [show ((k : Int) + 1 - 1).toNat = k by omega]⟩)))) (by simpa [rd1] using h)
  · exact nm 98 mNames mNames3 (by decide) (fun k hk => .inr (.inr (.inr (.inr (.inl ⟨rfl, by simp only; omega, by have : mNames.length = 12 := rfl; simp only; omega, by simp only; rw [show ((k : Int) + 1 - 1).toNat = k by omega]⟩))))) (by simpa [rd1] using h)
  · obtain ⟨k1, k2, k3, k4⟩ := rdTime_ok (T := T) (a := a) (a' := a') (its := its) (by simpa [rd1] using h)
    refine ⟨k2, fun i hi => ?_, k4⟩
    obtain ⟨g1, g2, g3, g4⟩ := k3 i hi
    exact ⟨g1, by omega, by omega, g4⟩
/-- the letter under which the program notes it -/
def mapL (c : UInt8) : UInt8 := if c = 101 then 100 else if c = 97 then 117 else if c = 98 then 109 else c
/-- what was read last for a letter -/
def lastOf (L : List It) (l : UInt8) (d : Int) : Int := L.foldl (fun a i => if mapL i.c = l then i.n else a) d
def timedL (L : List It) : Bool := L.any fun i => i.c == 115
end Go.Pw
namespace Go.Proofs.YtifpmigghplmoaaGreatDoor
open Go.RowKit Go.Pw
def dayOk (L : List It) : Bool := dayB (lastOf L 89 1970) (lastOf L 109 1) (lastOf L 100 1) && decide (lastOf L 72 0 ≤ 23) && decide (lastOf L 77 0 ≤ 59) && decide (lastOf L 83 0 ≤ 59)
def secsOf (L : List It) : Int := if timedL L then lastOf L 115 0 else 86400 * dn (lastOf L 89 1970) (lastOf L 109 1).toNat (lastOf L 100 1) + 3600 * lastOf L 72 0 + 60 * lastOf L 77 0 + lastOf L 83 0
end Go.Proofs.YtifpmigghplmoaaGreatDoor
namespace Go.Pw
open Go.RowKit
/-- does a part tell against the time -/
def clash (x : DMo) (timed : Bool) (i : It) : Bool := (timed || decide (mapL i.c ∈ ([121, 106, 117] : List UInt8))) && decide (i.n ≠ toldN x i.c)
theorem lastOf_snoc (L : List It) (i : It) (l : UInt8) (d : Int) : lastOf (L ++ [i]) l d = if mapL i.c = l then i.n else lastOf L l d := by
  unfold lastOf; rw [List.foldl_append]; rfl
theorem lastOf_app (L M : List It) (l : UInt8) (d : Int) : lastOf (L ++ M) l d = lastOf M l (lastOf L l d) := by
  unfold lastOf; rw [List.foldl_append]
theorem timedL_app (L M : List It) : timedL (L ++ M) = (timedL L || timedL M) := by unfold timedL; rw [List.any_append]
end Go.Pw
