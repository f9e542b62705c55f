/- What Date writes is read back: plain: what is told is read as the numbers of the time. -/
import Derived.Test.YtifpmigghplmoaaGreatDoorZDrJ
set_option linter.unusedVariables false
namespace Go.Pw
open Go.RowKit
/-- steps read just this text, wherever it stands, as these parts -/
def Reads (st : List Stp) (D : List UInt8) (its : List It) : Prop := ∀ pre post : List UInt8, rdL (pre ++ D ++ post) st pre.length [] = .inr (pre.length + D.length, its)
theorem Reads.nil : Reads [] [] [] := fun pre post => by simp [rdL]
theorem Reads.app {a b : List Stp} {D E : List UInt8} {its js : List It} (h : Reads a D its) (g : Reads b E js) : Reads (a ++ b) (D ++ E) (its ++ js) := fun pre post => by
  have h1 := h pre (E ++ post)
  have h2 := g (pre ++ D) post
  rw [List.length_append] at h2
  have e1 : pre ++ D ++ (E ++ post) = pre ++ (D ++ E) ++ post := by simp
  have e2 : pre ++ D ++ E ++ post = pre ++ (D ++ E) ++ post := by simp
  rw [e1] at h1
  rw [e2] at h2
  have := rdL_seq h1 h2
  rw [this, List.length_append, Nat.add_assoc]
theorem getD_mid (pre D post : List UInt8) (k : Nat) (h : k < D.length) : (pre ++ D ++ post).getD (pre.length + k) 0 = D.getD k 0 := by
  rw [List.getD_eq_getElem?_getD, List.getD_eq_getElem?_getD, List.append_assoc, List.getElem?_append_right (by omega), show pre.length + k - pre.length = k by omega, List.getElem?_append_left h]
theorem piece_mid (pre D post : List UInt8) : piece (pre ++ D ++ post) pre.length (pre.length + D.length) = D := by
  unfold piece
  rw [List.append_assoc, List.drop_left, show pre.length + D.length - pre.length = D.length by omega, List.take_left]
theorem drop_mid (pre D post : List UInt8) : (pre ++ D ++ post).drop pre.length = D ++ post := by
  rw [List.append_assoc, List.drop_left]
theorem digs_mid : ∀ (D pre post : List UInt8) (acc : Int), DigL D → digsN (pre ++ D ++ post) pre.length D.length acc = .inr (acc * (10 : Int) ^ D.length + (valL D : Int))
  | [], pre, post, acc, _ => by simp [digsN, valL]
  | c :: D, pre, post, acc, h => by
    have hc := h c List.mem_cons_self
    have hg : (pre ++ (c :: D) ++ post).getD pre.length 0 = c := by
      simp
    rw [List.length_cons, digsN, hg, if_pos ((isDg_iff c).2 hc)]
    have ih := digs_mid D (pre ++ [c]) post (10 * acc + ((c.toNat : Int) - 48)) (fun x hx => h x (List.mem_cons_of_mem _ hx))
    rw [List.length_append, List.length_singleton] at ih
    have e : pre ++ [c] ++ D ++ post = pre ++ (c :: D) ++ post := by simp
    rw [e] at ih
    rw [ih, valL]
    have e2 : ((c.toNat - 48 : Nat) : Int) = (c.toNat : Int) - 48 := by omega
    rw [Int.natCast_add, Int.natCast_mul, e2, Int.natCast_pow, Int.pow_succ]
    congr 1
    show (10 * acc + ((c.toNat : Int) - 48)) * 10 ^ D.length + _ = acc * (10 ^ D.length * 10) + (((c.toNat : Int) - 48) * 10 ^ D.length + _)
    rw [Int.add_mul, Int.mul_comm 10 acc, Int.mul_assoc, Int.mul_comm 10 (10 ^ D.length), Int.add_assoc]
theorem fill_exact {n : Int} {w : Nat} (h : 0 ≤ n) (h1 : n < (10 ^ w : Nat)) (hw : 1 ≤ w) : (fillN n w true).length = w := by
  obtain ⟨u, rfl⟩ : ∃ u : Nat, n = (u : Int) := ⟨n.toNat, by omega⟩
  have hl := dec_len (u := u) (k := w) (by omega) hw
  unfold fillN
  rw [if_neg (by simp), Lib.itoa_nonneg, List.length_append, List.length_replicate]
  omega
/-- a number of so many digits is read -/
theorem Reads.num {c : UInt8} {m : Nat} {n : Int} (hm : 1 ≤ m) (h : 0 ≤ n) (h1 : n < (10 ^ m : Nat)) (hc : ∀ T a, rd1 T c a = rdNum T c a a m) : Reads [.dir c] (fillN n m true) [⟨c, n, fillN n m true⟩] := fun pre post => by
  obtain ⟨g1, g2, g3⟩ := fillN_dig h m
  have hl := fill_exact h h1 hm
  obtain ⟨D, hD⟩ : ∃ D, fillN n m true = D := ⟨_, rfl⟩
  rw [hD] at g1 g2 g3 hl ⊢
  rw [rdL_one]
  show rd1 _ _ _ = _
  rw [hc]
  unfold rdNum
  have := digs_mid D pre post 0 g1
  rw [hl, g3, Int.zero_mul, Int.zero_add] at this
  have hp := piece_mid pre D post
  rw [hl] at hp
  rw [this]
  simp only [hp, hl]
theorem Reads.byte (b : UInt8) : Reads [.byte b] [b] [] := fun pre post => by
  rw [rdL_one]
  show (if (pre ++ [b] ++ post)[pre.length]? = some b then _ else _) = _
  rw [if_pos (by simp)]
  rfl
theorem names_all (names : List (List UInt8)) (h3 : ∀ s ∈ names, s.length = 3) (k : Nat) (hk : k < names.length) (hf : names.findIdx (fun s => s.take 3 == (names.getD k []).take 3) = k) {c : UInt8} (hc : ∀ T a, rd1 T c a = rdName names T c a) : Reads [.dir c] (names.getD k []) [⟨c, (k : Int) + 1, names.getD k []⟩] := fun pre post => by
  have hmem : names.getD k [] ∈ names := by
    rw [List.getD_eq_getElem?_getD, List.getElem?_eq_getElem hk]; exact List.getElem_mem hk
  have hl := h3 _ hmem
  obtain ⟨D, hD⟩ : ∃ D, names.getD k [] = D := ⟨_, rfl⟩
  rw [hD] at hl hf hmem ⊢
  rw [rdL_one]
  show rd1 _ _ _ = _
  rw [hc]
  have hdr := drop_mid pre D post
  have hh : ∀ n, n ≤ 3 → hasP names (pre ++ D ++ post) pre.length n = true := fun n hn => by
    unfold hasP
    refine List.any_eq_true.2 ⟨D, hmem, ?_⟩
    rw [hdr, List.take_append_of_le_length (by omega)]; simp
  have hk2 : nameK names (pre ++ D ++ post) pre.length = k := by
    unfold nameK
    rw [hdr, List.take_append_of_le_length (by omega)]
    exact hf
  unfold rdName
  rw [hh 1 (by omega), hh 2 (by omega), hh 3 (by omega), hk2]
  have hp := piece_mid pre D post
  rw [hl] at hp
  simp only [Bool.true_eq_false, if_false, hp, hl]
theorem names_one : ∀ k : Fin 7, dNames.findIdx (fun s => s.take 3 == (dNames.getD k.val []).take 3) = k.val := by decide +kernel
theorem names_two : ∀ k : Fin 12, mNames.findIdx (fun s => s.take 3 == (mNames.getD k.val []).take 3) = k.val := by decide +kernel
/-- the part that is told for a letter -/
def itT (X : DMo) (c : UInt8) : It := ⟨c, toldN X c, dTold X c⟩
def itsT (X : DMo) (c : UInt8) : List It :=
  if c = 70 then [itT X 89, itT X 109, itT X 100] else if c = 84 then [itT X 72, itT X 77, itT X 83] else if c = 37 then [] else [itT X c]
/-- the letters that the pieces hold -/
def bkLs : List UInt8 := [106, 97, 117, 37, 121, 98, 100, 72, 77, 70, 84]
theorem reads_one {X : DMo} (hg : X.good) {c : UInt8} (hc : c ∈ ([89, 121, 109, 100, 72, 77, 83, 106, 97, 117, 98] : List UInt8)) : Reads [.dir c] (dTold X c) [itT X c] := by
  obtain ⟨⟨y0, y1⟩, ⟨m0, m1⟩, ⟨d0, d1⟩, ⟨h0, h1⟩, ⟨i0, i1⟩, ⟨s0, s1⟩, ⟨w0, w1⟩, ⟨j0, j1⟩, ⟨t0, t1⟩⟩ := hg
  simp only [List.mem_cons, List.not_mem_nil, or_false] at hc
  rcases hc with rfl | rfl | rfl | rfl | rfl | rfl | rfl | rfl | rfl | rfl | rfl
  · have := Reads.num (c := 89) (m := 4) (n := X.y) (by omega) y0 (by omega) (fun T a => by simp [rd1])
    simpa [itT, toldN, dTold] using this
  · have := Reads.num (c := 121) (m := 2) (n := X.y % 100) (by omega) (by omega) (by omega) (fun T a => by simp [rd1])
    simpa [itT, toldN, dTold] using this
  · have := Reads.num (c := 109) (m := 2) (n := X.m) (by omega) (by omega) (by omega) (fun T a => by simp [rd1])
    simpa [itT, toldN, dTold] using this
  · have := Reads.num (c := 100) (m := 2) (n := X.d) (by omega) (by omega) (by omega) (fun T a => by simp [rd1])
    simpa [itT, toldN, dTold] using this
  · have := Reads.num (c := 72) (m := 2) (n := X.h) (by omega) (by omega) (by omega) (fun T a => by simp [rd1])
    simpa [itT, toldN, dTold] using this
  · have := Reads.num (c := 77) (m := 2) (n := X.mi) (by omega) (by omega) (by omega) (fun T a => by simp [rd1])
    simpa [itT, toldN, dTold] using this
  · have := Reads.num (c := 83) (m := 2) (n := X.s) (by omega) (by omega) (by omega) (fun T a => by simp [rd1])
    simpa [itT, toldN, dTold] using this
  · have := Reads.num (c := 106) (m := 3) (n := X.day) (by omega) (by omega) (by omega) (fun T a => by simp [rd1])
    simpa [itT, toldN, dTold] using this
  · have := names_all dNames dNames3 (X.wk - 1).toNat (by have : dNames.length = 7 := rfl; omega) (names_one ⟨(X.wk - 1).toNat, by omega⟩) (c := 97) (fun T a => by simp [rd1])
    rw [show (((X.wk - 1).toNat : Nat) : Int) + 1 = X.wk by omega] at this
    simpa [itT, toldN, dTold] using this
  · have e : Lib.itoa X.wk = fillN X.wk 1 true := by
      have key : ∀ k : Fin 10, Lib.itoa (k.val : Int) = fillN (k.val : Int) 1 true := by decide +kernel
      obtain ⟨u, hu⟩ : ∃ u : Nat, X.wk = (u : Int) := ⟨X.wk.toNat, by omega⟩
      rw [hu]; exact key ⟨u, by omega⟩
    have := Reads.num (c := 117) (m := 1) (n := X.wk) (by omega) (by omega) (by omega) (fun T a => by simp [rd1])
    rw [← e] at this
    simpa [itT, toldN, dTold] using this
  · have := names_all mNames mNames3 (X.m - 1).toNat (by have : mNames.length = 12 := rfl; omega) (names_two ⟨(X.m - 1).toNat, by omega⟩) (c := 98) (fun T a => by simp [rd1])
    rw [show (((X.m - 1).toNat : Nat) : Int) + 1 = X.m by omega] at this
    simpa [itT, toldN, dTold] using this
theorem reads_told {X : DMo} (hg : X.good) {c : UInt8} (hc : c ∈ bkLs) : Reads (expand c) (dTold X c) (itsT X c) := by
  have one : ∀ c : UInt8, c ∈ ([89, 121, 109, 100, 72, 77, 83, 106, 97, 117, 98] : List UInt8) → Reads [.dir c] (dTold X c) [itT X c] := fun c hc => reads_one hg hc
  unfold bkLs at hc
  simp only [List.mem_cons, List.not_mem_nil, or_false] at hc
  rcases hc with rfl | rfl | rfl | rfl | rfl | rfl | rfl | rfl | rfl | rfl | rfl
  · exact one 106 (by decide)
  · exact one 97 (by decide)
  · exact one 117 (by decide)
  · exact Reads.byte 37
  · exact one 121 (by decide)
  · exact one 98 (by decide)
  · exact one 100 (by decide)
  · exact one 72 (by decide)
  · exact one 77 (by decide)
  · have := (one 89 (by decide)).app ((Reads.byte 45).app ((one 109 (by decide)).app ((Reads.byte 45).app (one 100 (by decide)))))
    have e : dTold X 70 = dTold X 89 ++ ([45] ++ (dTold X 109 ++ ([45] ++ dTold X 100))) := by simp [dTold]
    rw [e]; exact this
  · have := (one 72 (by decide)).app ((Reads.byte 58).app ((one 77 (by decide)).app ((Reads.byte 58).app (one 83 (by decide)))))
    have e : dTold X 84 = dTold X 72 ++ ([58] ++ (dTold X 77 ++ ([58] ++ dTold X 83))) := by simp [dTold]
    rw [e]; exact this
def itsOf (X : DMo) (ps : List (UInt8 × UInt8)) : List It := ps.flatMap fun p => if p.1 = 0 then [] else itsT X p.1
theorem reads_text {X : DMo} (hg : X.good) : ∀ ps : List (UInt8 × UInt8), (∀ p ∈ ps, p.1 = 0 ∨ p.1 ∈ bkLs) → Reads (stepsOf ps) (dText X ps) (itsOf X ps)
  | [], _ => Reads.nil
  | p :: ps, h => by
    have ih := reads_text hg ps (fun q hq => h q (List.mem_cons_of_mem _ hq))
    have h1 : Reads (if p.1 = 0 then [.byte p.2] else expand p.1) (if p.1 = 0 then [p.2] else dTold X p.1) (if p.1 = 0 then [] else itsT X p.1) := by
      by_cases h0 : p.1 = 0
      · rw [if_pos h0, if_pos h0, if_pos h0]; exact Reads.byte p.2
      · rw [if_neg h0, if_neg h0, if_neg h0]
        exact reads_told hg ((h p List.mem_cons_self).resolve_left h0)
    exact h1.app ih
theorem itsT_ok {X : DMo} {c : UInt8} : ∀ i ∈ itsT X c, i.n = toldN X i.c := by
  intro i hi
  unfold itsT at hi
  by_cases h1 : c = 70
  · rw [if_pos h1] at hi
    simp only [List.mem_cons, List.not_mem_nil, or_false] at hi
    rcases hi with rfl | rfl | rfl <;> rfl
  · rw [if_neg h1] at hi
    by_cases h2 : c = 84
    · rw [if_pos h2] at hi
      simp only [List.mem_cons, List.not_mem_nil, or_false] at hi
      rcases hi with rfl | rfl | rfl <;> rfl
    · rw [if_neg h2] at hi
      by_cases h3 : c = 37
      · rw [if_pos h3] at hi; cases hi
      · rw [if_neg h3] at hi
        obtain rfl := List.mem_singleton.1 hi
        rfl
theorem itsT_c {X : DMo} {c : UInt8} (hc : c ∈ bkLs) : ∀ i ∈ itsT X c, i.c ≠ 115 := by
  unfold bkLs at hc
  simp only [List.mem_cons, List.not_mem_nil, or_false] at hc
  rcases hc with rfl | rfl | rfl | rfl | rfl | rfl | rfl | rfl | rfl | rfl | rfl <;>
    (intro i hi; (simp [itsT] at hi <;> first | (subst hi; simp [itT]; done) | (rcases hi with rfl | rfl | rfl <;> simp [itT])))
theorem lastOf_all {X : DMo} {its : List It} {l : UInt8} {d : Int} (h : ∀ i ∈ its, i.n = toldN X i.c) (hx : ∃ i ∈ its, mapL i.c = l) : lastOf its l d = toldN X l := by
  have key : ∀ (its : List It) (d : Int), (∀ i ∈ its, i.n = toldN X i.c) → (d = toldN X l ∨ ∃ i ∈ its, mapL i.c = l) → lastOf its l d = toldN X l := by
    intro its
    induction its with
    | nil =>
      intro d _ h
      rcases h with h | ⟨i, hi, _⟩
      · exact h
      · cases hi
    | cons i r ih =>
      intro d h hx
      unfold lastOf
      rw [List.foldl_cons]
      refine ih _ (fun j hj => h j (List.mem_cons_of_mem _ hj)) ?_
      by_cases e : mapL i.c = l
      · left
        rw [if_pos e, h i List.mem_cons_self, ← e, toldN_map]
      · rw [if_neg e]
        rcases hx with hx | ⟨j, hj, hjl⟩
        · exact .inl hx
        · rcases List.mem_cons.1 hj with rfl | hj
          · exact absurd hjl e
          · exact .inr ⟨j, hj, hjl⟩
  exact key its d h (.inr hx)
end Go.Pw
namespace Go.Proofs.YtifpmigghplmoaaGreatDoor
open Go.RowKit Go.Pw
theorem back_tH {t n r y d : Int} {m : Nat} (hI : DIs t n r y m d) {ps : List (UInt8 × UInt8)} (hb : ∀ p ∈ ps, p.1 = 0 ∨ p.1 ∈ bkLs) (hF : ((70 : UInt8), (0 : UInt8)) ∈ ps) (hT : ((84 : UInt8), (0 : UInt8)) ∈ ps) :
    ResO ((itsOf (dMo n r t y m d) ps).map nt) (some (t, dMo n r t y m d)) ∧ resV ((itsOf (dMo n r t y m d) ps).map nt) (some (t, dMo n r t y m d)) = (t, 0) := by
  obtain ⟨X, hX⟩ : ∃ X, dMo n r t y m d = X := ⟨_, rfl⟩
  have hall : ∀ i ∈ itsOf X ps, i.n = toldN X i.c := by
    intro i hi
    obtain ⟨p, hp, hi⟩ := List.mem_flatMap.1 hi
    by_cases h0 : p.1 = 0
    · rw [if_pos h0] at hi; cases hi
    · rw [if_neg h0] at hi; exact itsT_ok i hi
  have htm : timedL (itsOf X ps) = false := by
    unfold timedL
    rw [List.any_eq_false]
    intro i hi
    obtain ⟨p, hp, hi⟩ := List.mem_flatMap.1 hi
    by_cases h0 : p.1 = 0
    · rw [if_pos h0] at hi; cases hi
    · rw [if_neg h0] at hi
      have := itsT_c ((hb p hp).resolve_left h0) i hi
      simpa using this
  have inF : ∀ i ∈ itsT X 70, i ∈ itsOf X ps := fun i hi => List.mem_flatMap.2 ⟨_, hF, by rw [if_neg (by decide)]; exact hi⟩
  have inT : ∀ i ∈ itsT X 84, i ∈ itsOf X ps := fun i hi => List.mem_flatMap.2 ⟨_, hT, by rw [if_neg (by decide)]; exact hi⟩
  have l1 : lastOf (itsOf X ps) 89 1970 = X.y := lastOf_all hall ⟨itT X 89, inF _ (by simp [itsT]), rfl⟩
  have l2 : lastOf (itsOf X ps) 109 1 = X.m := lastOf_all hall ⟨itT X 109, inF _ (by simp [itsT]), rfl⟩
  have l3 : lastOf (itsOf X ps) 100 1 = X.d := lastOf_all hall ⟨itT X 100, inF _ (by simp [itsT]), rfl⟩
  have l4 : lastOf (itsOf X ps) 72 0 = X.h := lastOf_all hall ⟨itT X 72, inT _ (by simp [itsT]), rfl⟩
  have l5 : lastOf (itsOf X ps) 77 0 = X.mi := lastOf_all hall ⟨itT X 77, inT _ (by simp [itsT]), rfl⟩
  have l6 : lastOf (itsOf X ps) 83 0 = X.s := lastOf_all hall ⟨itT X 83, inT _ (by simp [itsT]), rfl⟩
  have hcl : (itsOf X ps).any (clash X false) = false := by
    rw [List.any_eq_false]
    intro i hi
    unfold clash
    rw [decide_eq_false (show ¬ i.n ≠ toldN X i.c from fun h => h (hall i hi))]
    simp
  have hc := hI.civ
  obtain ⟨a1, a2, a3, a4, a5, a6, a7, a8, a9⟩ := hc
  have hy : X.y = y := by rw [← hX]; rfl
  have hm : X.m = (m : Int) := by rw [← hX]; rfl
  have hd : X.d = d := by rw [← hX]; rfl
  have hh : X.h = r / 3600 := by rw [← hX]; rfl
  have hmi : X.mi = r / 60 % 60 := by rw [← hX]; rfl
  have hs : X.s = r % 60 := by rw [← hX]; rfl
  have hr0 := hI.r0; have hr1 := hI.r1; have hday := hI.day; have hrest := hI.rest
  have hdn : dn y m d = n := by unfold dn; omega
  have hdb : dayB y (m : Int) d = true := by
    have hcs := cum_step y m a5
    unfold dayB
    simp only [Bool.and_eq_true, decide_eq_true_eq, Int.toNat_natCast]
    refine ⟨⟨⟨a1, a2⟩, ⟨by omega, by omega⟩⟩, ⟨by omega, ?_⟩⟩
    omega
  have hsec : 86400 * dn y m d + 3600 * (r / 3600) + 60 * (r / 60 % 60) + r % 60 = t := by rw [hdn]; omega
  have hin : dInB t = true := by
    have h1 := hI.lo; have h2 := hI.hi
    unfold dInB
    rw [hday, Bool.and_eq_true, decide_eq_true_iff, decide_eq_true_iff]
    exact ⟨h1, h2⟩
  have hth : tH ((itsOf X ps).map nt) = some t := by
    rw [tH_nt, htm, if_neg (by simp), l1, l2, l3, l4, l5, l6, hy, hm, hd, hh, hmi, hs, hdb, decide_eq_true (show r / 3600 ≤ 23 by omega), decide_eq_true (show r / 60 % 60 ≤ 59 by omega), decide_eq_true (show r % 60 ≤ 59 by omega)]
    simp only [Bool.and_self, if_true, Int.toNat_natCast]
    rw [hsec, if_pos hin]
  rw [hX]
  refine ⟨⟨hth, n, r, y, m, d, hI, hX.symm⟩, ?_⟩
  unfold resV timedH
  simp only [timedH_nt, htm, clash_any, hcl]
  rfl
end Go.Proofs.YtifpmigghplmoaaGreatDoor
