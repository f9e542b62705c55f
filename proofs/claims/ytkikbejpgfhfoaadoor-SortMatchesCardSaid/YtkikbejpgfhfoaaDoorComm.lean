/- text.Comm. -/
import Derived.Test.YtkikbejpgfhfoaaDoorCommW
import Derived.Test.YtkikbejpgfhfoaaDoorTell
import Derived.Test.YtkikbejpgfhfoaaDoorLawK2
set_option linter.unusedVariables false
set_option linter.unusedSimpArgs false
namespace Go.Pw
open Go.RowKit
theorem TellEnv.drewN {tI tV tS : TypeId} {w : World} {H O hd : Nat} {v : Value} {l : List ByteArray} (h : TellEnv tI tV tS w H O hd v l) (n : Nat) : TellEnv tI tV tS (w.drewN n) H O hd v l := ⟨h.lt, h.sz, h.bh, h.bo, h.own⟩
def slLen : Value → Nat
  | .slice _ n _ => n
  | _ => 0
/-- how far two lists have been compared -/
structure CmAt (tI tV tS : TypeId) (w0 wr : World) (H hd : Nat) (X Y : List ByteArray) (x y : Value) (xs ys told : List ByteArray) (v : Value) : Prop where
  x : Strs w0 x xs
  y : Strs w0 y ys
  e : TellEnv tI tV tS wr H w0.heap.size hd v told
  b : Below w0.heap.size w0 wr
  c : commL hd X Y = told ++ commL hd xs ys
  zx : ∀ s ∈ xs, s.size ≤ 65536
  zy : ∀ s ∈ ys, s.size ≤ 65536
theorem CmAt.drewN {tI tV tS : TypeId} {w0 wr : World} {H hd : Nat} {X Y : List ByteArray} {x y : Value} {xs ys told : List ByteArray} {v : Value} (h : CmAt tI tV tS w0 wr H hd X Y x y xs ys told v) (n : Nat) : CmAt tI tV tS w0 (wr.drewN n) H hd X Y x y xs ys told v :=
  ⟨h.x, h.y, h.e.drewN n, below_drewN h.b n, h.c, h.zx, h.zy⟩
end Go.Pw
namespace Go.Proofs.YtkikbejpgfhfoaaDoor
open Go.RowKit Go.Pw
/-- l[1:] of a slice of strings, under one name -/
theorem cut_one {w : World} {A : Option Addr} {cap : Nat} {l : List ByteArray} {s : ByteArray} (h : Strs w (.slice A (l.length + 1) cap) (s :: l)) :
    ∃ A' cap', (∀ W, (Instr.slice 40 (.slice A (l.length + 1) cap) (some (.int .i64 1)) none none).run Tryd.prog W = .ok (.slice A' l.length cap') W) ∧ Strs w (.slice A' l.length cap') l := by
  have h2 := Strs.from_ (lo := 1) (l := s :: l) h (by simp)
  have hc : l.length + 1 ≤ cap := by obtain ⟨⟨_, _, _, hv, hc, _⟩, _⟩ := h; injection hv with _ _ e; simp at hc; omega
  have h2' := h2
  obtain ⟨⟨_, A', cap', e, _⟩, _⟩ := h2'
  refine ⟨A', cap', fun W => ?_, ?_⟩
  · rw [show ((s :: l).drop 1).length = l.length from rfl] at e
    rw [← e]
    have h1 : ¬ ((l.length : Int) + 1 < 1) := by omega
    simp [go_sem, h1]
  · rw [e] at h2
    exact h2
set_option maxHeartbeats 2000000 in
set_option maxRecDepth 100000 in
theorem comm_good (a b : ByteArray) (hd : Nat) (w : World) (hh : hd ≤ 7) (ga : bigB a = false) (gb : bigB b = false) (oa : ordB (linesOf a) = true) (ob : ordB (linesOf b) = true) :
    Calls Tryd.prog 31 #[.string a, .string b, .int .i64 (hd : Int)] w fun e w' => e = .returned (.tuple #[.string (mkB (resL (commL hd (linesOf a) (linesOf b)))), .int .i64 0]) ∧ Below w.heap.size w w' := by
  have za : a.size ≤ 65536 ∧ (linesOf a).length ≤ 4096 := by unfold bigB at ga; simp at ga; omega
  have zb : b.size ≤ 65536 ∧ (linesOf b).length ≤ 4096 := by unfold bigB at gb; simp at gb; omega
  have la := (linesOf_bound a).2
  have lb := (linesOf_bound b).2
  have HLA : Hid (∀ s ∈ linesOf a, s.size ≤ 65536) := hide (fun s hs => by have := la s hs; omega)
  have HLB : Hid (∀ s ∈ linesOf b, s.size ≤ 65536) := hide (fun s hs => by have := lb s hs; omega)
  clear la lb
  have hB0 := (Below.refl w.heap.size w).alloc (Nat.le_refl _) (.cells #[.int .i64 (hd : Int)] 3)
  have HB0 := hide hB0
  have HH0 : Hid ((w.alloc (.cells #[.int .i64 (hd : Int)] 3)).heap[w.heap.size]? = some (.cells #[.int .i64 (hd : Int)] 3 (0, 0))) := hide (heap_alloc_new _ _)
  have hst := strs_two (w.alloc (.cells #[.int .i64 (hd : Int)] 3)) a b 9 (by unfold maxLen; omega) (by unfold maxLen; omega)
  have HSZ := hide (sized_any _ [a, b] _ hst)
  have hbig : ([a, b].any bigB) = false := by simp [ga, gb]
  rw [hbig, size_alloc] at HSZ
  clear hst hbig hB0
  have hw0 : (0 : Int) ≤ (hd : Int) := by omega
  have hw1 : (hd : Int) ≤ 7 := by omega
  go_enter Tryd.func31, Tryd.ntmps31
  go_wp2_with fail
  refine (within_any _ _ _ _).mono ?_
  rintro e w' ⟨rfl, rfl⟩
  go_wp2_with fail
  refine HSZ.out.mono ?_
  rintro e w2 ⟨rfl, hb2⟩
  have HB2 : Hid (Below (w.heap.size + 1) (w.alloc (.cells #[.int .i64 (hd : Int)] 3)) w2) := hide ((((Below.refl _ _).alloc (by simp) _).trans (hb2.mono (by simp))))
  clear hb2
  go_wp2_with fail
  refine (lines_any a w2 (by omega)).mono ?_
  rintro e w3 ⟨x, rfl, hx⟩
  have hbx := linesRes_below hx
  have hsx := linesRes_strs hx (fun s hs => by have := HLA.out s hs; unfold maxLen; omega) (by unfold maxLen; omega)
  have HB3 := hide (HB2.out.trans (hbx.mono (by have := HB2.out.size; simp at this; omega)))
  have HX3 := hide hsx
  clear hx hbx hsx
  go_wp2_with fail
  refine (lines_any b w3 (by omega)).mono ?_
  rintro e w4 ⟨y, rfl, hy⟩
  have hby := linesRes_below hy
  have hsy := linesRes_strs hy (fun s hs => by have := HLB.out s hs; unfold maxLen; omega) (by unfold maxLen; omega)
  have HX4 := hide (HX3.out.below hby)
  have HB4 := hide (HB3.out.trans (hby.mono (by have := HB3.out.size; simp at this; omega)))
  have HY4 := hide hsy
  clear hy hby hsy
  go_wp2_with fail
  refine (isSorted_any x _ w4 HX4.out (by omega)).mono ?_
  rintro e w5 ⟨rfl, ⟨q, rfl⟩⟩
  rw [oa]
  go_wp2_with fail
  refine (isSorted_any y _ (w4.drewN q) (HY4.out.drewN q) (by omega)).mono ?_
  rintro e w5 ⟨rfl, ⟨q2, rfl⟩⟩
  rw [ob]
  have HX5 := hide ((HX4.out.drewN q).drewN q2)
  have HY5 := hide ((HY4.out.drewN q).drewN q2)
  have HB5 := hide (below_drewN (below_drewN HB4.out q) q2)
  obtain ⟨w5, hw5⟩ : ∃ w5, (w4.drewN q).drewN q2 = w5 := ⟨_, rfl⟩
  rw [hw5] at HX5 HY5 HB5 ⊢
  clear hw5 HX4 HY4 HB4 HX3 HB3 HB2
  have hz5 := HB5.out.size
  simp at hz5
  have HT : Hid (TellEnv 3 40 9 (w5.alloc (.cells #[.slice none 0 0] 40)) w.heap.size w5.heap.size hd (.slice none 0 0) []) :=
    hide ⟨by omega, by simp, (Below.heap_alloc _ _ _ (by omega)).trans ((HB5.out.block _ (by omega)).trans HH0.out), heap_alloc_new _ _, World.ownsRow_nil _ _ _ _⟩
  go_wp2_with fail
  go_loopw [9, 10] (fun x y wr => ∃ (xs ys told : List ByteArray) (v : Value), CmAt 3 40 9 w5 wr w.heap.size hd (linesOf a) (linesOf b) x y xs ys told v) (fun x y _ => slLen x + slLen y)
  case atStart => exact ⟨_, _, [], _, HX5.out, HY5.out, HT.out, (Below.refl _ _).alloc (Nat.le_refl _) _, rfl, HLA.out, HLB.out⟩
  case round =>
    obtain ⟨xs, ys, told, v, hx, hy, he, hb, hc, hzx, hzy⟩ := hrel
    have htl := congrArg List.length hc
    have hck := commL_ok (hide := hd) HLA.out HLB.out
    rw [List.length_append] at htl
    have htn : told.length ≤ 8192 := by omega
    have HE := hide he
    have HX := hide hx
    have HY := hide hy
    have HB := hide hb
    have HC := hide hc
    obtain ⟨⟨_, A, ca, rfl, hca, hma, hxa⟩, hsx⟩ := hx
    obtain ⟨⟨_, B, cb, rfl, hcb, hmb, hxb⟩, hsy⟩ := hy
    unfold maxLen at hma hmb
    cases xs with
    | nil =>
      cases ys with
      | nil =>
        have HF : Hid (commL hd (linesOf a) (linesOf b) = told) := hide (by rw [hc, commL_nil, List.append_nil])
        have cO := cell_of_one he.bo
        have hown := he.own
        have hts : ∀ z ∈ told, z.size ≤ 65538 := fun z hz => hck.2 z (by rw [hc]; exact List.mem_append_left _ hz)
        have hrl := resL_le hts
        have hrm : told.length * (65538 + 1) ≤ 8192 * 65539 := Nat.mul_le_mul htn (Nat.le_refl _)
        have HR := hide (result_any v told wr (hown.strs (fun z hz => by have := hts z hz; unfold maxLen; omega)) (by omega))
        have hbz := hb.size
        have HBE : Hid (Below w.heap.size w wr) := hide (HB0.out.trans ((HB5.out.mono (by omega)).trans (hb.mono (by omega))))
        clear hxa hxb hsx hsy hc he hown hts hrl hrm hb hck
        go_wp2_with fail
        refine HR.out.mono ?_
        rintro e w6 ⟨rfl, hb6⟩
        have HB6 := hide (HBE.out.trans (hb6.mono HBE.out.size))
        clear hb6
        go_wp2_with fail
        go_ret2
        exact ⟨by rw [HF.out]; rfl, HB6.out⟩
      | cons t ys =>
        obtain ⟨bb, ob', rfl, hbb, hjb⟩ := hxb (by simp)
        have cb0 : wr.cell? ⟨bb, ob', none⟩ = some (.string t) := (hb.cell (p := ⟨bb, ob', none⟩) hbb).trans (by simpa using hjb 0 (.string t) rfl)
        obtain ⟨B', cb', HB', HY'⟩ := cut_one HY.out
        have ht0 := hzy t (by simp)
        have HZY : Hid (∀ s ∈ ys, s.size ≤ 65536) := hide (fun s hs => hzy s (List.mem_cons_of_mem _ hs))
        have HZX : Hid (∀ s ∈ ([] : List ByteArray), s.size ≤ 65536) := hide hzx
        have hlen2 : (0 : Int) < (ys.length : Int) + 1 := by omega
        have hne2 : (((ys.length : Int) + 1) == 0) = false := by simp only [beq_eq_false_iff_ne, ne_eq]; omega
        have HN : Hid (commL hd (linesOf a) (linesOf b) = (told ++ tellL hd 1 t) ++ commL hd [] ys) := hide (by rw [hc, commL_b, List.append_assoc])
        simp only [List.length_cons, List.length_nil]
        clear hjb hxa hxb hsx hsy hc he hzx hzy hck htl
        go_wp2_with fail
        go_quiet (fail)
        go_wp2_with fail
        go_quiet (fail)
        go_wp2_with fail
        refine (tell_any w.heap.size w5.heap.size hd 1 t v told _ (HE.out.drewN _) (by omega) hh (by omega) (by omega)).mono ?_
        rintro e w6 ⟨rfl, ⟨v6, he6⟩, hb6⟩
        have HN6 : Hid (CmAt 3 40 9 w5 w6 w.heap.size hd (linesOf a) (linesOf b) (.slice A 0 ca) (.slice B' ys.length cb') [] ys (told ++ tellL hd 1 t) v6) := hide ⟨HX.out, HY', he6, (below_drewN HB.out _).trans hb6, HN.out, HZX.out, HZY.out⟩
        clear he6 hb6
        go_wp2_with fail
        go_roundw
        case rel => exact ⟨_, _, _, _, HN6.out⟩
        case measure => simp [slLen]
    | cons s xs =>
      obtain ⟨ba, oa', rfl, hba, hja⟩ := hxa (by simp)
      have ca0 : wr.cell? ⟨ba, oa', none⟩ = some (.string s) := (hb.cell (p := ⟨ba, oa', none⟩) hba).trans (by simpa using hja 0 (.string s) rfl)
      obtain ⟨A', ca', HA, HX'⟩ := cut_one HX.out
      have hs0 := hzx s (by simp)
      have HZX : Hid (∀ s ∈ xs, s.size ≤ 65536) := hide (fun s hs => hzx s (List.mem_cons_of_mem _ hs))
      have hlen1 : (0 : Int) < (xs.length : Int) + 1 := by omega
      have hne1 : (((xs.length : Int) + 1) == 0) = false := by simp only [beq_eq_false_iff_ne, ne_eq]; omega
      cases ys with
      | nil =>
        have HZY : Hid (∀ s ∈ ([] : List ByteArray), s.size ≤ 65536) := hide hzy
        have HN : Hid (commL hd (linesOf a) (linesOf b) = (told ++ tellL hd 0 s) ++ commL hd xs []) := hide (by rw [hc, commL_a, List.append_assoc])
        simp only [List.length_cons, List.length_nil]
        clear hja hxa hxb hsx hsy hc he hzx hzy hck htl
        go_wp2_with fail
        go_quiet (fail)
        go_wp2_with fail
        refine (tell_any w.heap.size w5.heap.size hd 0 s v told _ (HE.out.drewN _) (by omega) hh (by omega) (by omega)).mono ?_
        rintro e w6 ⟨rfl, ⟨v6, he6⟩, hb6⟩
        have HN6 : Hid (CmAt 3 40 9 w5 w6 w.heap.size hd (linesOf a) (linesOf b) (.slice A' xs.length ca') (.slice B 0 cb) xs [] (told ++ tellL hd 0 s) v6) := hide ⟨HX', HY.out, he6, (below_drewN HB.out _).trans hb6, HN.out, HZX.out, HZY.out⟩
        clear he6 hb6
        go_wp2_with fail
        go_roundw
        case rel => exact ⟨_, _, _, _, HN6.out⟩
        case measure => simp [slLen]
      | cons t ys =>
        obtain ⟨bb, ob', rfl, hbb, hjb⟩ := hxb (by simp)
        have cb0 : wr.cell? ⟨bb, ob', none⟩ = some (.string t) := (hb.cell (p := ⟨bb, ob', none⟩) hbb).trans (by simpa using hjb 0 (.string t) rfl)
        obtain ⟨B', cb', HB', HY'⟩ := cut_one HY.out
        have ht0 := hzy t (by simp)
        have HZY : Hid (∀ s ∈ ys, s.size ≤ 65536) := hide (fun s hs => hzy s (List.mem_cons_of_mem _ hs))
        have hlen2 : (0 : Int) < (ys.length : Int) + 1 := by omega
        have hne2 : (((ys.length : Int) + 1) == 0) = false := by simp only [beq_eq_false_iff_ne, ne_eq]; omega
        have h1 := less_dec s t
        have h2 := less_dec t s
        have hf := cbL_flip s t
        rw [← Lib.toList_data, ← Lib.toList_data] at h1 h2
        simp only [List.length_cons]
        rcases Int.lt_trichotomy (cbL s t) 0 with hlt | heq | hgt
        case' inl =>
          rw [decide_eq_true hlt] at h1
          have HN : Hid (commL hd (linesOf a) (linesOf b) = (told ++ tellL hd 0 s) ++ commL hd xs (t :: ys)) := hide (by rw [hc, commL_lt _ _ _ _ _ hlt, List.append_assoc])
        case' inr.inl =>
          rw [decide_eq_false (by omega)] at h1 h2
          have HN : Hid (commL hd (linesOf a) (linesOf b) = (told ++ tellL hd 2 s) ++ commL hd xs ys) := hide (by rw [hc, commL_eq _ _ _ _ _ heq, List.append_assoc])
        case' inr.inr =>
          rw [decide_eq_false (by omega)] at h1
          rw [decide_eq_true (by omega)] at h2
          have HN : Hid (commL hd (linesOf a) (linesOf b) = (told ++ tellL hd 1 t) ++ commL hd (s :: xs) ys) := hide (by rw [hc, commL_gt _ _ _ _ _ hgt, List.append_assoc])
        all_goals
          have HZX' := hide hzx
          have HZY' := hide hzy
          clear hja hjb hxa hxb hsx hsy hc he hzx hzy hck htl hf
        · go_wp2_with fail
          go_quiet (fail)
          go_wp2_with fail
          go_quiet (fail)
          go_wp2_with fail
          refine (tell_any w.heap.size w5.heap.size hd 1 t v told _ (HE.out.drewN _) (by omega) hh (by omega) (by omega)).mono ?_
          rintro e w6 ⟨rfl, ⟨v6, he6⟩, hb6⟩
          have HN6 : Hid (CmAt 3 40 9 w5 w6 w.heap.size hd (linesOf a) (linesOf b) (.slice (some ⟨ba, oa', none⟩) (xs.length + 1) ca) (.slice B' ys.length cb') (s :: xs) ys (told ++ tellL hd 1 t) v6) := hide ⟨HX.out, HY', he6, (below_drewN HB.out _).trans hb6, HN.out, HZX'.out, HZY.out⟩
          clear he6 hb6
          go_wp2_with fail
          go_roundw
          case rel => exact ⟨_, _, _, _, HN6.out⟩
          case measure => simp [slLen]
        · go_wp2_with fail
          go_quiet (fail)
          go_wp2_with fail
          go_quiet (fail)
          go_wp2_with fail
          refine (tell_any w.heap.size w5.heap.size hd 2 s v told _ (HE.out.drewN _) (by omega) hh (by omega) (by omega)).mono ?_
          rintro e w6 ⟨rfl, ⟨v6, he6⟩, hb6⟩
          have HN6 : Hid (CmAt 3 40 9 w5 w6 w.heap.size hd (linesOf a) (linesOf b) (.slice A' xs.length ca') (.slice B' ys.length cb') xs ys (told ++ tellL hd 2 s) v6) := hide ⟨HX', HY', he6, (below_drewN HB.out _).trans hb6, HN.out, HZX.out, HZY.out⟩
          clear he6 hb6
          go_wp2_with fail
          go_quiet (fail)
          go_wp2_with fail
          go_roundw
          case rel => exact ⟨_, _, _, _, HN6.out.drewN _⟩
          case measure => simp [slLen]; omega
        · go_wp2_with fail
          go_quiet (fail)
          go_wp2_with fail
          refine (tell_any w.heap.size w5.heap.size hd 0 s v told _ (HE.out.drewN _) (by omega) hh (by omega) (by omega)).mono ?_
          rintro e w6 ⟨rfl, ⟨v6, he6⟩, hb6⟩
          have HN6 : Hid (CmAt 3 40 9 w5 w6 w.heap.size hd (linesOf a) (linesOf b) (.slice A' xs.length ca') (.slice (some ⟨bb, ob', none⟩) (ys.length + 1) cb) xs (t :: ys) (told ++ tellL hd 0 s) v6) := hide ⟨HX', HY.out, he6, (below_drewN HB.out _).trans hb6, HN.out, HZX.out, HZY'.out⟩
          clear he6 hb6
          go_wp2_with fail
          go_roundw
          case rel => exact ⟨_, _, _, _, HN6.out⟩
          case measure => simp [slLen]
end Go.Proofs.YtkikbejpgfhfoaaDoor
