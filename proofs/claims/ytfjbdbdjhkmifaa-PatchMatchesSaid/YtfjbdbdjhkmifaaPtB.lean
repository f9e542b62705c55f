/- (*delta.patcher).place. -/
import Derived.Test.YtfjbdbdjhkmifaaPtP
import Derived.Test.YtfjbdbdjhkmifaaSame
import Derived.Test.YtfjbdbdjhkmifaaLists
import Derived.OneCell
set_option linter.unusedVariables false
set_option linter.unusedSimpArgs false
namespace Go.Proofs.Ytfjbdbdjhkmifaa
open Go.RowKit Go.Pw
/-- how far a place is from the line in a variable -/
theorem far_any (k : Nat) (line : Int) (pb : Nat) (w : World) (hb : w.heap[pb]? = some (.cells #[.int .i64 line] 3 (0, 0))) (hk : k ≤ 1000000000) (h1 : -1000000000 ≤ line) (h2 : line ≤ 1000000000) :
    Calls Try.prog 88 #[.int .i64 (k : Int), .pointer (some ⟨pb, 0, none⟩)] w fun e w' => e = .returned (.int .i64 (far line k)) ∧ ∃ q, w' = w.drewN q := by
  have c : w.cell? ⟨pb, 0, none⟩ = some (.int .i64 line) := by simp [World.cell?, hb]
  have m1 : max ((k : Int) - line) (line - (k : Int)) = far line k := rfl
  go_enter Try.func88, Try.ntmps88
  go_wp2_with fail
  go_ret
  exact ⟨rfl, 0, rfl⟩

/-- the patcher in memory -/
def PatAt (w : World) (pb : Nat) (v : Value) (del off fin : Int) : Prop := w.heap[pb]? = some (.cells #[v, .int .i64 del, .int .i64 off, .int .i64 fin] 92 (0, 0))
theorem PatAt.lt {w : World} {pb : Nat} {v : Value} {del off fin : Int} (h : PatAt w pb v del off fin) : pb < w.heap.size := (Array.getElem?_eq_some_iff.1 h).1
theorem PatAt.below {w w' : World} {pb : Nat} {v : Value} {del off fin : Int} (h : PatAt w pb v del off fin) (hb : Below w.heap.size w w') : PatAt w' pb v del off fin := (hb.block pb h.lt).trans h
theorem PatAt.c0 {w : World} {pb : Nat} {v : Value} {del off fin : Int} (h : PatAt w pb v del off fin) : w.cell? ⟨pb, 0, none⟩ = some v := by have h' : w.heap[pb]? = _ := h; simp [World.cell?, h']
theorem PatAt.c1 {w : World} {pb : Nat} {v : Value} {del off fin : Int} (h : PatAt w pb v del off fin) : w.cell? ⟨pb, 1, none⟩ = some (.int .i64 del) := by have h' : w.heap[pb]? = _ := h; simp [World.cell?, h']
theorem PatAt.c2 {w : World} {pb : Nat} {v : Value} {del off fin : Int} (h : PatAt w pb v del off fin) : w.cell? ⟨pb, 2, none⟩ = some (.int .i64 off) := by have h' : w.heap[pb]? = _ := h; simp [World.cell?, h']
theorem PatAt.c3 {w : World} {pb : Nat} {v : Value} {del off fin : Int} (h : PatAt w pb v del off fin) : w.cell? ⟨pb, 3, none⟩ = some (.int .i64 fin) := by have h' : w.heap[pb]? = _ := h; simp [World.cell?, h']

def getP (p : Option Nat) : Nat := p.getD 0
set_option maxHeartbeats 4000000 in
set_option maxRecDepth 100000 in
theorem place_any (pb : Nat) (A : Option Addr) (ca : Nat) (l : List ByteArray) (vo : Value) (o : List ByteArray) (line del off : Int) (fin : Nat) (w : World) (hp : PatAt w pb (.slice A l.length ca) del off fin) (hl : Strs w (.slice A l.length ca) l) (ho : Strs w vo o)
    (hll : l.length ≤ 100000000) (hol : o.length ≤ 100000000) (hfin : fin ≤ 100000000) (hl1 : -1000000000 ≤ line) (hl2 : line ≤ 1000000000) :
    Calls Try.prog 75 #[.pointer (some ⟨pb, 0, none⟩), vo, .int .i64 line] w fun e w' => e = .returned (.tuple #[.int .i64 ((getP (plc l o line fin) : Nat) : Int), .bool (plc l o line fin).isSome]) ∧ Below w.heap.size w w' := by
  have HO := hide ho
  have HL := hide hl
  obtain ⟨⟨_, B, cb, rfl, hcb, hmb, hxb⟩, _⟩ := ho
  obtain ⟨⟨_, A', ca', e, hca, hma, hxa⟩, _⟩ := hl
  injection e with e1 _ e3
  subst e1 e3
  clear hxa hxb
  have hb1 : Below w.heap.size w (w.alloc (.cells #[.int .i64 line] 3)) := (Below.refl _ _).alloc (Nat.le_refl _) _
  have q3 := (hp.below hb1).c3
  go_enter Try.func75, Try.ntmps75
  go_wp2_with fail
  go_loopw [8, 9, 11] (fun b f i wr => ∃ (k : Nat) (p : Option Nat), fin ≤ k ∧ i = .int .i64 (k : Int) ∧ b = .int .i64 ((getP p : Nat) : Int) ∧ f = .bool p.isSome ∧ (k = fin ∨ k + o.length ≤ l.length + 1) ∧ getP p ≤ 100000000 ∧ Hid (Near l o line fin k p) ∧ Hid (Below (w.alloc (.cells #[.int .i64 line] 3)).heap.size (w.alloc (.cells #[.int .i64 line] 3)) wr)) (fun _ _ i _ => l.length + 1 - (intOf i).toNat)
  case atStart => exact ⟨fin, none, Nat.le_refl _, rfl, rfl, rfl, .inl rfl, Nat.zero_le _, near_none (Nat.le_refl _), Below.refl _ _⟩
  case round =>
    obtain ⟨k, p, hk, rfl, rfl, rfl, hor, hgp, hnr, hbw⟩ := hrel
    have hbw' := hbw.out
    have q0 := ((hp.below hb1).below hbw').c0
    have hk2 : k ≤ 100000001 := by omega
    have bx : wr.heap[w.heap.size]? = some (.cells #[.int .i64 line] 3 (0, 0)) := (hbw'.block _ (by simp)).trans (heap_alloc_new _ _)
    have BX := hide bx
    clear bx hbw'
    by_cases hlt : (k : Int) ≤ (l.length : Int) - (o.length : Int)
    · have hd : decide ((k : Int) ≤ (l.length : Int) - (o.length : Int)) = true := by simpa using hlt
      have hko : k + o.length ≤ l.length := by omega
      obtain ⟨vk, hvk, hsk⟩ := cut_both ((HL.out.below hb1).below hbw.out) (lo := k) (hi := k + o.length) (by omega) hko
      rw [Nat.add_sub_cancel_left] at hsk
      simp only [Int.natCast_add] at hvk
      have SK := hide hsk
      have SO := hide (((HO.out.below hb1).below hbw.out))
      clear hsk
      have HE : ∀ q, Hid (Calls Try.prog 20 #[vk, .slice B o.length cb] (wr.drewN q) fun e w' => e = .returned (.bool (decide ((l.drop k).take o.length = o))) ∧ ∃ q, w' = wr.drewN q) := fun q => hide ((equal_any vk (.slice B o.length cb) _ o (wr.drewN q) (SK.out.drewN q) (SO.out.drewN q)).mono fun e w' h => ⟨h.1, by obtain ⟨_, q', rfl⟩ := h; exact ⟨q + q', World.drewN_drewN _ _ _⟩⟩)
      by_cases hf : (l.drop k).take o.length = o
      · have hfd : decide ((l.drop k).take o.length = o) = true := decide_eq_true hf
        rw [hfd] at HE
        cases p with
        | none =>
          have HN := hide (near_take (l := l) (o := o) (line := line) hnr.out hk trivial ⟨hko, hf⟩)
          have HEE := (HE 0).out
          clear hf hfd hnr HE
          simp only [Option.isSome_none, getP, Option.getD_none] at *
          go_wp2_with fail
          refine HEE.mono ?_
          rintro e w1 ⟨rfl, q, rfl⟩
          go_wp2_with fail
          go_roundw
          case rel => exact ⟨k + 1, some k, by omega, by go_num, rfl, rfl, .inr (by omega), by simp only [getP, Option.getD_some]; omega, HN, hide (below_drewN hbw.out _)⟩
          case measure => simp [intOf]; omega
        | some b =>
          simp only [Option.isSome_some, getP, Option.getD_some] at *
          by_cases hc : far line k ≤ far line b
          · have hcd : decide (far line k ≤ far line b) = true := decide_eq_true hc
            have HN := hide (near_take (l := l) (o := o) (line := line) hnr.out hk hc ⟨hko, hf⟩)
            clear hf hfd hnr
            go_wp2_with fail
            refine (far_any k line w.heap.size wr BX.out (by omega) hl1 hl2).mono ?_
            rintro e w1 ⟨rfl, q1, rfl⟩
            go_wp2_with fail
            refine (far_any b line w.heap.size (wr.drewN q1) BX.out (by omega) hl1 hl2).mono ?_
            rintro e w2 ⟨rfl, q2, rfl⟩
            go_wp2_with fail
            have HEE := (HE (q1 + q2)).out
            refine HEE.mono ?_
            rintro e w1 ⟨rfl, q, rfl⟩
            go_wp2_with fail
            go_roundw
            case rel => exact ⟨k + 1, some k, by omega, by go_num, rfl, rfl, .inr (by omega), by simp only [getP, Option.getD_some]; omega, HN, hide (below_drewN hbw.out _)⟩
            case measure => simp [intOf]; omega
          · have hcd : decide (far line k ≤ far line b) = false := decide_eq_false hc
            have HN := hide (near_keep (l := l) (o := o) (line := line) hnr.out (fun h => hc h.1))
            clear hf hfd hnr
            go_wp2_with fail
            refine (far_any k line w.heap.size wr BX.out (by omega) hl1 hl2).mono ?_
            rintro e w1 ⟨rfl, q1, rfl⟩
            go_wp2_with fail
            refine (far_any b line w.heap.size (wr.drewN q1) BX.out (by omega) hl1 hl2).mono ?_
            rintro e w2 ⟨rfl, q2, rfl⟩
            go_wp2_with fail
            go_roundw
            case rel => exact ⟨k + 1, some b, by omega, by go_num, rfl, rfl, .inr (by omega), by simp only [getP, Option.getD_some]; omega, HN, hide (below_drewN hbw.out _)⟩
            case measure => simp [intOf]; omega
      · have hfd : decide ((l.drop k).take o.length = o) = false := decide_eq_false hf
        rw [hfd] at HE
        have HN := hide (near_keep (l := l) (o := o) (line := line) hnr.out (fun h => hf h.2.2))
        cases p with
        | none =>
          have HEE := (HE 0).out
          clear hf hfd hnr HE
          simp only [Option.isSome_none, getP, Option.getD_none] at *
          go_wp2_with fail
          refine HEE.mono ?_
          rintro e w1 ⟨rfl, q, rfl⟩
          go_wp2_with fail
          go_roundw
          case rel => exact ⟨k + 1, none, by omega, by go_num, rfl, rfl, .inr (by omega), by simp only [getP, Option.getD_none]; omega, HN, hide (below_drewN hbw.out _)⟩
          case measure => simp [intOf]; omega
        | some b =>
          simp only [Option.isSome_some, getP, Option.getD_some] at *
          clear hf hfd hnr
          by_cases hc : far line k ≤ far line b
          · have hcd : decide (far line k ≤ far line b) = true := decide_eq_true hc
            go_wp2_with fail
            refine (far_any k line w.heap.size wr BX.out (by omega) hl1 hl2).mono ?_
            rintro e w1 ⟨rfl, q1, rfl⟩
            go_wp2_with fail
            refine (far_any b line w.heap.size (wr.drewN q1) BX.out (by omega) hl1 hl2).mono ?_
            rintro e w2 ⟨rfl, q2, rfl⟩
            go_wp2_with fail
            have HEE := (HE (q1 + q2)).out
            refine HEE.mono ?_
            rintro e w1 ⟨rfl, q, rfl⟩
            go_wp2_with fail
            go_roundw
            case rel => exact ⟨k + 1, some b, by omega, by go_num, rfl, rfl, .inr (by omega), by simp only [getP, Option.getD_some]; omega, HN, hide (below_drewN hbw.out _)⟩
            case measure => simp [intOf]; omega
          · have hcd : decide (far line k ≤ far line b) = false := decide_eq_false hc
            go_wp2_with fail
            refine (far_any k line w.heap.size wr BX.out (by omega) hl1 hl2).mono ?_
            rintro e w1 ⟨rfl, q1, rfl⟩
            go_wp2_with fail
            refine (far_any b line w.heap.size (wr.drewN q1) BX.out (by omega) hl1 hl2).mono ?_
            rintro e w2 ⟨rfl, q2, rfl⟩
            go_wp2_with fail
            go_roundw
            case rel => exact ⟨k + 1, some b, by omega, by go_num, rfl, rfl, .inr (by omega), by simp only [getP, Option.getD_some]; omega, HN, hide (below_drewN hbw.out _)⟩
            case measure => simp [intOf]; omega
    · have hd : decide ((k : Int) ≤ (l.length : Int) - (o.length : Int)) = false := by simpa using hlt
      have HP : Hid (plc l o line fin = p) := hide (plc_of hnr.out (by omega))
      go_wp2_with fail
      go_ret2
      exact ⟨by rw [HP.out]; rfl, hb1.trans (hbw.out.mono (by simp))⟩
end Go.Proofs.Ytfjbdbdjhkmifaa
