/- The walks of Comm: the closures that tell a line. -/
import Derived.Test.YtkikbejpgfhfoaaDoorRefL
import Derived.Test.YtkikbejpgfhfoaaDoorCommP
import Derived.OneCell
set_option linter.unusedVariables false
set_option linter.unusedSimpArgs false
namespace Go.Pw
open Go.RowKit
def slLen : Value → Nat
  | .slice _ n _ => n
  | _ => 0
theorem bit1 {hd k : Nat} (h : hd ≤ 7) (hk : k ≤ 2) : bits BinOp.and IntKind.i64 ((hd : Int) / 2 ^ k) 1 = if hd.testBit k then 1 else 0 := by
  rcases (by omega : hd = 0 ∨ hd = 1 ∨ hd = 2 ∨ hd = 3 ∨ hd = 4 ∨ hd = 5 ∨ hd = 6 ∨ hd = 7) with rfl | rfl | rfl | rfl | rfl | rfl | rfl | rfl <;>
    rcases (by omega : k = 0 ∨ k = 1 ∨ k = 2) with rfl | rfl | rfl <;> decide +kernel
theorem bit2 {hd k : Nat} (h : hd ≤ 7) (hk : k ≤ 2) : bits BinOp.and IntKind.i64 (hd : Int) ((2 ^ k : Nat) : Int) = if hd.testBit k then ((2 ^ k : Nat) : Int) else 0 := by
  rcases (by omega : hd = 0 ∨ hd = 1 ∨ hd = 2 ∨ hd = 3 ∨ hd = 4 ∨ hd = 5 ∨ hd = 6 ∨ hd = 7) with rfl | rfl | rfl | rfl | rfl | rfl | rfl | rfl <;>
    rcases (by omega : k = 0 ∨ k = 1 ∨ k = 2) with rfl | rfl | rfl <;> decide +kernel
theorem own_slice {w : World} {base : Nat} {e : TypeId} {size : Nat} {v : Value} {n : Nat} {xs : List Value} (h : w.ownsRow base e size v n xs) : ∃ A c, v = .slice A n c := by
  obtain ⟨_, A, c, e, _⟩ := Rd.of_own h
  exact ⟨A, c, e⟩
/-- what is hidden lies in block H, the lines that were told in block O -/
structure TellEnv (tI tV tS : TypeId) (w : World) (H O : Nat) (hd : Nat) (v : Value) (l : List ByteArray) : Prop where
  lt : H < O
  sz : O < w.heap.size
  bh : w.heap[H]? = some (.cells #[.int .i64 (hd : Int)] tI (0, 0))
  bo : w.heap[O]? = some (.cells #[v] tV (0, 0))
  own : OwnS tS w (O + 1) v l
theorem TellEnv.push {tI tV tS : TypeId} {w w2 : World} {H O hd : Nat} {v v' : Value} {l : List ByteArray} {x : ByteArray} {o : Obj} (h : TellEnv tI tV tS w H O hd v l)
    (hown' : w2.ownsRow (O + 1) tS 1 v' (l.length + 1) (l.map Value.string ++ [.string x])) (hg : (w.alloc o).grownBy w2 v.ownBlock) :
    w2.heap[O]? = some (.cells #[v] tV (0, 0)) ∧ TellEnv tI tV tS (w2.setCell ⟨O, 0, none⟩ v') H O hd v' (l ++ [x]) ∧ Below O w (w2.setCell ⟨O, 0, none⟩ v') := by
  have hsz := h.sz
  have hlt := h.lt
  obtain ⟨h1, h2⟩ := h.own.push (by omega) hown' hg
  have e1 : w2.heap[O]? = some (.cells #[v] tV (0, 0)) := (h2.block O (by omega)).trans h.bo
  have e2 : w2.heap[H]? = some (.cells #[.int .i64 (hd : Int)] tI (0, 0)) := (h2.block H (by omega)).trans h.bh
  have hz := h2.size
  refine ⟨e1, ⟨hlt, by simp [World.setCell]; omega, (Below.heap_setCell _ _ _ _ (by simp; omega)).trans e2, one_setCell e1, ?_⟩, (h2.mono (by omega)).setCell (by simp) _⟩
  exact ownsRow_setCell_below h1 (by simp) _
end Go.Pw
namespace Go.Proofs.YtkikbejpgfhfoaaDoor
open Go.RowKit Go.Pw
set_option maxHeartbeats 1000000 in
set_option maxRecDepth 100000 in
theorem tell_any (H O hd col : Nat) (line : ByteArray) (v : Value) (l : List ByteArray) (w : World) (hE : TellEnv 3 40 9 w H O hd v l) (hc : col ≤ 2) (hh : hd ≤ 7) (hl : line.size ≤ 1000000) (hn : l.length ≤ 1000000) :
    Calls Tryd.prog 68 #[.int .i64 (col : Int), .string line, .pointer (some ⟨H, 0, none⟩), .pointer (some ⟨O, 0, none⟩)] w
      fun e w' => e = .returned (.tuple #[]) ∧ (∃ v', TellEnv 3 40 9 w' H O hd v' (l ++ tellL hd col line)) ∧ Below O w w' := by
  obtain ⟨ip, hip, hpz, hps, hpb⟩ := info_parts info_str
  have hlt := hE.lt
  have hsz := hE.sz
  have cH := cell_of_one hE.bh
  have cO := cell_of_one hE.bo
  have HE := hide hE
  have hb := bit1 hh hc
  have HB := hide (fun k (hk : k ≤ 2) => bit1 hh hk)
  clear hE
  cases ht : hd.testBit col
  · rw [ht] at hb
    have hb' : (bits BinOp.and IntKind.i64 ((hd : Int) / 2 ^ col) 1 == 1) = false := by rw [hb]; rfl
    have HT : Hid (tellL hd col line = [mkB (tabsL hd col ++ line.data.toList)]) := hide (by unfold tellL; rw [ht]; rfl)
    have htl := tabsL_le hd col
    clear hb ht
    go_enter Tryd.func68, Tryd.ntmps68
    go_wp2_with fail
    go_loop [6, 14] (fun s i => ∃ k : Nat, k ≤ col ∧ i = .int .i64 (k : Int) ∧ s = .string (mkB (tabsL hd k))) (fun _ i => col - (intOf i).toNat)
    case atStart => exact ⟨0, by omega, rfl, rfl⟩
    case round =>
      obtain ⟨k, hk, rfl, rfl⟩ := hrel
      have htm : (mkB (tabsL hd k)).size ≤ 2 := by have := tabsL_le hd k; rw [mkB_size]; omega
      by_cases hkc : k < col
      · have hbk := HB.out k (by omega)
        cases htk : hd.testBit k
        · have hd1 : (bits BinOp.and IntKind.i64 ((hd : Int) / 2 ^ k) 1 == 0) = true := by rw [hbk, htk]; rfl
          have HS : Hid (tabsL hd (k + 1) = tabsL hd k ++ [9]) := hide (by rw [tabsL, htk]; rfl)
          clear hbk htk
          go_wp2_with fail
          go_round
          case rel => exact ⟨k + 1, by omega, by go_num, by rw [HS.out]; rfl⟩
          case measure => simp [intOf]; omega
        · have hd1 : (bits BinOp.and IntKind.i64 ((hd : Int) / 2 ^ k) 1 == 0) = false := by rw [hbk, htk]; rfl
          have HS : Hid (tabsL hd (k + 1) = tabsL hd k) := hide (by rw [tabsL, htk]; simp)
          clear hbk htk
          go_wp2_with fail
          go_round
          case rel => exact ⟨k + 1, by omega, by go_num, by rw [HS.out]⟩
          case measure => simp [intOf]; omega
      · obtain rfl : k = col := by omega
        have hown := HE.out.own
        unfold OwnS at hown
        go_wp2_with (at_builtin; refine wpList_append_own _ rfl _ _ 40 rfl (O + 1) 9 ip _ 1 16 Tryd.underlying40 hip hpz hps hpb rfl (by decide) _ _ _ rfl (hown.alloc _) ⟨w.heap.size, 0, none⟩ 1 1 [.string (mkB (tabsL hd k) ++ line)] rfl rfl ?c1 ?c2 ?c3 ?c4 ?c5 ?_)
        case c2 => rfl
        case c3 => unfold maxLen; omega
        case c4 => omega
        case c5 => omega
        intro v' w2 hown' hgrow _
        obtain ⟨e1, e2, e3⟩ := HE.out.push hown' hgrow
        obtain ⟨A, c, rfl⟩ := own_slice hown'
        have c1 := cell_of_one e1
        have f1 := free_of_one e1
        have HE2 := hide e2
        have HB2 := hide e3
        have HL : Hid (tellL hd k line = [mkB (tabsL hd k) ++ line]) := hide (by rw [HT.out]; congr 1)
        clear hown hown' hgrow e1 e2 e3
        go_wp2_with fail
        go_end0
        exact ⟨rfl, ⟨_, by rw [HL.out]; exact HE2.out⟩, HB2.out⟩
  · rw [ht] at hb
    have hb' : (bits BinOp.and IntKind.i64 ((hd : Int) / 2 ^ col) 1 == 1) = true := by rw [hb]; rfl
    have HT : Hid (tellL hd col line = []) := hide (by unfold tellL; rw [ht]; rfl)
    clear hb ht
    go_enter Tryd.func68, Tryd.ntmps68
    go_wp2_with fail
    try simp only [Exit.inBlock, Exit.then]
    refine bodyPost_ret (results_none rfl _ _ _) rfl ?_
    exact ⟨rfl, ⟨v, by rw [HT.out, List.append_nil]; exact HE.out⟩, Below.refl _ _⟩
end Go.Proofs.YtkikbejpgfhfoaaDoor
