/- The walks of an order: folded. -/
import Derived.Test.YtifpmigghplmoaaGreatDoorCmp
import Derived.Laws.IdiomStrings
set_option linter.unusedVariables false
set_option linter.unusedSimpArgs false
namespace Go.Pw
open Go.RowKit
/-- a row of bytes that may be written -/
def RowB (w : World) (b : Nat) (l : List UInt8) : Prop := b < w.heap.size ∧ ∀ j c, l[j]? = some c → w.cell? ⟨b, j, none⟩ = some (.int .u8 (c.toNat : Int)) ∧ w.frozen? ⟨b, j, none⟩ = false
theorem RowB.set {w : World} {b k : Nat} {l : List UInt8} (h : RowB w b l) (hk : k < l.length) (c : UInt8) : RowB (w.setCell ⟨b, k, none⟩ (.int .u8 (c.toNat : Int))) b (l.set k c) := by
  refine ⟨by simpa [World.setCell] using h.1, fun j x hx => ?_⟩
  by_cases e : k = j
  · subst e
    rw [List.getElem?_set_self hk] at hx
    injection hx with hx
    subst hx
    obtain ⟨h1, h2⟩ := h.2 k _ (List.getElem?_eq_getElem hk)
    exact ⟨World.cell?_setCell_same _ _ _ h1, by simpa using h2⟩
  · rw [List.getElem?_set_ne e] at hx
    obtain ⟨h1, h2⟩ := h.2 j x hx
    exact ⟨(World.cell?_setCell_other _ _ _ _ (by intro h; injection h with _ h _; omega)).trans h1, by simpa using h2⟩
def upTo (l : List UInt8) (k : Nat) : List UInt8 := (l.take k).map upB ++ l.drop k
theorem upTo_len (l : List UInt8) (k : Nat) : (upTo l k).length = l.length := by simp [upTo]; omega
theorem upTo_at (l : List UInt8) (k : Nat) (h : k < l.length) : (upTo l k)[k]'(by rw [upTo_len]; exact h) = l[k] := by
  simp only [upTo]
  rw [List.getElem_append_right (by simp; omega)]
  simp [Nat.min_eq_left (Nat.le_of_lt h)]
theorem upTo_step (l : List UInt8) (k : Nat) (h : k < l.length) : upTo l (k + 1) = (upTo l k).set k (upB l[k]) := by
  unfold upTo
  rw [List.take_succ_eq_append_getElem h, List.map_append, List.drop_eq_getElem_cons h]
  rw [List.set_append_right _ _ (by simp; omega)]
  have e : k - (List.map upB (List.take k l)).length = 0 := by simp; omega
  rw [e, List.set_cons_zero]
  simp
theorem upTo_all (l : List UInt8) : upTo l l.length = l.map upB := by simp [upTo]
theorem upTo_same {l : List UInt8} {k : Nat} (h : k < l.length) (e : upB l[k] = l[k]) : upTo l (k + 1) = upTo l k := by
  rw [upTo_step l k h, e]
  conv => lhs; arg 3; rw [← upTo_at l k h]
  exact List.set_getElem_self _
theorem upB_in {c : UInt8} (h1 : 97 ≤ (c.toNat : Int)) (h2 : (c.toNat : Int) ≤ 122) : ((upB c).toNat : Int) = (c.toNat : Int) - 97 + 65 := by
  unfold upB
  rw [if_pos (by omega)]
  have : (c - 32).toNat = c.toNat - 32 := by
    rw [UInt8.toNat_sub_of_le _ _ (by rw [UInt8.le_iff_toNat_le]; show 32 ≤ _; omega)]; rfl
  rw [this]; omega
theorem upB_out {c : UInt8} (h : ¬ (97 ≤ (c.toNat : Int) ∧ (c.toNat : Int) ≤ 122)) : upB c = c := by
  unfold upB
  rw [if_neg (by omega)]
theorem row_of_string {P : Program} (w : World) (src dst e : TypeId) (s : ByteArray) (hs : P.underlying src = some .string) (hd : P.underlying dst = some (.slice e)) (he : P.underlying e = some (.int .u8)) :
    ∃ (cap : Nat) (w1 : World), (convert src dst (.string s)).run P w = .ok (.slice (some ⟨w.heap.size, 0, none⟩) s.size cap) w1 ∧ s.size ≤ cap ∧ RowB w1 w.heap.size s.data.toList ∧ Below w.heap.size w w1 := by
  refine ⟨_, _, run_bytes_of_string w src dst e s hs hd he, ?_, ⟨?_, ?_⟩, ?_⟩
  · exact grownCap_ge _ _ _ _
  · simp
  · intro j c hj
    have hjl : j < s.data.toList.length := (List.getElem?_eq_some_iff.1 hj).1
    have hjs : j < s.data.size := by simpa using hjl
    have hc : s.data[j] = c := by
      have := (List.getElem?_eq_some_iff.1 hj).2
      simpa using this
    have hn := heap_alloc_new w.drew (.cells (bytesRow s (grownCap w s.size 0 e)) e ((bytesRow s (grownCap w s.size 0 e)).size, (bytesRow s (grownCap w s.size 0 e)).size + 1))
    have hsz : j < (bytesRow s (grownCap w s.size 0 e)).size := by
      have h2 : s.size = s.data.size := rfl
      unfold bytesRow; simp; omega
    refine ⟨?_, ?_⟩
    · have hn' : (w.drew.alloc (.cells (bytesRow s (grownCap w s.size 0 e)) e ((bytesRow s (grownCap w s.size 0 e)).size, (bytesRow s (grownCap w s.size 0 e)).size + 1))).heap[w.heap.size]? = some (.cells (bytesRow s (grownCap w s.size 0 e)) e ((bytesRow s (grownCap w s.size 0 e)).size, (bytesRow s (grownCap w s.size 0 e)).size + 1)) := hn
      rw [Lib.cell_of_heap hn']
      unfold bytesRow
      have h2 : j < s.size := hjs
      simp [Array.getElem?_append, h2, Array.getElem?_eq_getElem hjs, hc]
    · have hn' : (w.drew.alloc (.cells (bytesRow s (grownCap w s.size 0 e)) e ((bytesRow s (grownCap w s.size 0 e)).size, (bytesRow s (grownCap w s.size 0 e)).size + 1))).heap[w.heap.size]? = some (.cells (bytesRow s (grownCap w s.size 0 e)) e ((bytesRow s (grownCap w s.size 0 e)).size, (bytesRow s (grownCap w s.size 0 e)).size + 1)) := hn
      unfold World.frozen?
      simp only [hn']
      simp
      omega
  · exact (Below.drew (Below.refl _ _)).alloc (Nat.le_refl _) _
end Go.Pw
namespace Go.Proofs.YtifpmigghplmoaaGreatDoor
open Go.RowKit Go.Pw
set_option maxHeartbeats 1000000 in
set_option maxRecDepth 100000 in
theorem folded_any (s : ByteArray) (w : World) (hs : s.size ≤ 1000000) : Calls Tryz.prog 145 #[.string s] w fun e w' => e = .returned (.string ⟨(s.data.toList.map upB).toArray⟩) ∧ Below w.heap.size w w' := by
  obtain ⟨cap, w1, hconv, hcap, hrow, hbel⟩ := row_of_string (P := Tryz.prog) w 9 41 5 s Tryz.underlying9 Tryz.underlying41 Tryz.underlying5
  have HROW := hide hrow
  have HBEL := hide hbel
  have hz := hrow.1
  clear hrow hbel
  go_enter Tryz.func145, Tryz.ntmps145
  go_wp2_with fail
  clear hconv
  go_loopw [10] (fun i wr => ∃ k : Nat, k ≤ s.size ∧ i = .int .i64 (k : Int) ∧ RowB wr w.heap.size (upTo s.data.toList k) ∧ Below w.heap.size w wr) (fun i _ => s.size - (intOf i).toNat)
  case atStart => exact ⟨0, by omega, rfl, by simpa [upTo] using HROW.out, HBEL.out⟩
  case round =>
    obtain ⟨k, hk, rfl, hr, hb⟩ := hrel
    by_cases hlt : k < s.size
    · have hlt' : k < s.data.toList.length := by rw [len_size]; exact hlt
      have hl2 : k < (upTo s.data.toList k).length := by rw [upTo_len]; exact hlt'
      have hc := (hr.2 k _ (List.getElem?_eq_getElem hl2)).1
      have hf := (hr.2 k _ (List.getElem?_eq_getElem hl2)).2
      rw [upTo_at _ _ hlt'] at hc
      obtain ⟨c, hcc⟩ : ∃ c, s.data.toList[k] = c := ⟨_, rfl⟩
      rw [hcc] at hc
      have hlB := hr.1
      by_cases h1 : 97 ≤ (c.toNat : Int)
      · by_cases h2 : (c.toNat : Int) ≤ 122
        · have hu := upB_in h1 h2
          have hn : RowB (wr.setCell ⟨w.heap.size, k, none⟩ (.int .u8 ((c.toNat : Int) - 97 + 65))) w.heap.size (upTo s.data.toList (k + 1)) := by
            rw [upTo_step _ _ hlt', hcc, ← hu]
            exact hr.set hl2 _
          have HN := hide hn
          clear hn hu hr hcc
          go_wp2_with fail
          go_roundw
          case rel => exact ⟨k + 1, by omega, by go_num, HN.out, hb.setCell (by simp) _⟩
          case measure => simp [intOf]; omega
        · have HN : Hid (RowB wr w.heap.size (upTo s.data.toList (k + 1))) := hide (by rw [upTo_same hlt' (by rw [hcc]; exact upB_out (fun e => h2 e.2))]; exact hr)
          clear hr hcc
          go_wp2_with fail
          go_roundw
          case rel => exact ⟨k + 1, by omega, by go_num, HN.out, hb⟩
          case measure => simp [intOf]; omega
      · have HN : Hid (RowB wr w.heap.size (upTo s.data.toList (k + 1))) := hide (by rw [upTo_same hlt' (by rw [hcc]; exact upB_out (fun e => h1 e.1))]; exact hr)
        clear hr hcc
        go_wp2_with fail
        go_roundw
        case rel => exact ⟨k + 1, by omega, by go_num, HN.out, hb⟩
        case measure => simp [intOf]; omega
    · obtain rfl : k = s.size := by omega
      have hback : (convert 41 9 (.slice (some ⟨w.heap.size, 0, none⟩) s.size cap)).run Tryz.prog wr = .ok (.string ⟨(s.data.toList.map upB).toArray⟩) wr := by
        have := run_convert_bytes_back (P := Tryz.prog) wr 41 9 5 ⟨w.heap.size, 0, none⟩ cap (s.data.toList.map upB) Tryz.underlying41 Tryz.underlying5 Tryz.underlying9 (fun j hj => by
          rw [← len_size, upTo_all] at hr
          have := (hr.2 j _ (List.getElem?_eq_getElem hj)).1
          have ea : Addr.add ⟨w.heap.size, 0, none⟩ j = ⟨w.heap.size, j, none⟩ := by
            unfold Addr.add; split
            · rename_i h; rw [h]
            · simp
          rw [ea]; exact this)
        rw [List.length_map, len_size] at this
        exact this
      clear hr
      go_wp2_with fail
      go_ret
      exact ⟨rfl, hb⟩
end Go.Proofs.YtifpmigghplmoaaGreatDoor
