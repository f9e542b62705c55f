import Derived.Test.YtfjbdbdjhkmifaaWalker2
import Derived.Test.YtfjbdbdjhkmifaaSame
set_option linter.unusedSimpArgs false
set_option linter.unusedVariables false
namespace Go.Proofs.Ytfjbdbdjhkmifaa
open Go.RowKit Go.Pw

def restErr (a : Option (List ByteArray)) (to : Bool) (h : Hk) (s : WS) : Int :=
  match a with
  | none => if 1000000 < h.frm then 3 else if to = true ∧ h.to_ ≠ h.frm + s.del then 19 else 0
  | some l => if (l.length : Int) < h.frm ∨ (l.length : Int) < h.frm + h.old.length then 3 else if (l.drop h.frm.toNat).take h.old.length ≠ h.old then 19 else if to = true ∧ h.to_ ≠ h.frm + s.del then 19 else 0
def hStep (a : Option (List ByteArray)) (to : Bool) (h : Hk) (s : WS) : Int := if formErr h s.fin ≠ 0 then formErr h s.fin else restErr a to h s
def hRun (a : Option (List ByteArray)) (to : Bool) : List Hk → WS → Int ⊕ WS
  | [], s => .inr s
  | h :: hs, s => if hStep a to h s = 0 then hRun a to hs (s.next h) else .inl (hStep a to h s)
def hOut (a : Option (List ByteArray)) (r : Int ⊕ WS) : Int := match r with
  | .inl e => e
  | .inr s => match a with
    | none => 0
    | some l => if 1000 < (l.length : Int) + s.del then 2 else 0
/-- the error of hunks -/
def hunkErr (a : Option (List ByteArray)) (to : Bool) (hs : List Hk) : Int := if a = none ∧ 1000 < hs.length then 2 else hOut a (hRun a to hs ⟨0, 0⟩)

section
variable {a : Option (List ByteArray)} {to : Bool} {hs : List Hk} {k : Nat} {s : WS} {R : Int}
theorem hrun_go (h : Hid (R = hOut a (hRun a to (hs.drop k) s))) (hk : k < hs.length) (h0 : hStep a to hs[k] s = 0) : Hid (R = hOut a (hRun a to (hs.drop (k + 1)) (s.next hs[k]))) := by
  have := h.out
  rw [List.drop_eq_getElem_cons hk, hRun, if_pos h0] at this
  exact this
theorem hrun_stop (h : Hid (R = hOut a (hRun a to (hs.drop k) s))) (hk : k < hs.length) {e : Int} (h0 : hStep a to hs[k] s = e) (he : ¬ e = 0) : R = e := by
  have := h.out
  rw [List.drop_eq_getElem_cons hk, hRun, if_neg (by rw [h0]; exact he), h0] at this
  exact this
theorem hrun_end (h : Hid (R = hOut a (hRun a to (hs.drop k) s))) (hk : ¬ k < hs.length) : R = hOut a (.inr s) := by
  have := h.out
  rw [List.drop_of_length_le (by omega)] at this
  exact this
end
theorem form_zero {h : Hk} {fin : Int} (h0 : formErr h fin = 0) : listsErr [h.old, h.new] = 0 ∧ fin ≤ h.frm := by
  unfold formErr at h0
  split at h0
  · rename_i h1; exact absurd h0 h1
  · rename_i h1
    split at h0
    · cases h0
    · split at h0
      · cases h0
      · exact ⟨by simpa using h1, by omega⟩
theorem step_form {a : Option (List ByteArray)} {to : Bool} {h : Hk} {s : WS} {e : Int} (h1 : formErr h s.fin = e) (he : ¬ e = 0) : hStep a to h s = e := by
  unfold hStep; rw [h1, if_pos he]
theorem step_rest {a : Option (List ByteArray)} {to : Bool} {h : Hk} {s : WS} {e : Int} (h1 : formErr h s.fin = 0) (h2 : restErr a to h s = e) : hStep a to h s = e := by
  unfold hStep; rw [h1, if_neg (by simp), h2]

set_option maxHeartbeats 4000000 in
set_option maxRecDepth 100000 in
theorem turnable_any (v : Value) (hs : List Hk) (to : Bool) (w : World) (h : Hunks w v hs) :
    Calls Try.prog 46 #[v, .bool to] w fun e w' => e = .returned (.int .i64 (hunkErr none to hs)) ∧ Below w.heap.size w w' := by
  obtain ⟨vs, hvs, ⟨_, A, ca, rfl, hca, hma, hxa⟩, hok, hel⟩ := h
  unfold maxLen at hma
  have HVS := hide hvs
  have HXA := hide hxa
  have HE := hide hel
  have HOK := hide hok
  clear hvs hxa hel hok
  by_cases hlen : 1000 < hs.length
  · have HR : Hid (hunkErr none to hs = 2) := by show _ = _; unfold hunkErr; rw [if_pos ⟨rfl, hlen⟩]
    have hl' : decide ((1000 : Int) < (hs.length : Int)) = true := by simp; omega
    go_enter Try.func46, Try.ntmps46
    go_wp2_with fail
    go_ret
    exact ⟨by rw [HR.out]; rfl, Below.refl _ _⟩
  · have HR : Hid (hunkErr none to hs = hOut none (hRun none to (hs.drop 0) ⟨0, 0⟩)) := by show _ = _; unfold hunkErr; rw [if_neg (fun h => hlen h.2), List.drop_zero]
    have hl' : decide ((1000 : Int) < (hs.length : Int)) = false := by simp; omega
    have hle : hs.length ≤ 1000 := by omega
    clear hlen
    go_enter Try.func46, Try.ntmps46
    go_wp2_with fail
    go_loopw [16] (fun i wr => ∃ (k : Nat) (s : WS) (f t : Int) (B : Option Addr) (n c : Nat) (vn : Value) (any : Bool), k ≤ hs.length ∧ i = .int .i64 (k : Int) ∧ WalkAt wr w.heap.size f t (.slice B n c) vn any s.del ∧ Hid (EndIs s.fin f n any) ∧ f ≤ 9223372036854775807 ∧ n ≤ 9223372036854775807 ∧ 0 ≤ s.fin ∧ -(1000 * (k : Int)) ≤ s.del ∧ s.del ≤ 1000 * (k : Int) ∧ Hid (hunkErr none to hs = hOut none (hRun none to (hs.drop k) s)) ∧ Below w.heap.size w wr) (fun i _ => hs.length - (intOf i).toNat)
    case atStart => exact ⟨0, ⟨0, 0⟩, 0, 0, none, 0, 0, .slice none 0 0, false, by omega, rfl, heap_alloc_new w _, rfl, by omega, by omega, by simp, by simp, by simp, HR, (Below.refl _ _).alloc (Nat.le_refl _) _⟩
    case round =>
      obtain ⟨k, s, f, t, B, n, c, vn, any, hk, rfl, hwk, hen, hf, hn, hfin, hd1, hd2, hrun, hbw⟩ := hrel
      by_cases hlt : k < hs.length
      · obtain ⟨ba, oa, rfl, hba, hja⟩ := HXA.out (by omega)
        have kv : k < vs.length := by rw [HVS.out]; exact hlt
        have cs := hkCells_at hs vs k hs[k] vs[k] (List.getElem?_eq_getElem hlt) (List.getElem?_eq_getElem kv) HVS.out
        rw [Nat.mul_comm] at cs
        have a0 := (hbw.cell hba).trans (hja _ _ cs.1)
        have a1 := (hbw.cell hba).trans (hja _ _ cs.2.1)
        have a2 := (hbw.cell hba).trans (hja _ _ cs.2.2.1)
        have a3 := (hbw.cell hba).trans (hja _ _ cs.2.2.2)
        clear cs hja
        simp only [← Nat.add_assoc] at a0 a1 a2 a3
        have s1 := HE.out k hs[k] vs[k].1 vs[k].2 (List.getElem?_eq_getElem hlt) (List.getElem?_eq_getElem kv)
        have hokk := HOK.out _ (List.getElem_mem hlt)
        have lza : ba < wr.heap.size := by have := hbw.size; omega
        obtain ⟨A1, n1, c1, e1⟩ := strs_form s1.1
        obtain ⟨A2, n2, c2, e2⟩ := strs_form s1.2
        rw [e1] at a2
        rw [e2] at a3
        rw [e1, e2] at s1
        clear e1 e2 kv
        obtain ⟨t1, t2⟩ := s1
        obtain rfl := t1.len
        obtain rfl := t2.len
        have HGO := @hrun_go none to hs k s _ hrun hlt
        have HST : ∀ e, hStep none to hs[k] s = e → ¬ e = 0 → hunkErr none to hs = e := fun e h1 h2 => hrun_stop hrun hlt h1 h2
        obtain ⟨h, hh⟩ : ∃ h, hs[k] = h := ⟨_, rfl⟩
        rw [hh] at a0 a1 a2 a3 t1 t2 hokk HGO HST
        have HG := hide HGO
        have HS := hide HST
        clear hh HGO HST
        have T1 := hide t1
        have T2 := hide t2
        clear t1 t2
        have bb1 := (Below.refl wr.heap.size wr).alloc (Nat.le_refl _) (.cells #[.int .i64 h.frm, .int .i64 h.to_, .slice A1 h.old.length c1, .slice A2 h.new.length c2] 43)
        have hbp : Below w.heap.size w (wr.alloc (.cells #[.int .i64 h.frm, .int .i64 h.to_, .slice A1 h.old.length c1, .slice A2 h.new.length c2] 43)) := hbw.trans (bb1.mono hbw.size)
        go_wp2_with fail
        refine (form_any _ w.heap.size f t s.del s.fin B n c vn any h A1 A2 c1 c2 (hwk.below bb1) hen.out hf hn hokk.1 (T1.out.below hbp) (T2.out.below hbp)).mono ?_
        rintro e w1 ⟨rfl, hb1⟩
        have hb1w : Below wr.heap.size wr w1 := bb1.trans (hb1.mono (by simp))
        have hbw1 := hbw.trans (hb1w.mono hbw.size)
        have hwk1 := hwk.below hb1w
        have hcp : w1.heap[wr.heap.size]? = some (.cells #[.int .i64 h.frm, .int .i64 h.to_, .slice A1 h.old.length c1, .slice A2 h.new.length c2] 43 (0, 0)) := (hb1.block wr.heap.size (by simp)).trans (heap_alloc_new _ _)
        have p0 : w1.cell? ⟨wr.heap.size, 0, none⟩ = some (.int .i64 h.frm) := by rw [Lib.cell_of_heap hcp]; rfl
        have p1 : w1.cell? ⟨wr.heap.size, 1, none⟩ = some (.int .i64 h.to_) := by rw [Lib.cell_of_heap hcp]; rfl
        have p2 : w1.cell? ⟨wr.heap.size, 2, none⟩ = some (.slice A1 h.old.length c1) := by rw [Lib.cell_of_heap hcp]; rfl
        have p3 : w1.cell? ⟨wr.heap.size, 3, none⟩ = some (.slice A2 h.new.length c2) := by rw [Lib.cell_of_heap hcp]; rfl
        have HCP := hide hcp
        clear hcp a0 a1 a2 a3 hb1 bb1 hwk
        obtain ⟨er, her⟩ : ∃ er, formErr h s.fin = er := ⟨_, rfl⟩
        rw [her]
        have HER := hide her
        clear her
        by_cases h0 : er = 0
        · subst h0
          obtain ⟨hle0, hfo⟩ := form_zero HER.out
          have l1 := lists_len hle0 (l := h.old) (by simp)
          have l2 := lists_len hle0 (l := h.new) (by simp)
          clear hle0
          obtain ⟨⟨x1, x2⟩, _⟩ := hokk
          by_cases hr : 1000000 < h.frm
          · have HV := hide (HS.out 3 (step_rest HER.out (by simp [restErr, hr])) (by decide))
            go_wp2_with fail
            go_ret
            exact ⟨by rw [HV.out]; rfl, hbw1⟩
          · cases to
            · have HM := HG.out (step_rest HER.out (by simp [restErr, hr]))
              go_wp2_with fail
              refine (pass_any _ w.heap.size f t s.del _ vn any h.frm h.to_ A1 A2 _ _ c1 c2 hwk1 (by omega) (by omega) l1 l2).mono ?_
              rintro e w3 ⟨rfl, hw3, hb3⟩
              have hbw3 := hbw1.trans hb3
              go_wp2_with fail
              go_roundw
              case rel => exact ⟨k + 1, s.next h, h.frm, h.to_, A1, h.old.length, c1, _, true, by omega, by go_num, hw3, by show EndIs _ _ _ _; simp [EndIs, WS.next]; omega, x2, by omega, by simp [WS.next]; omega, by simp [WS.next]; omega, by simp [WS.next]; omega, HM, hbw3⟩
              case measure => simp [intOf]; omega
            · by_cases hp : h.to_ = h.frm + s.del
              · have hpd : decide (h.to_ = h.frm + s.del) = true := by simpa using hp
                have HP := hide hp
                clear hp
                go_wp2_with fail
                refine (placed_any _ w.heap.size f t s.del _ vn any h.frm h.to_ _ _ hwk1 (by omega) (by omega) (by omega) (by omega)).mono ?_
                rintro e w2 ⟨rfl, hb2⟩
                rw [hpd]
                have hwk2 := hwk1.below hb2
                have hbw2 := hbw1.trans (hb2.mono hbw1.size)
                have hcp2 := (hb2.block wr.heap.size (by rcases Nat.lt_or_ge wr.heap.size w1.heap.size with h' | h'; exact h'; have := HCP.out; simp [Array.getElem?_eq_none h'] at this)).trans HCP.out
                have q0 : w2.cell? ⟨wr.heap.size, 0, none⟩ = some (.int .i64 h.frm) := by rw [Lib.cell_of_heap hcp2]; rfl
                have q1 : w2.cell? ⟨wr.heap.size, 1, none⟩ = some (.int .i64 h.to_) := by rw [Lib.cell_of_heap hcp2]; rfl
                have q2 : w2.cell? ⟨wr.heap.size, 2, none⟩ = some (.slice A1 h.old.length c1) := by rw [Lib.cell_of_heap hcp2]; rfl
                have q3 : w2.cell? ⟨wr.heap.size, 3, none⟩ = some (.slice A2 h.new.length c2) := by rw [Lib.cell_of_heap hcp2]; rfl
                clear p0 p1 p2 p3 hcp2 hpd
                have HM := HG.out (step_rest HER.out (by simp [restErr, hr, HP.out]))
                go_wp2_with fail
                refine (pass_any _ w.heap.size f t s.del _ vn any h.frm h.to_ A1 A2 _ _ c1 c2 hwk2 (by omega) (by omega) l1 l2).mono ?_
                rintro e w3 ⟨rfl, hw3, hb3⟩
                have hbw3 := hbw2.trans hb3
                go_wp2_with fail
                go_roundw
                case rel => exact ⟨k + 1, s.next h, h.frm, h.to_, A1, h.old.length, c1, _, true, by omega, by go_num, hw3, by show EndIs _ _ _ _; simp [EndIs, WS.next]; omega, x2, by omega, by simp [WS.next]; omega, by simp [WS.next]; omega, by simp [WS.next]; omega, HM, hbw3⟩
                case measure => simp [intOf]; omega
              · have hpd : decide (h.to_ = h.frm + s.del) = false := by simpa using hp
                have HV := hide (HS.out 19 (step_rest HER.out (by simp [restErr, hr, hp])) (by decide))
                clear hp
                go_wp2_with fail
                refine (placed_any _ w.heap.size f t s.del _ vn any h.frm h.to_ _ _ hwk1 (by omega) (by omega) (by omega) (by omega)).mono ?_
                rintro e w2 ⟨rfl, hb2⟩
                rw [hpd]
                have hbw2 := hbw1.trans (hb2.mono hbw1.size)
                clear hpd
                go_wp2_with fail
                go_ret
                exact ⟨by rw [HV.out]; rfl, hbw2⟩
        · have HV := hide (HS.out _ (step_form HER.out h0) h0)
          have h0' : (er != 0) = true := by simpa using h0
          clear h0
          go_wp2_with fail
          go_ret
          exact ⟨by rw [HV.out]; rfl, hbw1⟩
      · have HV := hide (hrun_end hrun hlt)
        go_wp2_with fail
        go_ret
        exact ⟨by rw [HV.out]; rfl, hbw⟩
end Go.Proofs.Ytfjbdbdjhkmifaa
