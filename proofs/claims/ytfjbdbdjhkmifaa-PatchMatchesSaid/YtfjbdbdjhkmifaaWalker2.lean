import Derived.Test.YtfjbdbdjhkmifaaWalker
import Derived.RegionTactic
set_option linter.unusedSimpArgs false
set_option linter.unusedVariables false
namespace Go.Proofs.Ytfjbdbdjhkmifaa
open Go.RowKit Go.Pw

set_option maxHeartbeats 2000000 in
set_option maxRecDepth 100000 in
theorem placed_any (w : World) (wb : Nat) (f t d : Int) (vo vn : Value) (any : Bool) (x y : Int) (vo' vn' : Value) (hw : WalkAt w wb f t vo vn any d)
    (hd1 : -1000000000000000000 ≤ d) (hd2 : d ≤ 1000000000000000000) (hx1 : 0 ≤ x) (hx2 : x ≤ 1000000000000000000) :
    Calls Try.prog 71 #[.pointer (some ⟨wb, 0, none⟩), .agg #[.int .i64 x, .int .i64 y, vo', vn']] w fun e w' => e = .returned (.bool (decide (y = x + d))) ∧ Below w.heap.size w w' := by
  have hlt := hw.lt
  have c5 : w.cell? ⟨wb, 5, none⟩ = some (.int .i64 d) := by rw [Lib.cell_of_heap hw]; rfl
  clear hw
  have hbb : Below w.heap.size w (w.alloc (.cells #[.int .i64 x, .int .i64 y, vo', vn'] 43)) := (Below.refl _ _).alloc (Nat.le_refl _) _
  have hadd : IntKind.i64.wrap (x + d) = x + d := IntWalk.i64_in _ (by omega)
  by_cases hd : d < 0
  · have hd' : decide (d < 0) = true := by simpa using hd
    by_cases hy : y = x + d
    · have hy' : (y == x + d) = true := by simpa using hy
      have HR := hide (show decide (y = x + d) = true by simpa using hy)
      clear hy
      go_enter Try.func71, Try.ntmps71
      go_wp2_with fail
      go_quiet (fail)
      go_wp2_with fail
      go_ret
      exact ⟨by rw [HR.out]; rfl, below_drewN hbb _⟩
    · have hy' : (y == x + d) = false := by simpa using hy
      have HR := hide (show decide (y = x + d) = false by simpa using hy)
      clear hy
      go_enter Try.func71, Try.ntmps71
      go_wp2_with fail
      go_quiet (fail)
      go_wp2_with fail
      go_ret
      exact ⟨by rw [HR.out]; rfl, below_drewN hbb _⟩
  · have hd' : decide (d < 0) = false := by simpa using hd
    have hsub : IntKind.i64.wrap (9223372036854775807 - d) = 9223372036854775807 - d := IntWalk.i64_in _ (by omega)
    have hle : decide (x ≤ 9223372036854775807 - d) = true := by simp; omega
    by_cases hy : y = x + d
    · have hy' : (y == x + d) = true := by simpa using hy
      have HR := hide (show decide (y = x + d) = true by simpa using hy)
      clear hy
      go_enter Try.func71, Try.ntmps71
      go_wp2_with fail
      go_quiet (fail)
      go_wp2_with fail
      go_ret
      exact ⟨by rw [HR.out]; rfl, below_drewN hbb _⟩
    · have hy' : (y == x + d) = false := by simpa using hy
      have HR := hide (show decide (y = x + d) = false by simpa using hy)
      clear hy
      go_enter Try.func71, Try.ntmps71
      go_wp2_with fail
      go_quiet (fail)
      go_wp2_with fail
      go_ret
      exact ⟨by rw [HR.out]; rfl, below_drewN hbb _⟩

set_option maxHeartbeats 2000000 in
set_option maxRecDepth 100000 in
theorem form_any (w : World) (wb : Nat) (f t d fin : Int) (A : Option Addr) (n c : Nat) (vn : Value) (any : Bool) (h : Hk) (A1 A2 : Option Addr) (c1 c2 : Nat) (hw : WalkAt w wb f t (.slice A n c) vn any d) (he : EndIs fin f n any)
    (hf : f ≤ 9223372036854775807) (hn : n ≤ 9223372036854775807) (hx : inI64 h.frm) (h1 : Strs w (.slice A1 h.old.length c1) h.old) (h2 : Strs w (.slice A2 h.new.length c2) h.new) :
    Calls Try.prog 70 #[.pointer (some ⟨wb, 0, none⟩), .agg #[.int .i64 h.frm, .int .i64 h.to_, .slice A1 h.old.length c1, .slice A2 h.new.length c2]] w fun e w' => e = .returned (.int .i64 (formErr h fin)) ∧ Below w.heap.size w w' := by
  have H1 := hide h1
  have H2 := hide h2
  have HW := hide hw
  have HE := hide he
  have HX := hide hx
  clear h1 h2 hw he hx
  have hbb : Below w.heap.size w (w.alloc (.cells #[.int .i64 h.frm, .int .i64 h.to_, .slice A1 h.old.length c1, .slice A2 h.new.length c2] 43)) := (Below.refl _ _).alloc (Nat.le_refl _) _
  have hbq := hbb.alloc (by simp) (.cells #[.slice A1 h.old.length c1, .slice A2 h.new.length c2] 22)
  have hSL0 := strsL_two _ _ _ h.old h.new 22 (H1.out.below hbb) (H2.out.below hbb)
  rw [show (w.alloc (.cells #[.int .i64 h.frm, .int .i64 h.to_, .slice A1 h.old.length c1, .slice A2 h.new.length c2] 43)).heap.size = w.heap.size + 1 from by simp] at hSL0
  have hSL := hide hSL0
  clear hSL0
  obtain ⟨er, her⟩ : ∃ er, listsErr [h.old, h.new] = er := ⟨_, rfl⟩
  have HER := hide her
  clear her
  by_cases h0 : er = 0
  · subst h0
    have l1 := lists_len HER.out (l := h.old) (by simp)
    have l2 := lists_len HER.out (l := h.new) (by simp)
    by_cases hz : h.old.length + h.new.length = 0
    · have HV : Hid (formErr h fin = 23) := by
        show _ = _
        unfold formErr; rw [HER.out, if_neg (by simp), if_pos hz]
      have hz' : (((h.old.length : Int) + (h.new.length : Int)) == 0) = true := by simp; omega
      clear hz
      go_enter Try.func70, Try.ntmps70
      go_wp2_with fail
      refine (listed_any _ [h.old, h.new] _ hSL.out).mono ?_
      rintro e w1 ⟨rfl, rfl⟩
      rw [HER.out]
      go_wp2_with fail
      go_ret
      exact ⟨by rw [HV.out]; rfl, hbq⟩
    · have HV : Hid (formErr h fin = if h.frm < fin then 9 else 0) := by
        show _ = _
        unfold formErr; rw [HER.out, if_neg (by simp), if_neg hz]
      have hz' : (((h.old.length : Int) + (h.new.length : Int)) == 0) = false := by simp; omega
      clear hz
      go_enter Try.func70, Try.ntmps70
      go_wp2_with fail
      refine (listed_any _ [h.old, h.new] _ hSL.out).mono ?_
      rintro e w1 ⟨rfl, rfl⟩
      rw [HER.out]
      go_wp2_with fail
      refine (ordered_any _ wb f t d fin A n c vn any h.frm h.to_ _ _ (HW.out.below hbq) HE.out hf hn HX.out).mono ?_
      rintro e w2 ⟨rfl, hb2⟩
      have hb3 : Below w.heap.size w w2 := hbq.trans (hb2.mono (by simp; omega))
      by_cases ho : h.frm < fin
      · have ho' : decide (fin ≤ h.frm) = false := by simp; omega
        rw [ho']
        rw [if_pos ho] at HV
        clear ho'
        go_wp2_with fail
        go_ret
        exact ⟨by rw [HV.out]; rfl, hb3⟩
      · have ho' : decide (fin ≤ h.frm) = true := by simp; omega
        rw [ho']
        rw [if_neg ho] at HV
        clear ho'
        go_wp2_with fail
        go_ret
        exact ⟨by rw [HV.out]; rfl, hb3⟩
  · have HV : Hid (formErr h fin = er) := by
      show _ = _
      unfold formErr; rw [HER.out, if_pos h0]
    have h0' : (er != 0) = true := by simpa using h0
    clear h0
    go_enter Try.func70, Try.ntmps70
    go_wp2_with fail
    refine (listed_any _ [h.old, h.new] _ hSL.out).mono ?_
    rintro e w1 ⟨rfl, rfl⟩
    rw [HER.out]
    go_wp2_with fail
    go_ret
    exact ⟨by rw [HV.out]; rfl, hbq⟩

theorem set_heap {w : World} {b : Nat} {cs : Array Value} {T : TypeId} (h : w.heap[b]? = some (.cells cs T (0, 0))) (j : Nat) (v : Value) : (w.setCell ⟨b, j, none⟩ v).heap[b]? = some (.cells (cs.setIfInBounds j v) T (0, 0)) := by
  simp [World.setCell, Array.getElem?_modify, h]
set_option maxHeartbeats 2000000 in
set_option maxRecDepth 100000 in
theorem pass_any (w : World) (wb : Nat) (f t d : Int) (vo vn : Value) (any : Bool) (x y : Int) (A1 A2 : Option Addr) (n1 n2 c1 c2 : Nat) (hw : WalkAt w wb f t vo vn any d)
    (hd1 : -1000000000000000000 ≤ d) (hd2 : d ≤ 1000000000000000000) (h1 : n1 ≤ 1000) (h2 : n2 ≤ 1000) :
    Calls Try.prog 72 #[.pointer (some ⟨wb, 0, none⟩), .agg #[.int .i64 x, .int .i64 y, .slice A1 n1 c1, .slice A2 n2 c2]] w fun e w' => e = .returned (.tuple #[]) ∧ WalkAt w' wb x y (.slice A1 n1 c1) (.slice A2 n2 c2) true (d + ((n2 : Int) - (n1 : Int))) ∧ Below wb w w' := by
  have hlt := hw.lt
  have c0 : w.cell? ⟨wb, 0, none⟩ = some (.int .i64 f) := by rw [Lib.cell_of_heap hw]; rfl
  have c1' : w.cell? ⟨wb, 1, none⟩ = some (.int .i64 t) := by rw [Lib.cell_of_heap hw]; rfl
  have c2' : w.cell? ⟨wb, 2, none⟩ = some vo := by rw [Lib.cell_of_heap hw]; rfl
  have c3 : w.cell? ⟨wb, 3, none⟩ = some vn := by rw [Lib.cell_of_heap hw]; rfl
  have c4 : w.cell? ⟨wb, 4, none⟩ = some (.bool any) := by rw [Lib.cell_of_heap hw]; rfl
  have c5 : w.cell? ⟨wb, 5, none⟩ = some (.int .i64 d) := by rw [Lib.cell_of_heap hw]; rfl
  have fz : ∀ j, w.frozen? ⟨wb, j, none⟩ = false := fun j => Lib.frozen_of_heap hw j
  have f0 := fz 0; have f1 := fz 1; have f2 := fz 2; have f3 := fz 3; have f4 := fz 4; have f5 := fz 5
  clear fz
  go_enter Try.func72, Try.ntmps72
  go_wp2_with fail
  go_region
  all_goals
    go_wp2_with fail
    go_end0
    refine ⟨rfl, ?_, ?_⟩
    · have e0 := set_heap hw 0 (.int .i64 x)
      have e1 := set_heap e0 1 (.int .i64 y)
      have e2 := set_heap e1 2 (.slice A1 n1 c1)
      have e3 := set_heap e2 3 (.slice A2 n2 c2)
      have e4 := set_heap e3 4 (.bool true)
      have e5 := set_heap e4 5 (.int .i64 (d + ((n2 : Int) - (n1 : Int))))
      exact (Lib.alloc_old _ _ _ (by simpa [World.setCell] using hlt)).trans e5
    · exact ((((((((Below.refl wb w).setCell (by simp) _).setCell (by simp) _).setCell (by simp) _).setCell (by simp) _).setCell (by simp) _).setCell (by simp) _).alloc (by simp [World.setCell]; omega) _).drew
end Go.Proofs.Ytfjbdbdjhkmifaa
