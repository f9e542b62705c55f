/- slices.Delete of one tree. -/
import Derived.Test.YtfjbdbdjhkmifaaCdR
import Derived.Test.YtfjbdbdjhkmifaaIConcat
import Derived.Test.YtfjbdbdjhkmifaaDmZP
import Derived.Deep.RegionLaw
import Derived.Deep.Upon
set_option linter.unusedVariables false
set_option linter.unusedSimpArgs false
namespace Go.Proofs.Ytfjbdbdjhkmifaa
open Go.RowKit Go.Pw
/-- an own row, with all that its block holds -/
theorem own_fullG {w : World} {base e size n cap g : Nat} {xs : List Value} (h : w.ownsRow base e size (.slice (some ⟨g, 0, none⟩) n cap) n xs) : ∃ F : List Value, F.length = cap * size ∧ F.take (n * size) = xs ∧ n ≤ cap ∧ cap ≤ maxLen ∧ w.ownsRow base e size (.slice (some ⟨g, 0, none⟩) cap cap) cap F := by
  obtain ⟨hl, h0 | ⟨g', c', cur, hv, hg, hh, hc, hm, hs, ht⟩⟩ := h
  · obtain ⟨h0, _⟩ := h0; cases h0
  · injection hv with e1 e2 e3
    injection e1 with e1
    injection e1 with e1
    subst e1 e3
    refine ⟨cur.toList, by simpa using hs, ht, hc, hm, by simpa using hs, .inr ⟨g, cap, cur, rfl, hg, hh, Nat.le_refl _, hm, hs, ?_⟩⟩
    rw [List.take_of_length_le (by simp [hs])]
theorem own_thereG {w : World} {base e size cap g : Nat} {F : List Value} (h : w.ownsRow base e size (.slice (some ⟨g, 0, none⟩) cap cap) cap F) : (∀ j u, F[j]? = some u → w.cell? ⟨g, j, none⟩ = some u) ∧ ∀ j, w.frozen? ⟨g, j, none⟩ = false := by
  obtain ⟨hl, h0 | ⟨g', c', cur, hv, hg, hh, hc, hm, hs, ht⟩⟩ := h
  · obtain ⟨h0, _⟩ := h0; cases h0
  · injection hv with e1 e2 e3
    injection e1 with e1
    injection e1 with e1
    subst e1 e3
    refine ⟨fun j u hu => ?_, fun j => by simp [World.frozen?, hh]⟩
    simp only [World.cell?, hh]
    rw [← ht, List.getElem?_take] at hu
    split at hu
    · simpa using hu
    · cases hu
theorem own_slice {w : World} {base e size n : Nat} {v : Value} {xs : List Value} (h : w.ownsRow base e size v n xs) (h0 : 0 < n) : ∃ g cap, v = .slice (some ⟨g, 0, none⟩) n cap ∧ base ≤ g ∧ g < w.heap.size ∧ n ≤ cap ∧ cap ≤ maxLen := by
  rcases h.2 with ⟨_, rfl⟩ | ⟨g, cap, cur, rfl, hg, hh, hn, hm, _⟩
  · omega
  · exact ⟨g, cap, rfl, hg, (Array.getElem?_eq_some_iff.1 hh).1, hn, hm⟩
theorem info_tree : (Try.prog.info? 135).map (fun i => (i.zero, i.size, i.bytes)) = some (some (.agg #[.int .i64 0, .int .i64 0, .slice none 0 0]), 3, 40) := by kernel_rfl
theorem grown_setCells' (w : World) (g o : Nat) (vs : List Value) : w.grownBy (w.setCells g o vs) (some g) := by
  have hz : (w.setCells g o vs).heap.size = w.heap.size := by
    have : ∀ (vs : List Value) (o : Nat) (w : World), (w.setCells g o vs).heap.size = w.heap.size := by
      intro vs
      induction vs with
      | nil => intro o w; rfl
      | cons v r ih => intro o w; rw [World.setCells, ih]; simp [World.setCell]
    exact this vs o w
  have hb : Below 0 w (w.setCells g o vs) := by
    have : ∀ (vs : List Value) (o : Nat) (w : World), Below 0 w (w.setCells g o vs) := by
      intro vs
      induction vs with
      | nil => intro o w; exact Below.refl _ _
      | cons v r ih => intro o w; exact ((Below.refl 0 w).setCell (p := ⟨g, o, none⟩) (Nat.zero_le _) v).trans (ih _ _)
    exact this vs o w
  exact ⟨hb.os, hb.tape, hb.output, by omega, fun k hk hne => World.heap_setCells_other w g o vs hk (fun e => hne (by rw [e]))⟩
/-- clear of one tree -/
theorem clearT_run (w : World) (ty : TypeId) (g o c : Nat) (hc : ∀ j, j < 3 → (w.cell? ⟨g, o + j, none⟩).isSome = true) (hf : ∀ j, j < 3 → w.frozen? ⟨g, o + j, none⟩ = false) :
    (Builtin.clear_ #[133] ty #[.slice (some ⟨g, o, none⟩) 1 c]).run Try.prog w = .ok (.tuple #[]) (w.setCells g o [.int .i64 0, .int .i64 0, .slice none 0 0]) := by
  have hzc : (Builtin.zeroCells (Value.agg #[.int .i64 0, .int .i64 0, .slice none 0 0]).cells 1).toList = [.int .i64 0, .int .i64 0, .slice none 0 0] := by kernel_rfl
  have hst := run_storeCells_cells (P := Try.prog) g o [.int .i64 0, .int .i64 0, .slice none 0 0] 0 w (by simpa using hc) (by simpa using hf) (by simp [Value.oneCell'])
  simp only [Nat.add_zero] at hst
  simp [Builtin.clear_, run_underlying Try.underlying133, Try.zeroValue135, hzc, hst]
set_option maxHeartbeats 4000000 in
set_option maxRecDepth 100000 in
theorem delete_any (v : Value) (n k : Nat) (xs : List Value) (base : Nat) (w : World) (h : w.ownsRow base 135 3 v n xs) (hk : k < n) (hn : n ≤ 100000) (h1 : ∀ x ∈ xs, x.oneCell' = true) :
    Calls Try.prog 80 #[v, .int .i64 (k : Int), .int .i64 ((k : Int) + 1)] w fun e w' => ∃ g cap, v = .slice (some ⟨g, 0, none⟩) n cap ∧ e = .returned (.slice (some ⟨g, 0, none⟩) (n - 1) cap) ∧ w'.ownsRow base 135 3 (.slice (some ⟨g, 0, none⟩) (n - 1) cap) (n - 1) (xs.take (k * 3) ++ xs.drop ((k + 1) * 3)) ∧ w.grownBy w' v.ownBlock := by
  obtain ⟨ip, hip, hpz, hps, hpb⟩ := info_parts info_tree
  obtain ⟨g, cap, rfl, hg, hgz, hnc, hcm⟩ := own_slice h (by omega)
  have hxl : xs.length = n * 3 := h.1
  obtain ⟨F, hF, hFt, _, _, hfull⟩ := own_fullG h
  obtain ⟨hcF, hfF⟩ := own_thereG hfull
  have hcx : ∀ j u, xs[j]? = some u → w.drew.cell? ⟨g, j, none⟩ = some u := fun j u hu => hcF j u (by
    rw [← hFt, List.getElem?_take] at hu
    split at hu
    · exact hu
    · cases hu)
  have hsp : ∀ j, j < cap * 3 → (w.drew.cell? ⟨g, j, none⟩).isSome = true ∧ w.drew.frozen? ⟨g, j, none⟩ = false := fun j hj => ⟨by
    have := hcF j F[j] (List.getElem?_eq_getElem (by omega))
    show (w.cell? _).isSome = true
    rw [this]; rfl, hfF j⟩
  have hnew : (xs.drop ((k + 1) * 3)).length = (n - (k + 1)) * 3 := by rw [List.length_drop]; omega
  have hfulld : w.drew.ownsRow base 135 3 (.slice (some ⟨g, 0, none⟩) cap cap) cap F := hfull
  obtain ⟨W1, hW1⟩ : ∃ W1, W1 = w.drew.setCells g (k * 3) (xs.drop ((k + 1) * 3)) := ⟨_, rfl⟩
  have ho1 := (own_setCells (xs.drop ((k + 1) * 3)) F (k * 3) w.drew hfulld).1
  have hg1 := grown_setCells' w.drew g (k * 3) (xs.drop ((k + 1) * 3))
  rw [← hW1] at ho1 hg1
  obtain ⟨F1, hF1⟩ : ∃ F1, setAll F (k * 3) (xs.drop ((k + 1) * 3)) = F1 := ⟨_, rfl⟩
  have hF1l : F1.length = cap * 3 := by rw [← hF1, setAll_length, hF]
  have hF1t : F1.take ((n - 1) * 3) = xs.take (k * 3) ++ xs.drop ((k + 1) * 3) := by
    rw [← hF1, setAll_eq _ _ _ (by rw [hnew, hF]; omega), ← List.append_assoc, List.take_append_of_le_length (by rw [List.length_append, List.length_take, hnew, hF]; omega), List.take_of_length_le (by rw [List.length_append, List.length_take, hnew, hF]; omega)]
    rw [← hFt, List.take_take, Nat.min_eq_left (by omega)]
  rw [hF1] at ho1
  obtain ⟨hcF1, hfF1⟩ := own_thereG ho1
  have hclr := fun ty c => clearT_run W1 ty g ((n - 1) * 3) c (fun j hj => by rw [hcF1 ((n - 1) * 3 + j) _ (List.getElem?_eq_getElem (by omega))]; rfl) (fun j _ => hfF1 _)
  have FIN : Hid ((W1.setCells g ((n - 1) * 3) [.int .i64 0, .int .i64 0, .slice none 0 0]).ownsRow base 135 3 (.slice (some ⟨g, 0, none⟩) (n - 1) cap) (n - 1) (xs.take (k * 3) ++ xs.drop ((k + 1) * 3)) ∧ w.grownBy (W1.setCells g ((n - 1) * 3) [.int .i64 0, .int .i64 0, .slice none 0 0]) (some g)) := by
    have q1 := own_setCells [.int .i64 0, .int .i64 0, .slice none 0 0] F1 ((n - 1) * 3) W1 ho1
    have q2 := grown_setCells' W1 g ((n - 1) * 3) [.int .i64 0, .int .i64 0, .slice none 0 0]
    refine ⟨?_, ⟨q2.os.trans hg1.os, q2.tape.trans hg1.tape, q2.output.trans hg1.output, Nat.le_trans hg1.size q2.size, fun i hi hne => (q2.block i (Nat.lt_of_lt_of_le hi hg1.size) hne).trans (hg1.block i hi hne)⟩⟩
    have := own_short (n' := n - 1) q1.1 (by omega)
    rw [setAll_eq _ _ _ (by simp only [List.length_cons, List.length_nil]; omega), List.take_append_of_le_length (by rw [List.length_take]; omega), List.take_take, Nat.min_self, hF1t] at this
    exact this
  have hc63 : cap ≤ 9223372036854775807 := by unfold maxLen at hcm; omega
  have hk1 : (k : Int) + 1 ≤ (n : Int) := by omega
  have hk2 : (n : Int) ≤ (cap : Int) := by omega
  have hk3 : ¬ ((k : Int) = (k : Int) + 1) := by omega
  have hk3' : ((k : Int) == (k : Int) + 1) = false := by simp; omega
  have hk4 : ((k : Int) + 1).toNat = k + 1 := by omega
  have hk5 : (k : Int) ≤ (k : Int) + 1 := by omega
  have hk6 : (0 : Int) ≤ (k : Int) + 1 := by omega
  have hk7 : ¬ (cap = k) := by omega
  have hk8 : (k : Int) ≤ (cap : Int) := by omega
  have hk9 : ¬ (cap = n - 1) := by omega
  have hk10 : ¬ (n = k) := by omega
  have hk11 : n - 1 ≤ n := by omega
  have hk12 : ((n - 1 : Nat) : Int) ≤ (n : Int) := by omega
  have hk13 : n - (n - 1) = 1 := by omega
  have HN1 : k + (n - (k + 1)) = n - 1 := by omega
  have HH1 := hide h1
  have HNEW := hide hnew
  clear h hcF hfF hFt hF hfull hfulld hF1 hF1l hF1t ho1 hg1 hcF1 hfF1
  by_cases hkc : cap = k + 1
  · have hkn : n = k + 1 := by omega
    have HDR : Hid (xs.drop ((k + 1) * 3) = []) := hide (List.drop_of_length_le (by omega))
    have hW1' : W1 = w.drew := by rw [hW1, HDR.out]; rfl
    subst hkc hkn
    have HSP : Hid (∀ j, j < ([] : List Value).length → (w.drew.cell? ⟨g, 0 + k * 3 + j, none⟩).isSome = true ∧ w.drew.frozen? ⟨g, 0 + k * 3 + j, none⟩ = false) := hide (fun j hj => by simp at hj)
    clear hcx hsp hW1
    subst hW1'
    simp only [Nat.add_sub_cancel] at hclr FIN
    have hclr2 : ∀ ty c, (Builtin.clear_ #[133] ty #[.slice (some ⟨g, k * 3, none⟩) 1 c]).run Try.prog (w.drew.setCells g (k * 3) []) = .ok (.tuple #[]) (w.drew.setCells g (k * 3) [.int .i64 0, .int .i64 0, .slice none 0 0]) := hclr
    go_enter Try.func80, Try.ntmps80
    go_wp2_with fail
    go_region_law (refine step_append_room (by rfl) (.tmp 22) (.tmp 25) 133 (by rfl) 135 ip 3 Try.underlying133 hip hps g 0 k (k + 1) (by rfl) ⟨g, 0, none⟩ 0 0 [] (by rfl) rfl (fun j u hu => by simp at hu) (by simp) (by omega) HSP.out ?_)
    all_goals
      go_wp2_with fail
      go_ret
      exact ⟨g, _, rfl, rfl, FIN.out.1, FIN.out.2⟩
  · have HCELLS : Hid (∀ j u, (xs.drop ((k + 1) * 3))[j]? = some u → w.drew.cell? ((⟨g, (k + 1) * 3, none⟩ : Addr).add j) = some u) := hide (fun j u hu => by
      rw [add_at _ _ rfl]
      rw [List.getElem?_drop] at hu
      exact hcx _ _ hu)
    have HSP : Hid (∀ j, j < (xs.drop ((k + 1) * 3)).length → (w.drew.cell? ⟨g, 0 + k * 3 + j, none⟩).isSome = true ∧ w.drew.frozen? ⟨g, 0 + k * 3 + j, none⟩ = false) := hide (fun j hj => by rw [hnew] at hj; exact hsp _ (by omega))
    have hkc2 : ¬ (k + 1 = cap) := fun e => hkc e.symm
    clear hcx hsp
    go_enter Try.func80, Try.ntmps80
    go_wp2_with fail
    go_region_law (refine step_append_room (by rfl) (.tmp 22) (.tmp 25) 133 (by rfl) 135 ip 3 Try.underlying133 hip hps g 0 k cap (by rfl) ⟨g, (k + 1) * 3, none⟩ (n - (k + 1)) (cap - (k + 1)) (xs.drop ((k + 1) * 3)) (by rfl) HNEW.out HCELLS.out (fun u hu => HH1.out u (List.mem_of_mem_drop hu)) (by omega) HSP.out ?_)
    all_goals
      rw [← hW1]
      clear hW1
      go_wp2_with fail
      go_ret
      exact ⟨g, _, rfl, rfl, FIN.out.1, FIN.out.2⟩
end Go.Proofs.Ytfjbdbdjhkmifaa
