/- slices.Insert at an own row of strings. -/
import Derived.Test.YtfjbdbdjhkmifaaPtG
set_option linter.unusedVariables false
set_option linter.unusedSimpArgs false
namespace Go.Proofs.Ytfjbdbdjhkmifaa
open Go.RowKit Go.Pw
/-- the lists agree -/
theorem shift_eq (F : List Value) (l vs : List ByteArray) (i cap : Nat) (hF : F.length = cap) (ht : F.take l.length = l.map Value.string) (hi : i ≤ l.length) (hr : l.length + vs.length ≤ cap) :
    (setAll (setAll F (i + vs.length) ((l.drop i).map Value.string)) i (vs.map Value.string)).take (l.length + vs.length) = (l.take i ++ (vs ++ l.drop i)).map Value.string := by
  have ht' : F.take i = (l.take i).map Value.string := by
    have := congrArg (List.take i) ht
    rw [List.take_take, Nat.min_eq_left hi] at this
    rw [this, List.map_take]
  have e1 : setAll F (i + vs.length) ((l.drop i).map Value.string) = F.take (i + vs.length) ++ ((l.drop i).map Value.string ++ F.drop (i + vs.length + (l.length - i))) := by
    rw [setAll_eq _ _ _ (by rw [List.length_map, List.length_drop]; omega), List.length_map, List.length_drop]
  have hl1 : (F.take (i + vs.length)).length = i + vs.length := by rw [List.length_take]; omega
  rw [setAll_eq _ _ i (by rw [setAll_length, List.length_map]; omega), e1, List.length_map]
  have q1 : ∀ R : List Value, (F.take (i + vs.length) ++ R).take i = F.take i := fun R => by rw [List.take_append_of_le_length (by omega), List.take_take, Nat.min_eq_left (by omega)]
  have q2 : ∀ R : List Value, (F.take (i + vs.length) ++ R).drop (i + vs.length) = R := fun R => by rw [List.drop_append_of_le_length (by omega), List.drop_of_length_le (Nat.le_of_eq hl1), List.nil_append]
  rw [q1, q2, ht']
  have hl2 : ((l.take i).map Value.string ++ (vs.map Value.string ++ (l.drop i).map Value.string)).length = l.length + vs.length := by simp; omega
  rw [← List.append_assoc (vs.map Value.string), ← List.append_assoc, List.take_append_of_le_length (by omega), List.take_of_length_le (by omega)]
  simp
set_option maxHeartbeats 4000000 in
set_option maxRecDepth 100000 in
theorem insert_any (A : Option Addr) (cap : Nat) (l : List ByteArray) (i : Nat) (vv : Value) (vs : List ByteArray) (base : Nat) (w : World) (h : w.ownsRow base 9 1 (.slice A l.length cap) l.length (l.map Value.string)) (hv : Strs w vv vs)
    (hd : 0 < vs.length → ∀ g, vv.ownBlock = some g → (Value.slice A l.length cap).ownBlock ≠ some g) (hi : i ≤ l.length) (hl : l.length ≤ 100000000) (hm : vs.length ≤ 100000000) (hb : base ≤ w.heap.size) (hsz : ∀ x ∈ l, x.size ≤ maxLen) :
    Calls Try.prog 89 #[.slice A l.length cap, .int .i64 (i : Int), vv] w fun e w' => ∃ v', e = .returned v' ∧ w'.ownsRow base 9 1 v' (l.take i ++ (vs ++ l.drop i)).length ((l.take i ++ (vs ++ l.drop i)).map Value.string) ∧ w.grownBy w' (Value.slice A l.length cap).ownBlock := by
  have HV := hide hv
  obtain ⟨⟨_, B, cb, rfl, hcb, hmb, hxb⟩, hsv⟩ := hv
  have HX := hide hxb
  clear hxb
  have hlc : l.length ≤ cap ∧ cap ≤ maxLen := by
    obtain ⟨_, ⟨e, _⟩ | ⟨g, c, cur, e, hg, hh, hn, hmx, _⟩⟩ := h
    · injection e with _ e2 e3; exact ⟨by omega, by rw [e3]; exact Nat.zero_le _⟩
    · injection e with _ _ e3; subst e3; exact ⟨hn, hmx⟩
  obtain ⟨hlc, hcm⟩ := hlc
  unfold maxLen at hcm
  obtain ⟨vk, hvk, _⟩ := cut_from (own_strs h hsz) (k := i) hi
  by_cases h0 : vs.length = 0
  · obtain rfl : vs = [] := List.eq_nil_of_length_eq_zero h0
    have HH := hide h
    clear h
    go_enter Try.func89, Try.ntmps89
    go_wp2_with fail
    all_goals (go_ret; exact ⟨_, rfl, by simpa using HH.out, grown_refl _ _⟩)
  · by_cases hin : i = l.length
    · subst hin
      have HH := hide h
      clear h
      have hne : ¬ ((vs.length : Int) = 0) := by omega
      go_enter Try.func89, Try.ntmps89
      go_wp2_with (at_builtin; refine wpList_app_strs rfl _ _ rfl base _ l rfl HH.out _ vs rfl HV.out (by omega) hb (fun v' w' ho hg => ?_))
      go_wp2_with fail
      go_ret
      exact ⟨v', rfl, by simpa using ho, hg⟩
    · have hlt : i < l.length := by omega
      have hne : ¬ ((vs.length : Int) = 0) := by omega
      have hne2 : ¬ ((i : Int) = (l.length : Int)) := by omega
      obtain ⟨g, cap', e, hg, hgz, _, _, hcl, hfl⟩ := own_cells h (by omega)
      injection e with e1 _ e3
      subst e1 e3
      obtain ⟨vb, vo, rfl, hvb, hvj⟩ := HX.out (by omega)
      have hgv : vb ≠ g := fun e => hd (by omega) vb rfl (by rw [e]; rfl)
      by_cases hroom : l.length + vs.length ≤ cap
      · obtain ⟨F, hF, hFt, _, _, hfull⟩ := own_full h
        have hsh := shift_eq F l vs i cap hF hFt hi hroom
        obtain ⟨_, hcF, _⟩ := own_there hfull
        have hcp1 := fun ty => copyO_run (w := w.drew) (base := base) (F := F) (cap := cap) (g := g) hfull ty (i + vs.length) (l.length + vs.length - (i + vs.length)) (cap - (i + vs.length)) g i (l.length + vs.length - i) (cap - i) ((l.drop i).map Value.string) (by rw [List.length_map, List.length_drop]; simp only [Nat.min_def]; split <;> omega) (by rw [List.length_map, List.length_drop]; omega)
          (fun j v hj => by
            refine hcl (i + j) v ?_
            rw [List.map_drop, List.getElem?_drop] at hj
            exact hj) (fun v hv => by obtain ⟨x, _, rfl⟩ := List.mem_map.1 hv; rfl)
        obtain ⟨W1, hW1⟩ : ∃ W1, W1 = w.drew.setCells g (i + vs.length) ((l.drop i).map Value.string) := ⟨_, rfl⟩
        rw [← hW1] at hcp1
        have hro := (hcp1 0).2.1
        have hgr : w.grownBy W1 (some g) := ⟨(hcp1 0).2.2.os, (hcp1 0).2.2.tape, (hcp1 0).2.2.output, (hcp1 0).2.2.size, (hcp1 0).2.2.block⟩
        have hcpA := fun ty => (hcp1 ty).1
        have HV1 : Strs W1 (.slice (some ⟨vb, vo, none⟩) vs.length cb) vs := HV.out.grown hgr (fun g' hg' e => by simp [Value.ownBlock] at hg'; injection e with e; omega)
        have hcpB := fun ty => copyS_run (w := W1) hro ty i (l.length + vs.length - i) (cap - i) (some ⟨vb, vo, none⟩) cb vs HV1 (by omega) (by omega)
        have hov : ∀ lb cb', (callFunc 90 #[.slice (some ⟨vb, vo, none⟩) vs.length cb, .slice (some ⟨g, i + vs.length, none⟩) lb cb']).run Try.prog w = .ok (.value (.bool false)) w := fun lb cb' => by
          obtain ⟨_, ⟨e, _⟩ | ⟨g', c', cur, e, _, hh, _⟩⟩ := h
          · cases e
          · injection e with e1 e2 e3
            injection e1 with e1
            injection e1 with e1
            subst e1
            exact overlaps_any w vb vo vs.length cb g (i + vs.length) lb cb' _ cur _ hgv (hvj 0 (.string vs[0]) (by simp)) hh
        have hd' : ¬ ((cap : Int) < (l.length : Int) + (vs.length : Int)) := by omega
        have hw1 : IntKind.i64.wrap ((i : Int) + (vs.length : Int)) = (i : Int) + (vs.length : Int) := by rw [IntKind.wrap_i64]; omega
        have hb1 : (0 : Int) ≤ (i : Int) + (vs.length : Int) := by omega
        have hin' : i ≤ l.length := by omega
        have htn : ((i : Int) + (vs.length : Int)).toNat = i + vs.length := by omega
        have hb2 : ¬ (cap = i + vs.length) := by omega
        have hb3 : (i : Int) ≤ (l.length : Int) + (vs.length : Int) := by omega
        have hb4 : ¬ (cap = i) := by omega
        clear hW1 hfl hcl hcF hvj HX hcp1 hvb
        have hmx : Try.prog.follows .mixedOrders = true := by kernel_rfl
        go_enter Try.func89, Try.ntmps89
        go_wp2_with (simp only [hov])
        go_region_law_o (refine step_copy_runI rfl _ _ 22 22 rfl _ _ (by simp [Act.eval, Act.put]) (by simp [Act.eval, Act.put]) (hcpA _) ?_)
        go_wp2_with (at_builtin; refine wpList_copy_runI W1 rfl _ _ 22 22 rfl _ _ rfl rfl (hcpB _).1 ?_)
        go_ret
        refine ⟨_, rfl, ?_, ?_⟩
        · have := own_short (n' := l.length + vs.length) (hcpB 0).2.1 hroom
          rw [Nat.mul_one, hsh] at this
          have e : (l.take i ++ (vs ++ l.drop i)).length = l.length + vs.length := by simp; omega
          rw [e]
          exact this
        · exact grown_trans hgr (hcpB 0).2.2
      · have hgw := hgz
        obtain ⟨C, W1, W2, W3, hC, hap, hc1, hc2, how, hgr⟩ := regrow l vs i i (some ⟨vb, vo, none⟩) cb h HV.out (Nat.le_refl _) hi (by omega) hl hm hb hgw
        have hsum : i + vs.length + (l.length - i) = l.length + vs.length := by omega
        rw [hsum] at hC hap how
        have hd' : (cap : Int) < (l.length : Int) + (vs.length : Int) := by omega
        have hw1 : IntKind.i64.wrap ((i : Int) + (vs.length : Int)) = (i : Int) + (vs.length : Int) := by rw [IntKind.wrap_i64]; omega
        have hb1 : (0 : Int) ≤ (i : Int) + (vs.length : Int) := by omega
        have hin' : i ≤ l.length := by omega
        have htn : ((i : Int) + (vs.length : Int)).toNat = i + vs.length := by omega
        have hb2 : ¬ (C = i + vs.length) := by omega
        have hb3 : (i : Int) + (vs.length : Int) ≤ (l.length : Int) + (vs.length : Int) := by omega
        have hb4 : ¬ (C = i) := by omega
        have hb5 : ¬ (cap = i) := by omega
        have HAP := hide hap
        have hc1' := fun ty => hc1 ty (l.length + vs.length - i) (C - i) (by omega)
        have hc2' := fun ty => hc2 ty (l.length + vs.length - (i + vs.length)) (C - (i + vs.length)) (cap - i) (by omega)
        clear hfl hcl hvj HX hvb hap hc1 hc2 hvk
        have hmx : Try.prog.follows .mixedOrders = true := by kernel_rfl
        go_enter Try.func89, Try.ntmps89
        go_wp2_with (at_builtin; refine Lib.wpList_append_run w rfl _ _ 22 3 rfl _ _ rfl rfl _ W1 (HAP.out _ _ (by omega)) ?_)
        go_region_law_o (refine step_copy_runI rfl _ _ 22 22 rfl _ _ (by simp [Act.eval, Act.put]) (by simp [Act.eval, Act.put]) (hc2' _) ?_)
        go_wp2_with fail
        go_ret
        refine ⟨_, rfl, ?_, ?_⟩
        · have e : (l.take i ++ (vs ++ l.drop i)).length = l.length + vs.length := by simp; omega
          rw [e]
          exact how
        · exact ⟨hgr.os, hgr.tape, hgr.output, hgr.size, fun k hk _ => hgr.block k hk (by simp)⟩
end Go.Proofs.Ytfjbdbdjhkmifaa
