import Derived.Test.YtafgncledbddiaaTurn
set_option linter.unusedSimpArgs false
set_option linter.unusedVariables false
namespace Go.Proofs.Ytafgncledbddiaa
open Go.RowKit Go.Pw

theorem rest_some {l : List ByteArray} {to : Bool} {h : Hk} {s : WS} (h0 : restErr (some l) to h s = 0) :
    h.frm + h.old.length ≤ (l.length : Int) ∧ (l.drop h.frm.toNat).take h.old.length = h.old ∧ (to = true → h.to_ = h.frm + s.del) := by
  simp only [restErr] at h0
  split at h0
  · cases h0
  · rename_i h1
    split at h0
    · cases h0
    · rename_i h2
      split at h0
      · cases h0
      · rename_i h3
        refine ⟨by omega, by simpa using h2, fun ht => ?_⟩
        by_cases e : h.to_ = h.frm + s.del
        · exact e
        · exact absurd ⟨ht, e⟩ h3
theorem good_of {a : List ByteArray} {to : Bool} : ∀ {hs : List Hk} {s s' : WS}, hRun (some a) to hs s = .inr s' → 0 ≤ s.fin → s.fin ≤ (a.length : Int) → Good a hs s.fin.toNat
  | [], s, s', _, h1, h2 => by show s.fin.toNat ≤ a.length; omega
  | h :: hs, s, s', hr, h1, h2 => by
    obtain ⟨h0, hn⟩ := run_cons hr
    obtain ⟨hf, hrs⟩ := step_zero h0
    obtain ⟨_, hle⟩ := form_zero hf
    obtain ⟨hb, _, _⟩ := rest_some hrs
    have ih := good_of hn (by simp [WS.next]; omega) (by simp [WS.next]; omega)
    refine ⟨h.frm.toNat, by omega, by omega, by omega, ?_⟩
    have e : (s.next h).fin.toNat = h.frm.toNat + h.old.length := by simp [WS.next]; omega
    rw [e] at ih
    exact ih
theorem applied_length {a : List ByteArray} {to : Bool} : ∀ {hs : List Hk} {s s' : WS}, hRun (some a) to hs s = .inr s' → 0 ≤ s.fin → s.fin ≤ (a.length : Int) → ((applied a hs s.fin.toNat).length : Int) = a.length - s.fin + (s'.del - s.del)
  | [], s, s', hr, h1, h2 => by
    simp only [hRun, Sum.inr.injEq] at hr
    subst hr
    simp [applied]; omega
  | h :: hs, s, s', hr, h1, h2 => by
    obtain ⟨h0, hn⟩ := run_cons hr
    obtain ⟨hf, hrs⟩ := step_zero h0
    obtain ⟨_, hle⟩ := form_zero hf
    obtain ⟨hb, _, _⟩ := rest_some hrs
    have ih := applied_length hn (by simp [WS.next]; omega) (by simp [WS.next]; omega)
    have e : (s.next h).fin.toNat = h.frm.toNat + h.old.length := by simp [WS.next]; omega
    rw [e] at ih
    rw [applied, List.length_append, List.length_append, List.length_take, List.length_drop]
    simp only [WS.next] at ih
    omega
theorem some_zero {a : List ByteArray} {to : Bool} {hs : List Hk} (h : hunkErr (some a) to hs = 0) : ∃ s, hRun (some a) to hs ⟨0, 0⟩ = .inr s ∧ (a.length : Int) + s.del ≤ 1000 := by
  unfold hunkErr at h
  rw [if_neg (fun h => by cases h.1)] at h
  obtain ⟨s, hs'⟩ := run_inr h
  rw [hs'] at h
  refine ⟨s, hs', ?_⟩
  simp only [hOut] at h
  split at h
  · cases h
  · omega
theorem some_good {a : List ByteArray} {to : Bool} {hs : List Hk} (h : hunkErr (some a) to hs = 0) : Good a hs 0 ∧ (applied a hs 0).length ≤ 1000 := by
  obtain ⟨s, hr, hl⟩ := some_zero h
  have h1 := good_of hr (by simp) (by simp)
  have h2 := applied_length hr (by simp) (by simp)
  simp at h1 h2
  exact ⟨h1, by omega⟩

theorem lists_swap {x y : List ByteArray} (h : listsErr [x, y] = 0) : listsErr [y, x] = 0 := by
  have h1 := fnz_zero h
  have hx : listErr x = 0 := h1 _ (by simp)
  have hy : listErr y = 0 := h1 _ (by simp)
  simp [listsErr, firstNZ, hx, hy]
theorem form_parts {h : Hk} {fin : Int} (h0 : formErr h fin = 0) : listsErr [h.old, h.new] = 0 ∧ ¬ h.old.length + h.new.length = 0 ∧ fin ≤ h.frm := by
  obtain ⟨h1, h2⟩ := form_zero h0
  refine ⟨h1, fun e => ?_, h2⟩
  unfold formErr at h0
  rw [h1, if_neg (by simp), if_pos e] at h0
  cases h0
theorem form_mk {h : Hk} {fin : Int} (h1 : listsErr [h.old, h.new] = 0) (h2 : ¬ h.old.length + h.new.length = 0) (h3 : fin ≤ h.frm) : formErr h fin = 0 := by
  unfold formErr
  rw [h1, if_neg (by simp), if_neg h2, if_neg (by omega)]
theorem rest_mk {l : List ByteArray} {to : Bool} {h : Hk} {s : WS} (h1 : h.frm + h.old.length ≤ (l.length : Int)) (h2 : (l.drop h.frm.toNat).take h.old.length = h.old) (h3 : h.to_ = h.frm + s.del) : restErr (some l) to h s = 0 := by
  simp only [restErr]
  rw [if_neg (by omega), if_neg (fun e => e h2), if_neg (fun e => e.2 h3)]
/-- turned hunks lead back -/
theorem back_run {a b : List ByteArray} : ∀ {hs : List Hk} {s s' : WS} {pre : List ByteArray}, hRun (some a) true hs s = .inr s' → 0 ≤ s.fin → s.fin ≤ (a.length : Int) → (pre.length : Int) = s.fin + s.del → b = pre ++ applied a hs s.fin.toNat →
    (∃ f, hRun (some b) true (hs.map turnHk) ⟨(pre.length : Int), -s.del⟩ = .inr ⟨f, -s'.del⟩) ∧ applied b (hs.map turnHk) pre.length = a.drop s.fin.toNat
  | [], s, s', pre, hr, h1, h2, h3, hb => by
    simp only [hRun, Sum.inr.injEq] at hr
    subst hr
    refine ⟨⟨_, rfl⟩, ?_⟩
    rw [hb]
    simp [applied]
  | h :: hs, s, s', pre, hr, h1, h2, h3, hb => by
    obtain ⟨h0, hn⟩ := run_cons hr
    obtain ⟨hf, hrs⟩ := step_zero h0
    obtain ⟨hle0, hne, hle⟩ := form_parts hf
    obtain ⟨hbd, heq, hto⟩ := rest_some hrs
    have hto' := hto rfl
    obtain ⟨f, hff⟩ : ∃ f : Nat, h.frm = (f : Int) := ⟨h.frm.toNat, by omega⟩
    obtain ⟨p, hpp⟩ : ∃ p : Nat, s.fin = (p : Int) := ⟨s.fin.toNat, by omega⟩
    have hfn : h.frm.toNat = f := by omega
    have hpn : s.fin.toNat = p := by omega
    rw [hpn] at hb ⊢
    rw [hfn] at heq
    rw [applied, hfn] at hb
    have hnx : (s.next h).fin.toNat = f + h.old.length := by simp only [WS.next]; omega
    have htl : ((a.drop p).take (f - p)).length = f - p := by rw [List.length_take, List.length_drop]; omega
    have hpre : ((pre ++ (a.drop p).take (f - p) ++ h.new).length : Int) = (s.next h).fin + (s.next h).del := by
      rw [List.length_append, List.length_append, htl]; simp only [WS.next]; omega
    have hbb : b = (pre ++ (a.drop p).take (f - p) ++ h.new) ++ applied a hs (s.next h).fin.toNat := by rw [hb, hnx]; simp
    obtain ⟨⟨g, ih1⟩, ih2⟩ := back_run hn (by simp only [WS.next]; omega) (by simp only [WS.next]; omega) hpre hbb
    have hq : (turnHk h).frm.toNat = pre.length + (f - p) := by
      show h.to_.toNat = _
      omega
    have hstep : hStep (some b) true (turnHk h) ⟨(pre.length : Int), -s.del⟩ = 0 := by
      refine step_rest (form_mk (lists_swap hle0) (by show ¬ h.new.length + h.old.length = 0; omega) (by show (pre.length : Int) ≤ h.to_; omega)) (rest_mk ?_ ?_ ?_)
      · show h.to_ + (h.new.length : Int) ≤ _
        rw [hb]
        simp only [List.length_append, htl]
        omega
      · rw [hq]
        show (b.drop (pre.length + (f - p))).take h.new.length = h.new
        rw [hbb]
        have e : pre.length + (f - p) = (pre ++ (a.drop p).take (f - p)).length := by rw [List.length_append, htl]
        rw [e, List.append_assoc (pre ++ (a.drop p).take (f - p)), List.drop_left, List.take_left]
      · show h.frm = h.to_ + -s.del
        omega
    have hnext : WS.next ⟨(pre.length : Int), -s.del⟩ (turnHk h) = ⟨((pre ++ (a.drop p).take (f - p) ++ h.new).length : Int), -(s.next h).del⟩ := by
      unfold WS.next
      congr 1
      · show h.to_ + (h.new.length : Int) = _
        rw [hpre]; simp only [WS.next]; omega
      · show -s.del + ((h.old.length : Int) - (h.new.length : Int)) = -(s.del + ((h.new.length : Int) - (h.old.length : Int)))
        omega
    refine ⟨⟨g, ?_⟩, ?_⟩
    · rw [List.map_cons, hRun, if_pos hstep, hnext]
      exact ih1
    · rw [List.map_cons, applied, hq]
      have e1 : pre.length + (f - p) - pre.length = f - p := by omega
      have e2 : pre.length + (f - p) + (turnHk h).old.length = (pre ++ (a.drop p).take (f - p) ++ h.new).length := by
        show pre.length + (f - p) + h.new.length = _
        rw [List.length_append, List.length_append, htl]
      rw [e1, e2, ih2, hnx]
      have e3 : (b.drop pre.length).take (f - p) = (a.drop p).take (f - p) := by
        rw [hb, List.append_assoc]
        rw [List.drop_left]
        rw [List.take_append_of_le_length (by rw [htl]; exact Nat.le_refl _), List.take_take, Nat.min_self]
      rw [e3]
      show (a.drop p).take (f - p) ++ h.old ++ a.drop (f + h.old.length) = a.drop p
      have e6 : h.old ++ a.drop (f + h.old.length) = a.drop f := by
        have := List.take_append_drop h.old.length (a.drop f)
        rw [heq, List.drop_drop] at this
        exact this
      rw [List.append_assoc, e6]
      have e7 : a.drop f = (a.drop p).drop (f - p) := by rw [List.drop_drop]; congr 1; omega
      rw [e7]; exact List.take_append_drop _ _

theorem fnz_all {l : List Int} (h : ∀ x ∈ l, x = 0) : firstNZ l = 0 := by
  induction l with
  | nil => rfl
  | cons x l ih => simp [firstNZ, h x (by simp), ih fun y hy => h y (by simp [hy])]
theorem applied_mem {a : List ByteArray} : ∀ {hs : List Hk} {p : Nat} {s : ByteArray}, s ∈ applied a hs p → s ∈ a ∨ ∃ h ∈ hs, s ∈ h.new
  | [], p, s, h => .inl (List.mem_of_mem_drop h)
  | g :: hs, p, s, h => by
    rw [applied] at h
    rcases List.mem_append.1 h with h | h
    · rcases List.mem_append.1 h with h | h
      · exact .inl (List.mem_of_mem_drop (List.mem_of_mem_take h))
      · exact .inr ⟨g, by simp, h⟩
    · rcases applied_mem h with h | ⟨x, hx, h⟩
      · exact .inl h
      · exact .inr ⟨x, by simp [hx], h⟩
theorem listErr_parts {l : List ByteArray} (h : listErr l = 0) : l.length ≤ 1000 ∧ ∀ s ∈ l, lineErr s = 0 := by
  unfold listErr at h
  split at h
  · cases h
  · exact ⟨by omega, fun s hs => fnz_zero h _ (List.mem_map_of_mem hs)⟩
theorem listErr_mk {l : List ByteArray} (h1 : l.length ≤ 1000) (h2 : ∀ s ∈ l, lineErr s = 0) : listErr l = 0 := by
  unfold listErr
  rw [if_neg (by omega)]
  exact fnz_all fun x hx => by obtain ⟨s, hs, rfl⟩ := List.mem_map.1 hx; exact h2 s hs
/-- what turned hunks are for the list that the hunks have made -/
theorem back_all {a : List ByteArray} {hs : List Hk} (ha : listErr a = 0) (h : hunkErr (some a) true hs = 0) :
    listErr (applied a hs 0) = 0 ∧ hunkErr (some (applied a hs 0)) true (hs.map turnHk) = 0 ∧ applied (applied a hs 0) (hs.map turnHk) 0 = a := by
  obtain ⟨s, hr, hl⟩ := some_zero h
  have hlen := applied_length hr (by simp) (by simp)
  simp at hlen
  obtain ⟨hal, hali⟩ := listErr_parts ha
  obtain ⟨⟨f, h1⟩, h2⟩ := back_run (b := applied a hs 0) (pre := []) hr (by simp) (by simp) (by simp) (by simp)
  simp at h1 h2
  refine ⟨listErr_mk (by omega) fun x hx => ?_, ?_, h2⟩
  · rcases applied_mem hx with hx | ⟨g, hg, hx⟩
    · exact hali x hx
    · have h3 := run_lists hr g hg
      have h4 : listErr g.new = 0 := fnz_zero h3 _ (by simp)
      exact (listErr_parts h4).2 x hx
  · unfold hunkErr
    rw [if_neg (fun h => by cases h.1)]
    have h1' : hRun (some (applied a hs 0)) true (hs.map turnHk) ⟨0, 0⟩ = .inr ⟨f, -s.del⟩ := by simpa using h1
    rw [h1']
    simp only [hOut]
    rw [if_neg (by omega)]
end Go.Proofs.Ytafgncledbddiaa
