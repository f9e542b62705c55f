import Derived.Test.YtafgncledbddiaaApplied
import Derived.Test.YtafgncledbddiaaDiff
set_option linter.unusedSimpArgs false
set_option linter.unusedVariables false
namespace Go.Proofs.Ytafgncledbddiaa
open Go.RowKit Go.Pw

def turnHk (h : Hk) : Hk := ⟨h.to_, h.frm, h.new, h.old⟩
theorem run_inr {a : Option (List ByteArray)} {to : Bool} : ∀ {hs : List Hk} {s : WS}, hOut a (hRun a to hs s) = 0 → ∃ s', hRun a to hs s = .inr s'
  | [], s, _ => ⟨s, rfl⟩
  | h :: hs, s, h0 => by
    rw [hRun] at h0 ⊢
    by_cases hz : hStep a to h s = 0
    · rw [if_pos hz] at h0 ⊢; exact run_inr h0
    · rw [if_neg hz] at h0; exact absurd h0 hz
theorem run_cons {a : Option (List ByteArray)} {to : Bool} {h : Hk} {hs : List Hk} {s s' : WS} (hr : hRun a to (h :: hs) s = .inr s') : hStep a to h s = 0 ∧ hRun a to hs (s.next h) = .inr s' := by
  rw [hRun] at hr
  by_cases hz : hStep a to h s = 0
  · rw [if_pos hz] at hr; exact ⟨hz, hr⟩
  · rw [if_neg hz] at hr; cases hr
theorem step_zero {a : Option (List ByteArray)} {to : Bool} {h : Hk} {s : WS} (h0 : hStep a to h s = 0) : formErr h s.fin = 0 ∧ restErr a to h s = 0 := by
  unfold hStep at h0
  by_cases hf : formErr h s.fin = 0
  · rw [hf] at h0; simp at h0; exact ⟨hf, h0⟩
  · rw [if_pos hf] at h0; exact absurd h0 hf
theorem run_lists {a : Option (List ByteArray)} {to : Bool} : ∀ {hs : List Hk} {s s' : WS}, hRun a to hs s = .inr s' → ∀ h ∈ hs, listsErr [h.old, h.new] = 0
  | [], _, _, _, h, hh => by cases hh
  | g :: hs, s, s', hr, h, hh => by
    obtain ⟨h0, h1⟩ := run_cons hr
    rcases List.mem_cons.1 hh with e | e
    · subst e; exact (form_zero (step_zero h0).1).1
    · exact run_lists h1 h e
theorem none_zero {to : Bool} {hs : List Hk} (h : hunkErr none to hs = 0) : hs.length ≤ 1000 ∧ ∃ s, hRun none to hs ⟨0, 0⟩ = .inr s := by
  unfold hunkErr at h
  by_cases hl : 1000 < hs.length
  · rw [if_pos ⟨rfl, hl⟩] at h; cases h
  · rw [if_neg (fun h => hl h.2)] at h
    exact ⟨by omega, run_inr h⟩

/-- one turned hunk more, appended -/
theorem turn_push {wr0 w1 w2 w3 : World} {base gg cap : Nat} {ov vN vO : Value} {acc : List Hk} {us : List (Value × Value)} {h : Hk} {ob : Obj} (hel : HunkElems wr0 0 ov acc us) (hok' : ∀ h ∈ acc, h.ok) (hus : us.length = acc.length)
    (ownlt : ∀ k, ov.ownBlock = some k → k < wr0.heap.size) (hokk : h.ok) (sN : Strs w2 vN h.new) (sO : Strs w2 vO h.old)
    (gN : ∀ g, vN.ownBlock = some g → wr0.heap.size ≤ g ∧ g < w2.heap.size) (gO : ∀ g, vO.ownBlock = some g → wr0.heap.size ≤ g ∧ g < w2.heap.size) (hb1 : Below wr0.heap.size wr0 w1) (hb2 : Below w1.heap.size w1 w2)
    (hown3 : w3.ownsRow base 57 4 (.slice (some ⟨gg, 0, none⟩) (acc.length + 1) cap) (acc.length + 1) (hkCells acc us ++ [.int .i64 h.to_, .int .i64 h.frm, vN, vO])) (hgrow : (w2.alloc ob).grownBy w3 ov.ownBlock)
    (hat : ov.ownBlock = some gg ∨ gg = w2.heap.size + 1) : HunksOwn w3 57 base 0 (.slice (some ⟨gg, 0, none⟩) (acc.length + 1) cap) (acc ++ [turnHk h]) := by
  have hb12 : Below wr0.heap.size wr0 w2 := hb1.trans (hb2.mono hb1.size)
  have hba : Below wr0.heap.size wr0 (w2.alloc ob) := hb12.alloc hb12.size _
  have hsz : (w2.alloc ob).heap.size = w2.heap.size + 1 := by simp
  have key : ∀ (l : List ByteArray) (x : Value), Strs w2 x l → (∀ g, x.ownBlock = some g → wr0.heap.size ≤ g ∧ g < w2.heap.size) → Strs (w2.alloc ob) x l ∧ Sits (w2.alloc ob) 0 x ov := by
    intro l x hx hg
    refine ⟨hx.alloc _, fun g e => ⟨Nat.zero_le _, by have := (hg g e).2; omega, fun e2 => ?_⟩⟩
    have h1 := ownlt g e2
    have h2 := (hg g e).1
    omega
  refine HunksOwn.push (h := turnHk h) (vs := us) hok' ⟨hokk.2, hokk.1⟩ (key _ _ sN gN).1 (key _ _ sO gO).1 (key _ _ sN gN).2 (key _ _ sO gO).2 hus ?_ hown3 hgrow ?_
  · intro i h' o n e1 e2
    obtain ⟨⟨a1, a2⟩, b1, b2⟩ := hel i h' o n e1 e2
    exact ⟨⟨a1.below hba, a2.more hba.size⟩, b1.below hba, b2.more hba.size⟩
  · rcases hat with e | e
    · left; rw [e]; rfl
    · right; rw [hsz, e]; rfl

set_option maxHeartbeats 4000000 in
set_option maxRecDepth 100000 in
theorem Turn_good (v : Value) (hs : List Hk) (w : World) (h : Hunks w v hs) (h0 : hunkErr none true hs = 0) :
    Calls Try.prog 30 #[v] w fun e w' => ∃ v', e = .returned (.tuple #[v', .int .i64 0]) ∧ Hunks w' v' (hs.map turnHk) ∧ Below w.heap.size w w' := by
  have HH := hide h
  obtain ⟨hl1, s0, hr0⟩ := none_zero h0
  have HL := hide (run_lists hr0)
  have H0 := hide h0
  clear h0 hr0
  obtain ⟨vs, hvs, ⟨_, A, ca, rfl, hca, hma, hxa⟩, hok, hel⟩ := h
  unfold maxLen at hma
  have HVS := hide hvs
  have HXA := hide hxa
  have HE := hide hel
  have HOK := hide hok
  clear hvs hxa hel hok
  obtain ⟨ip, hip, hpz, hps, hpb⟩ := info_parts info_hunk
  by_cases hl2 : False
  · exact hl2.elim
  · clear hl2
    go_enter Try.func30, Try.ntmps30
    go_wp2_with fail
    refine (turnable_any _ hs true _ HH.out).mono ?_
    rintro e wt ⟨rfl, hbt⟩
    rw [H0.out]
    go_wp2_with fail
    go_loopw [5, 15] (fun ov i wr => ∃ k : Nat, k ≤ hs.length ∧ i = .int .i64 (k : Int) ∧ HunksOwn wr 57 w.heap.size 0 ov ((hs.take k).map turnHk) ∧ Below w.heap.size w wr) (fun _ i _ => hs.length - (intOf i).toNat)
    case atStart => exact ⟨0, by omega, rfl, HunksOwn.nil _ _ _ _, hbt⟩
    case round =>
      obtain ⟨k, hk, rfl, hho, hbw⟩ := hrel
      by_cases hlt : k < hs.length
      · obtain ⟨ba, oa, rfl, hba, hja⟩ := HXA.out (by omega)
        have kv : k < vs.length := by rw [HVS.out]; exact hlt
        have cs := hkCells_at hs vs k hs[k] vs[k] (List.getElem?_eq_getElem hlt) (List.getElem?_eq_getElem kv) HVS.out
        rw [Nat.mul_comm] at cs
        have a0 := (hbw.cell hba).trans (hja _ _ cs.1)
        have a1 := (hbw.cell hba).trans (hja _ _ cs.2.1)
        have a2 := (hbw.cell hba).trans (hja _ _ cs.2.2.1)
        have a3 := (hbw.cell hba).trans (hja _ _ cs.2.2.2)
        clear cs hja
        simp only [← Nat.add_assoc] at a0 a1 a2 a3
        have s1 := HE.out k hs[k] vs[k].1 vs[k].2 (List.getElem?_eq_getElem hlt) (List.getElem?_eq_getElem kv)
        have hokk := HOK.out _ (List.getElem_mem hlt)
        have lza : ba < wr.heap.size := by have := hbw.size; omega
        obtain ⟨A1, n1, c1, e1⟩ := strs_form s1.1
        obtain ⟨A2, n2, c2, e2⟩ := strs_form s1.2
        rw [e1] at a2
        rw [e2] at a3
        rw [e1, e2] at s1
        clear e1 e2 kv
        obtain ⟨t1, t2⟩ := s1
        obtain rfl := t1.len
        obtain rfl := t2.len
        have hlz := HL.out _ (List.getElem_mem hlt)
        have HT : Hid ((hs.take (k + 1)).map turnHk = (hs.take k).map turnHk ++ [turnHk hs[k]]) := by
          show _ = _
          rw [List.take_succ_eq_append_getElem hlt, List.map_append]; rfl
        have hacl : ((hs.take k).map turnHk).length ≤ 1000 := by simp; omega
        obtain ⟨acc, hacc⟩ : ∃ acc, (hs.take k).map turnHk = acc := ⟨_, rfl⟩
        obtain ⟨h, hh⟩ : ∃ h, hs[k] = h := ⟨_, rfl⟩
        rw [hacc] at hho HT hacl
        rw [hh] at a0 a1 a2 a3 t1 t2 hokk hlz HT
        clear hh hacc
        have ll1 := lists_len hlz (l := h.old) (by simp)
        have ll2 := lists_len hlz (l := h.new) (by simp)
        clear hlz
        have T1 := hide t1
        have T2 := hide t2
        clear t1 t2
        obtain ⟨us, hus, hrow, hok', helA⟩ := hho
        have bb1 := (Below.refl wr.heap.size wr).alloc (Nat.le_refl _) (.cells #[.int .i64 h.frm, .int .i64 h.to_, .slice A1 h.old.length c1, .slice A2 h.new.length c2] 57)
        have hbp : Below w.heap.size w (wr.alloc (.cells #[.int .i64 h.frm, .int .i64 h.to_, .slice A1 h.old.length c1, .slice A2 h.new.length c2] 57)) := hbw.trans (bb1.mono hbw.size)
        have hcp : (wr.alloc (.cells #[.int .i64 h.frm, .int .i64 h.to_, .slice A1 h.old.length c1, .slice A2 h.new.length c2] 57)).heap[wr.heap.size]? = some (.cells #[.int .i64 h.frm, .int .i64 h.to_, .slice A1 h.old.length c1, .slice A2 h.new.length c2] 57 (0, 0)) := heap_alloc_new _ _
        have hlt2 : wr.heap.size < (wr.alloc (.cells #[.int .i64 h.frm, .int .i64 h.to_, .slice A1 h.old.length c1, .slice A2 h.new.length c2] 57)).heap.size := by simp
        have ownp := hrow.alloc (.cells #[.int .i64 h.frm, .int .i64 h.to_, .slice A1 h.old.length c1, .slice A2 h.new.length c2] 57)
        have ownlt0 := own_lt hrow
        have ownlt : ∀ k, u5.ownBlock = some k → k < (wr.alloc (.cells #[.int .i64 h.frm, .int .i64 h.to_, .slice A1 h.old.length c1, .slice A2 h.new.length c2] 57)).heap.size := fun k e => Nat.lt_trans (ownlt0 k e) hlt2
        have ownne : u5.ownBlock ≠ some wr.heap.size := fun e => Nat.lt_irrefl _ (ownlt0 _ e)
        have ownge := own_ge hrow
        have elp : HunkElems (wr.alloc (.cells #[.int .i64 h.frm, .int .i64 h.to_, .slice A1 h.old.length c1, .slice A2 h.new.length c2] 57)) 0 u5 acc us := fun i h' o n e1 e2 => ⟨⟨(helA i h' o n e1 e2).1.1.below bb1, (helA i h' o n e1 e2).1.2.more bb1.size⟩, (helA i h' o n e1 e2).2.1.below bb1, (helA i h' o n e1 e2).2.2.more bb1.size⟩
        have HELP := hide helA
        clear helA
        go_wp2_with fail
        go_region_held3 (fun w' => w'.cell? ⟨wr.heap.size, 0, none⟩ = some (.int .i64 h.frm) ∧ w'.cell? ⟨wr.heap.size, 1, none⟩ = some (.int .i64 h.to_) ∧ w'.cell? ⟨wr.heap.size, 2, none⟩ = some (.slice A1 h.old.length c1) ∧ w'.cell? ⟨wr.heap.size, 3, none⟩ = some (.slice A2 h.new.length c2)) (go_keep) (first | (go_at_call 72; (with_reducible refine (clone_at (.slice A2 h.new.length c2) h.new _ (Strs.drew (T2.out.below hbp)) (by omega)).mono ?_); rintro e w1 ⟨X1, n1, d1, rfl, hs1, hg1, hb1⟩; have hbq1 : Below (wr.alloc (.cells #[.int .i64 h.frm, .int .i64 h.to_, .slice A1 h.old.length c1, .slice A2 h.new.length c2] 57)).heap.size (wr.alloc (.cells #[.int .i64 h.frm, .int .i64 h.to_, .slice A1 h.old.length c1, .slice A2 h.new.length c2] 57)) w1 := ⟨hb1.os, hb1.tape, hb1.output, hb1.size, hb1.block⟩; have hbw1 : Below w.heap.size w w1 := hbp.trans (hbq1.mono hbp.size); have hcp1 := (hbq1.block wr.heap.size hlt2).trans hcp; have q0 : w1.cell? ⟨wr.heap.size, 0, none⟩ = some (.int .i64 h.frm) := (by rw [Lib.cell_of_heap hcp1]; rfl); have q1 : w1.cell? ⟨wr.heap.size, 1, none⟩ = some (.int .i64 h.to_) := (by rw [Lib.cell_of_heap hcp1]; rfl); have q2 : w1.cell? ⟨wr.heap.size, 2, none⟩ = some (.slice A1 h.old.length c1) := (by rw [Lib.cell_of_heap hcp1]; rfl); have q3 : w1.cell? ⟨wr.heap.size, 3, none⟩ = some (.slice A2 h.new.length c2) := (by rw [Lib.cell_of_heap hcp1]; rfl)) | (go_at_call 72; (with_reducible refine (clone_at (.slice A1 h.old.length c1) h.old _ (Strs.drew (T1.out.below hbp)) (by omega)).mono ?_); rintro e w1 ⟨X1, n1, d1, rfl, hs1, hg1, hb1⟩; have hbq1 : Below (wr.alloc (.cells #[.int .i64 h.frm, .int .i64 h.to_, .slice A1 h.old.length c1, .slice A2 h.new.length c2] 57)).heap.size (wr.alloc (.cells #[.int .i64 h.frm, .int .i64 h.to_, .slice A1 h.old.length c1, .slice A2 h.new.length c2] 57)) w1 := ⟨hb1.os, hb1.tape, hb1.output, hb1.size, hb1.block⟩; have hbw1 : Below w.heap.size w w1 := hbp.trans (hbq1.mono hbp.size); have hcp1 := (hbq1.block wr.heap.size hlt2).trans hcp; have q0 : w1.cell? ⟨wr.heap.size, 0, none⟩ = some (.int .i64 h.frm) := (by rw [Lib.cell_of_heap hcp1]; rfl); have q1 : w1.cell? ⟨wr.heap.size, 1, none⟩ = some (.int .i64 h.to_) := (by rw [Lib.cell_of_heap hcp1]; rfl); have q2 : w1.cell? ⟨wr.heap.size, 2, none⟩ = some (.slice A1 h.old.length c1) := (by rw [Lib.cell_of_heap hcp1]; rfl); have q3 : w1.cell? ⟨wr.heap.size, 3, none⟩ = some (.slice A2 h.new.length c2) := (by rw [Lib.cell_of_heap hcp1]; rfl)) | (go_at_call 72; (with_reducible refine (clone_at (.slice A1 h.old.length c1) h.old _ (T1.out.below hbw1) (by omega)).mono ?_); rintro e w2 ⟨X2, n2, d2, rfl, hs2, hg2, hb2⟩; have hbw2 : Below w.heap.size w w2 := hbw1.trans (hb2.mono hbw1.size); have hlw1 : wr.heap.size < w1.heap.size := Nat.lt_of_lt_of_le hlt2 hbq1.size; have hlw2 : wr.heap.size < w2.heap.size := Nat.lt_of_lt_of_le hlw1 hb2.size; have hcp2 := (hb2.block wr.heap.size hlw1).trans hcp1; have r0 : w2.cell? ⟨wr.heap.size, 0, none⟩ = some (.int .i64 h.frm) := (by rw [Lib.cell_of_heap hcp2]; rfl); have r1 : w2.cell? ⟨wr.heap.size, 1, none⟩ = some (.int .i64 h.to_) := (by rw [Lib.cell_of_heap hcp2]; rfl); have r2 : w2.cell? ⟨wr.heap.size, 2, none⟩ = some (.slice A1 h.old.length c1) := (by rw [Lib.cell_of_heap hcp2]; rfl); have r3 : w2.cell? ⟨wr.heap.size, 3, none⟩ = some (.slice A2 h.new.length c2) := (by rw [Lib.cell_of_heap hcp2]; rfl)) | (go_at_call 72; (with_reducible refine (clone_at (.slice A2 h.new.length c2) h.new _ (T2.out.below hbw1) (by omega)).mono ?_); rintro e w2 ⟨X2, n2, d2, rfl, hs2, hg2, hb2⟩; have hbw2 : Below w.heap.size w w2 := hbw1.trans (hb2.mono hbw1.size); have hlw1 : wr.heap.size < w1.heap.size := Nat.lt_of_lt_of_le hlt2 hbq1.size; have hlw2 : wr.heap.size < w2.heap.size := Nat.lt_of_lt_of_le hlw1 hb2.size; have hcp2 := (hb2.block wr.heap.size hlw1).trans hcp1; have r0 : w2.cell? ⟨wr.heap.size, 0, none⟩ = some (.int .i64 h.frm) := (by rw [Lib.cell_of_heap hcp2]; rfl); have r1 : w2.cell? ⟨wr.heap.size, 1, none⟩ = some (.int .i64 h.to_) := (by rw [Lib.cell_of_heap hcp2]; rfl); have r2 : w2.cell? ⟨wr.heap.size, 2, none⟩ = some (.slice A1 h.old.length c1) := (by rw [Lib.cell_of_heap hcp2]; rfl); have r3 : w2.cell? ⟨wr.heap.size, 3, none⟩ = some (.slice A2 h.new.length c2) := (by rw [Lib.cell_of_heap hcp2]; rfl)) | (refine step_append_lies _ (by rfl) _ _ _ (by rfl) w.heap.size 57 ip _ 4 64 Try.underlying23 hip hpz hps hpb rfl (by omega) u5 acc.length (hkCells acc us) (by rfl) ((own_below (own_below ownp hbq1) hb2).alloc _) ⟨w2.heap.size, 0, none⟩ 1 1 [.int .i64 h.to_, .int .i64 h.frm, .slice X1 n1 d1, .slice X2 n2 d2] (by rfl) (by rfl) (four_new _ _ _ _ _ _) (by simp [Value.oneCell']) (by omega) (by unfold maxLen; omega) (by omega) (by have := hbw2.size; simp; omega) (w2.heap.size + 1) (by simp) ?_; intro gg cap w3 hown3 hgrow hat hlt3; have HO := hide (turn_push elp hok' hus ownlt hokk (hs1.below hb2) hs2 (fun g e => ⟨(hg1 g e).1, Nat.lt_of_lt_of_le (hg1 g e).2 hb2.size⟩) (fun g e => ⟨Nat.le_trans hbq1.size (hg2 g e).1, (hg2 g e).2⟩) hbq1 hb2 hown3 hgrow hat); have hbw3 : Below w.heap.size w w3 := (hbw2.alloc hbw2.size _).grown hgrow (by have := hbw2.size; simp; omega) ownge; have hcp3 := (hgrow.block wr.heap.size (by simp; omega) (fun e => ownne e.symm)).trans ((Lib.alloc_old _ _ _ hlw2).trans hcp2); have z0 : w3.cell? ⟨wr.heap.size, 0, none⟩ = some (.int .i64 h.frm) := (by rw [Lib.cell_of_heap hcp3]; rfl); have z1 : w3.cell? ⟨wr.heap.size, 1, none⟩ = some (.int .i64 h.to_) := (by rw [Lib.cell_of_heap hcp3]; rfl); have z2 : w3.cell? ⟨wr.heap.size, 2, none⟩ = some (.slice A1 h.old.length c1) := (by rw [Lib.cell_of_heap hcp3]; rfl); have z3 : w3.cell? ⟨wr.heap.size, 3, none⟩ = some (.slice A2 h.new.length c2) := (by rw [Lib.cell_of_heap hcp3]; rfl)) | (refine step_append_lies _ (by rfl) _ _ _ (by rfl) w.heap.size 57 ip _ 4 64 Try.underlying23 hip hpz hps hpb rfl (by omega) u5 acc.length (hkCells acc us) (by rfl) ((own_below (own_below ownp hbq1) hb2).alloc _) ⟨w2.heap.size, 0, none⟩ 1 1 [.int .i64 h.to_, .int .i64 h.frm, .slice X2 n2 d2, .slice X1 n1 d1] (by rfl) (by rfl) (four_new _ _ _ _ _ _) (by simp [Value.oneCell']) (by omega) (by unfold maxLen; omega) (by omega) (by have := hbw2.size; simp; omega) (w2.heap.size + 1) (by simp) ?_; intro gg cap w3 hown3 hgrow hat hlt3; have HO := hide (turn_push elp hok' hus ownlt hokk hs2 (hs1.below hb2) (fun g e => ⟨Nat.le_trans hbq1.size (hg2 g e).1, (hg2 g e).2⟩) (fun g e => ⟨(hg1 g e).1, Nat.lt_of_lt_of_le (hg1 g e).2 hb2.size⟩) hbq1 hb2 hown3 hgrow hat); have hbw3 : Below w.heap.size w w3 := (hbw2.alloc hbw2.size _).grown hgrow (by have := hbw2.size; simp; omega) ownge; have hcp3 := (hgrow.block wr.heap.size (by simp; omega) (fun e => ownne e.symm)).trans ((Lib.alloc_old _ _ _ hlw2).trans hcp2); have z0 : w3.cell? ⟨wr.heap.size, 0, none⟩ = some (.int .i64 h.frm) := (by rw [Lib.cell_of_heap hcp3]; rfl); have z1 : w3.cell? ⟨wr.heap.size, 1, none⟩ = some (.int .i64 h.to_) := (by rw [Lib.cell_of_heap hcp3]; rfl); have z2 : w3.cell? ⟨wr.heap.size, 2, none⟩ = some (.slice A1 h.old.length c1) := (by rw [Lib.cell_of_heap hcp3]; rfl); have z3 : w3.cell? ⟨wr.heap.size, 3, none⟩ = some (.slice A2 h.new.length c2) := (by rw [Lib.cell_of_heap hcp3]; rfl)))
        all_goals
          go_wp2_with fail
          go_roundw
          case rel => exact ⟨k + 1, by omega, by go_num, by rw [HT.out]; exact HO.out, hbw3⟩
          case measure => simp [intOf]; omega
      · go_wp2_with fail
        go_ret2
        refine ⟨_, rfl, ?_, hbw⟩
        have := hho.read
        rwa [List.take_of_length_le (by omega)] at this
end Go.Proofs.Ytafgncledbddiaa
