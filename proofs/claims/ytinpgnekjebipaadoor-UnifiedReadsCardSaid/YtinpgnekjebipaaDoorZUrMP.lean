/- UnifiedReads: any text of hunks is read as the reference reads it, or refused at the same line with the same error. For every text. -/
import Derived.Test.YtinpgnekjebipaaDoorCards
import Derived.Test.YtinpgnekjebipaaDoorTie
import Derived.Test.YtinpgnekjebipaaDoorZUrEnd
import Derived.Lib.LaidU8T
import Derived.WalkKit
import Derived.ProofKit
import Derived.OpenShut
import Derived.ShutString
import Derived.ChangeOld
import Derived.Below
import Derived.SliceStrings
import Derived.LaidMore
import Derived.Lay
import Derived.SevenTiedAt
import Derived.Stop.Joined
namespace Go.Proofs.YtinpgnekjebipaaDoor.unifiedReads
open Go.ChangeShapes Go.WideShapes Go.ChangeAt Go.RowKit Go.Pw
open Go.ChangeMaps (open_string shut_string)
set_option linter.unusedVariables false

theorem own : ownKnob Tryd.prog.godebug = none := by kernel_rfl
theorem laidOut : laidOutB Tryd.prog = true := by kernel_rfl
def laid : List (String × DataW Unit) := [("math/bits.deBruijn32tab", Rows.laid_math_bits_deBruijn32tab), ("math/bits.deBruijn64tab", Rows.laid_math_bits_deBruijn64tab), ("internal/strconv.uint64pow10", Rows.laid_internal_strconv_uint64pow10), ("unicode/utf8.acceptRanges", Rows.laid_unicode_utf8_acceptRanges), ("strconv.ErrRange", Rows.laid_strconv_ErrRange), ("strconv.ErrSyntax", Rows.laid_strconv_ErrSyntax), ("unicode/utf8.first", Rows.laid_unicode_utf8_first)]

set_option maxRecDepth 100000 in
theorem lifted (os : Os) (started : os.Started) (H : Type) (enc : TypeId × Value → H) :
    ReturnsInHanded {} Tryd.checked os 4 .any (fun w args => (Rows.unifiedReadsSpec.pre enc Tryd.prog Tryd.f4 Rows.unifiedReadsRow.domain false w args ∧ laidMetH Tryd.prog laid w) ∧ sizedMet enc Tryd.prog Tryd.f4 (OpenSpec.ofChange Rows.unifiedReadsSpec) false w args)
      (Rows.unifiedReadsSpec.post enc Tryd.prog Tryd.f4 false true false false) := by
  refine returnsInHanded_of_change_and (C := Tryd.checked) (X := fun w _ => laidMetH Tryd.prog laid w) (fun _ _ _ hh h => h.of_heap hh) own started (by kernel_rfl) Tryd.func4
    (ChangeSpec.witness_shaped (enc := enc) (C := Tryd.checked) (os := os) (X := fun w _ => laidMetH Tryd.prog laid w) false (World.laidAll Tryd.prog os laid) #[.string ⟨#[]⟩] 8 (World.laidAll_os _ _ _)
      (World.shaped_of_ZipB (by kernel_rfl) (by kernel_rfl)) (by kernel_rfl) (by kernel_rfl) (by kernel_rfl)
      (by rw [MakeChecks.laidMetH_plain _ _ _ (by kernel_rfl)]; exact laidMet_laidAll _ (by kernel_rfl) (by kernel_rfl))) ?_
  intro W base args ds gs before hval0 hW hcnd hsz0 hL _
  have hval : ∀ (j : Nat) t v, Tryd.f4.params[j]? = some t → args[j]? = some v → Value.okWide Tryd.prog W .any base t v := hval0
  have hW' := hW
  obtain ⟨p, q, hA0, hV, rfl, hfz, hnd⟩ := hW
  have hA : DataW.TrodAll enc Tryd.prog W 0 (fun _ => true) true Tryd.f4.params.toList args.toList ds p := hA0
  rw [Tryd.params4] at hA hval
  obtain ⟨v0, vs0, d0, ds0, p0, q0, hargs, rfl, rfl, h0, r0⟩ := trodAll_cons hA
  obtain ⟨rfl, rfl, rfl⟩ := trodAll_nil r0
  obtain rfl : args = #[v0] := by cases args; simp_all
  obtain ⟨rfl, rfl⟩ := trodVars_none hV
  obtain ⟨a0, rfl, rfl, rfl, w0⟩ := open_string Tryd.underlying9 (hval 0 9 v0 rfl rfl) h0
  have hL' : laidMet Tryd.prog laid W := by
    have h := hL
    rw [MakeChecks.laidMetH_plain _ _ _ (by kernel_rfl)] at h
    exact h
  have hPT : PowTab W := by
    obtain ⟨g, t, cs, fuel, p, hg, ht, hv, hd⟩ := Lib.laidMet.reads hL' (n := "internal/strconv.uint64pow10") (d := Lib.tabData .u64 Lib.pow10Tab) (.tail _ (.tail _ (.head _)))
    have hg2 : Tryd.prog.globalNamed "internal/strconv.uint64pow10" = some 0 := by kernel_rfl
    obtain rfl := Option.some.inj (hg2.symm.trans hg)
    have ht2 : (Tryd.prog.globals[0]?).map (·.type) = some 146 := by kernel_rfl
    obtain rfl := Option.some.inj (ht2.symm.trans ht)
    unfold PowTab Lib.TabIs
    rw [hv, ← Lib.cells_of_tab Tryd.underlying146 Tryd.underlying65 (by kernel_rfl) (by kernel_rfl) hd]
  have h_strconv_ErrSyntax : ErrV 6 W := by
    obtain ⟨g, t, cs, fuel, p, hg, ht, hv, hd⟩ := Lib.laidMet.reads hL' (n := "strconv.ErrSyntax") (d := Rows.laid_strconv_ErrSyntax) (.tail _ (.tail _ (.tail _ (.tail _ (.tail _ (.head _))))))
    have hg2 : Tryd.prog.globalNamed "strconv.ErrSyntax" = some 6 := by kernel_rfl
    obtain rfl := Option.some.inj (hg2.symm.trans hg)
    have ht2 : (Tryd.prog.globals[6]?).map (·.type) = some 113 := by kernel_rfl
    obtain rfl := Option.some.inj (ht2.symm.trans ht)
    unfold Rows.laid_strconv_ErrSyntax at hd
    obtain ⟨f', u, v, hcs, -, -⟩ := iface_of_trod Tryd.underlying113 hd
    have h0 := World.var?_cell hg2 hv 0
    refine ⟨.iface u v, ?_, Or.inr ⟨u, v, rfl⟩⟩
    rw [h0, ← Array.getElem?_toList, hcs]; rfl
  have h_strconv_ErrRange : ErrV 7 W := by
    obtain ⟨g, t, cs, fuel, p, hg, ht, hv, hd⟩ := Lib.laidMet.reads hL' (n := "strconv.ErrRange") (d := Rows.laid_strconv_ErrRange) (.tail _ (.tail _ (.tail _ (.tail _ (.head _)))))
    have hg2 : Tryd.prog.globalNamed "strconv.ErrRange" = some 7 := by kernel_rfl
    obtain rfl := Option.some.inj (hg2.symm.trans hg)
    have ht2 : (Tryd.prog.globals[7]?).map (·.type) = some 113 := by kernel_rfl
    obtain rfl := Option.some.inj (ht2.symm.trans ht)
    unfold Rows.laid_strconv_ErrRange at hd
    obtain ⟨f', u, v, hcs, -, -⟩ := iface_of_trod Tryd.underlying113 hd
    have h0 := World.var?_cell hg2 hv 0
    refine ⟨.iface u v, ?_, Or.inr ⟨u, v, rfl⟩⟩
    rw [h0, ← Array.getElem?_toList, hcs]; rfl
  clear hA0 hval0
  refine (unifiedReads_any a0 W w0 hPT ⟨h_strconv_ErrSyntax, h_strconv_ErrRange⟩).mono fun e W' ⟨he, bel⟩ => ?_
  subst he
  exact ⟨_, rfl, _, _, _, [], _, [], hW', trodAll_mk1 (shut_bool Tryd.underlying4 _), (trodAll_cons_mk (shut_string Tryd.underlying9 w0) trodAll_mk0), rfl, bel.frame _, fun h => by cases h⟩

theorem over : Rows.unifiedReadsRow.holds Tryd.pinned (OpenSpec.ofChange Rows.unifiedReadsSpec) :=
  OpenClaim.holds_of_wide 4 Tryd.f4 rfl rfl rfl rfl rfl rfl rfl ⟨rfl, rfl, rfl, rfl, rfl⟩ rfl rfl rfl rfl rfl (by kernel_rfl) Tryd.func4 (by kernel_rfl)
    (of_decide_eq_true (by kernel_rfl)) (by unfold Func.isWrapper; first | (rw [if_pos (by decide +kernel)]; kernel_rfl) | (rw [if_neg (by decide +kernel)]; exact ⟨rfl, rfl⟩))
    (fun os started H enc _ => lifted os started H enc)

theorem proved : Rows.UnifiedReadsCardSaid :=
  Claim7.holds_tied_plain_at .later [] [.data, .data, .data, .data, .sentinel, .sentinel, .pinned] true Rows.unifiedReadsCard.stood.harness true over (fun _ h => by cases h) (by kernel_rfl) (fun _ h => by cases h) unifiedReads_row_tie rfl ⟨rfl, rfl⟩ (by kernel_rfl) rfl
    (fun f fn hf hfn => by
      obtain rfl : f = 4 := Option.some.inj ((show Tryd.prog.funcNamed "periwinkle/periwinklelaw1.UnifiedReads" = some 4 by kernel_rfl).symm.trans hf) |>.symm
      obtain rfl : fn = Tryd.f4 := (Option.some.inj (Tryd.func4.symm.trans hfn)).symm
      exact ⟨by kernel_rfl, fun j t ht => by
        rw [Tryd.params4] at ht
        have hm : t ∈ [9] := by simpa using Array.mem_of_getElem? ht
        have hall : ([9].all fun u => !Tryd.prog.wantsStandIn u) = true := by kernel_rfl
        exact (show Tryd.prog.wantsStandIn t = false by simpa using List.all_eq_true.1 hall t hm)⟩)
    (by kernel_rfl)
#print axioms proved
end Go.Proofs.YtinpgnekjebipaaDoor.unifiedReads
