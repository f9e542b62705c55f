/- The walks of an order, first part: blank, fields, begin. -/
import Derived.Test.YtinpgnekjebipaaDoorProg
import Derived.Test.YtinpgnekjebipaaDoorMem
import Derived.Test.YtinpgnekjebipaaDoorOrdP
import Derived.WalkKit
import Derived.WalkLawsBesides
import Derived.WalkSpells
import Derived.LoopTactic
import Derived.RegionTactic
import Derived.Deep.OwnRows
import Derived.Outline
import Derived.Deep.QuietTactic
import Derived.BigQuiet
set_option linter.unusedVariables false
set_option linter.unusedSimpArgs false
namespace Go.Proofs.YtinpgnekjebipaaDoor
open Go.RowKit Go.Pw

theorem hitB {line sep : ByteArray} {i : Nat} (h : fldHit line sep i = true) : fldTo line sep (i + 1) = ((fldTo line sep i).1 ++ [((fldTo line sep i).2, i)], if sep.size = 0 then i else i + 1) := by
  rw [fldTo, if_pos h]
theorem missB {line sep : ByteArray} {i : Nat} (h : fldHit line sep i = false) : fldTo line sep (i + 1) = fldTo line sep i := by
  rw [fldTo, if_neg (by simp [h])]

theorem hit_nil0 (line : ByteArray) : fldHit line ⟨#[]⟩ 0 = false := by
  unfold fldHit; rw [if_pos (by rfl)]; rfl
theorem hit_nil {line : ByteArray} {k : Nat} (h0 : 0 < k) (h : k < line.size) : fldHit line ⟨#[]⟩ k = (blankB line[k] && !blankB (line[k - 1]'(by omega))) := by
  unfold fldHit
  rw [if_pos (by rfl), bt_eq h, bt_eq (show k - 1 < line.size by omega)]
  simp [h0]
theorem hit_sep {line sep : ByteArray} {k : Nat} (hs : 0 < sep.size) (h : k < line.size) : fldHit line sep k = (line[k] == sep[0]) := by
  unfold fldHit
  rw [if_neg (by omega), bt_eq h, bt_eq hs]
theorem fld_len (line sep : ByteArray) (k : Nat) : (fldTo line sep k).1.length ≤ k := (fldTo_ok line sep k).2.1
end Go.Proofs.YtinpgnekjebipaaDoor
