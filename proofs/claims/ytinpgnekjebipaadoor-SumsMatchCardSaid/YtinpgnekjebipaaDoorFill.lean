/- text.filled: a number filled up on the left. -/
import Derived.Test.YtinpgnekjebipaaDoorTextW
import Derived.Test.YtinpgnekjebipaaDoorShelf
set_option linter.unusedVariables false
set_option linter.unusedSimpArgs false
namespace Go.Pw
open Go.RowKit
/-- a number filled up to a size: with blanks, or with zeros behind its sign -/
def fillS (l : List UInt8) (w : Nat) (z : Bool) : List UInt8 :=
  if z then (if Lib.hasPrefix l [45] then 45 :: (List.replicate (w - l.length) 48 ++ Lib.trimPrefix l [45]) else List.replicate (w - l.length) 48 ++ Lib.trimPrefix l [45])
  else List.replicate (w - l.length) 32 ++ l
theorem repeatL_one (b : UInt8) : ∀ c : Nat, Lib.repeatL [b] c = List.replicate c b
  | 0 => rfl
  | c + 1 => by
    show [b] ++ Lib.repeatL [b] c = _
    rw [repeatL_one b c, List.replicate_succ]; rfl
theorem mkB_app' (l m : List UInt8) : mkB l ++ mkB m = mkB (l ++ m) := by
  rw [← mkB_list (mkB l ++ mkB m)]
  congr 1
theorem trimPrefix_len (l p : List UInt8) : (Lib.trimPrefix l p).length ≤ l.length := by
  unfold Lib.trimPrefix; split
  · rw [List.length_drop]; omega
  · exact Nat.le_refl _
end Go.Pw
namespace Go.Proofs.YtinpgnekjebipaaDoor
open Go.RowKit Go.Pw
theorem repeatOne_any (b : UInt8) (c : Nat) (w : World) (hc : c ≤ 1000000) :
    Calls Tryd.prog 53 #[.string ⟨#[b]⟩, .int .i64 (c : Int)] w fun e w' => e = .returned (.string (mkB (List.replicate c b))) ∧ Below w.heap.size w w' :=
  (Tryd.strings_Repeat ⟨#[b]⟩ c w (by omega) (by have e : (⟨#[b]⟩ : ByteArray).size = 1 := rfl; rw [e]; omega)).mono fun e w' ⟨h1, h2⟩ => ⟨by rw [h1, ← repeatL_one]; rfl, h2⟩
end Go.Proofs.YtinpgnekjebipaaDoor
