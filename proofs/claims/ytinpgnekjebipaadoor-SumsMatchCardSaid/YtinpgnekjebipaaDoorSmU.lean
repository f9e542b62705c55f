/- Words of 32 bits as the walk spells them: plain. -/
import Derived.Test.YtinpgnekjebipaaDoorSmS
import Derived.Laws.BitsAll
set_option linter.unusedVariables false
namespace Go.Pw
open Go.RowKit
/-- a word as the number that the walk holds -/
abbrev wi (x : W32) : Int := ((x.toNat : Nat) : Int)
theorem wi_lt (x : W32) : x.toNat < 4294967296 := x.isLt
theorem wi_xor (x y : W32) : bits .xor .u32 ((x.toNat : Nat) : Int) ((y.toNat : Nat) : Int) = (((x ^^^ y).toNat : Nat) : Int) := by
  rw [u32_xor_nat _ _ (wi_lt x) (wi_lt y), BitVec.toNat_xor]
theorem wi_and (x y : W32) : bits .and .u32 ((x.toNat : Nat) : Int) ((y.toNat : Nat) : Int) = (((x &&& y).toNat : Nat) : Int) := by
  rw [u32_and_nat _ _ (wi_lt x) (wi_lt y), BitVec.toNat_and]
theorem wi_or (x y : W32) : bits .or .u32 ((x.toNat : Nat) : Int) ((y.toNat : Nat) : Int) = (((x ||| y).toNat : Nat) : Int) := by
  rw [u32_or_nat _ _ (wi_lt x) (wi_lt y), BitVec.toNat_or]
theorem wi_not (y : W32) : bits .xor .u32 4294967295 ((y.toNat : Nat) : Int) = (((~~~y).toNat : Nat) : Int) := by
  have := wi_xor (BitVec.allOnes 32) y
  rw [BitVec.allOnes_xor] at this
  rw [← this]; rfl
theorem wi_add (x y : W32) : IntKind.u32.wrap (((x.toNat : Nat) : Int) + ((y.toNat : Nat) : Int)) = (((x + y).toNat : Nat) : Int) := by
  rw [IntKind.wrap_u32', BitVec.toNat_add]
  omega
theorem wi_shr (x : W32) (k : Nat) (d : Int) (hd : d = ((2 ^ k : Nat) : Int)) : ((x.toNat : Nat) : Int) / d = (((x >>> k).toNat : Nat) : Int) := by
  subst hd
  rw [BitVec.toNat_ushiftRight, Nat.shiftRight_eq_div_pow]
  exact (Int.natCast_ediv _ _).symm
theorem wi_shl (x : W32) (k : Nat) (d : Int) (hd : d = ((2 ^ k : Nat) : Int)) : IntKind.u32.wrap (((x.toNat : Nat) : Int) * d) = (((x <<< k).toNat : Nat) : Int) := by
  subst hd
  rw [IntKind.wrap_u32', BitVec.toNat_shiftLeft, Nat.shiftLeft_eq, ← Int.natCast_mul]
  rfl
theorem wi_byte (c : UInt8) : ((c.toNat : Nat) : Int) = (((BitVec.ofNat 32 c.toNat).toNat : Nat) : Int) := by
  rw [BitVec.toNat_ofNat, Nat.mod_eq_of_lt (by have := c.toNat_lt; omega)]
theorem wi_lit (n : Nat) (h : n < 4294967296) : ((n : Nat) : Int) = (((BitVec.ofNat 32 n).toNat : Nat) : Int) := by
  rw [BitVec.toNat_ofNat, Nat.mod_eq_of_lt h]
/-- the two orders in which a word of the schedule is added up -/
theorem add_order (a s b t : W32) : a + b + s + t = a + s + b + t := by ac_rfl
end Go.Pw
