/- Printf, the reference: shown at any directive. -/
import Derived.Test.YtifpmigghplmoaaGreatDoorZPfRid
import Derived.Test.YtifpmigghplmoaaGreatDoorZPfRii
import Derived.Test.YtifpmigghplmoaaGreatDoorZPfRiu
import Derived.Test.YtifpmigghplmoaaGreatDoorZPfRio
import Derived.Test.YtifpmigghplmoaaGreatDoorZPfRix
import Derived.Test.YtifpmigghplmoaaGreatDoorZPfRiX
import Derived.Test.YtifpmigghplmoaaGreatDoorZPrJ
set_option linter.unusedVariables false
namespace Go.Proofs.YtifpmigghplmoaaGreatDoor
open Go.RowKit Go.Pw Go.Shelf
theorem shownR_any (d : Dv) (hd : DvOk d) (hl : d.lt ∈ letL) (k : Nat) (a : List UInt8) (ha : a.length ≤ 70000) (w : World) :
    Calls Tryz.prog 41 #[.agg (rvC d k), .string (mkB a)] w fun e w' => e = .returned (.tuple #[.string (mkB (wrP d a).1), .int .i64 (wrP d a).2]) ∧ Below w.heap.size w w' := by
  obtain ⟨tx, fl, wd, dot, pr, lt⟩ := d
  have h9 : lt = 100 ∨ lt = 105 ∨ lt = 117 ∨ lt = 111 ∨ lt = 120 ∨ lt = 88 ∨ lt = 99 ∨ lt = 115 ∨ lt = 98 := by simpa [letL] using hl
  have ha9 : a.length ≤ 900000 := by omega
  rcases h9 with rfl | rfl | rfl | rfl | rfl | rfl | rfl | rfl | rfl
  · cases dot
    · exact shown_d_f tx fl wd pr k hd a ha9 w
    · exact shown_d_t tx fl wd pr k hd a ha9 w
  · cases dot
    · exact shown_i_f tx fl wd pr k hd a ha9 w
    · exact shown_i_t tx fl wd pr k hd a ha9 w
  · cases dot
    · exact shown_u_f tx fl wd pr k hd a ha9 w
    · exact shown_u_t tx fl wd pr k hd a ha9 w
  · cases dot
    · exact shown_o_f tx fl wd pr k hd a ha9 w
    · exact shown_o_t tx fl wd pr k hd a ha9 w
  · cases dot
    · exact shown_x_f tx fl wd pr k hd a ha9 w
    · exact shown_x_t tx fl wd pr k hd a ha9 w
  · cases dot
    · exact shown_X_f tx fl wd pr k hd a ha9 w
    · exact shown_X_t tx fl wd pr k hd a ha9 w
  · cases dot
    · exact shown_c_f tx fl wd pr k hd a ha w
    · exact shown_c_t tx fl wd pr k hd a ha w
  · cases dot
    · exact shown_s_f tx fl wd pr k hd a ha w
    · exact shown_s_t tx fl wd pr k hd a ha w
  · cases dot
    · exact shown_b_f tx fl wd pr k hd a ha w
    · exact shown_b_t tx fl wd pr k hd a ha w
end Go.Proofs.YtifpmigghplmoaaGreatDoor
