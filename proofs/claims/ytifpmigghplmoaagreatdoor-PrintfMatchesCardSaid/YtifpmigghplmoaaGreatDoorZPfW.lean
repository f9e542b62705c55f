/- Printf: digits at any letter, numeral of any argument. -/
import Derived.Test.YtifpmigghplmoaaGreatDoorZPrG
import Derived.Test.YtifpmigghplmoaaGreatDoorZPfOA
import Derived.Test.YtifpmigghplmoaaGreatDoorZPfOB
import Derived.Test.YtifpmigghplmoaaGreatDoorZPfOC
set_option linter.unusedVariables false
set_option linter.unusedSimpArgs false
namespace Go.Proofs.YtifpmigghplmoaaGreatDoor
open Go.RowKit Go.Pw Go.Shelf
theorem digits_any (d : Dv) (hd : DvOk d) (n : Int) (h0 : -9223372036854775808 ≤ n) (h1 : n ≤ 9223372036854775807) (w : World) (hT : PowTab w) (hZ : TzT w) :
    Calls Tryz.prog 84 #[dvV d, .int .i64 n] w fun e w' => e = .returned (.string (mkB (digP d n))) ∧ Below w.heap.size w w' := by
  obtain ⟨tx, fl, wd, dot, pr, lt⟩ := d
  by_cases c1 : lt = 100
  · subst c1
    cases dot
    · exact digits_d_f tx fl wd pr hd n h0 h1 w hT hZ
    · exact digits_d_t tx fl wd pr hd n h0 h1 w hT hZ
  by_cases c2 : lt = 105
  · subst c2
    cases dot
    · exact digits_i_f tx fl wd pr hd n h0 h1 w hT hZ
    · exact digits_i_t tx fl wd pr hd n h0 h1 w hT hZ
  by_cases c3 : lt = 117
  · subst c3
    cases dot
    · exact digits_u_f tx fl wd pr hd n h0 h1 w hT hZ
    · exact digits_u_t tx fl wd pr hd n h0 h1 w hT hZ
  by_cases c4 : lt = 111
  · subst c4
    cases dot
    · exact digits_o_f tx fl wd pr hd n h0 h1 w hT hZ
    · exact digits_o_t tx fl wd pr hd n h0 h1 w hT hZ
  by_cases c5 : lt = 120
  · subst c5
    cases dot
    · exact digits_x_f tx fl wd pr hd n h0 h1 w hT hZ
    · exact digits_x_t tx fl wd pr hd n h0 h1 w hT hZ
  have hl : ¬ (lt = 100 ∨ lt = 105 ∨ lt = 117 ∨ lt = 111 ∨ lt = 120) := by simp [c1, c2, c3, c4, c5]
  cases dot
  · exact digits_X_f tx fl wd pr lt hl hd n h0 h1 w hT hZ
  · exact digits_X_t tx fl wd pr lt hl hd n h0 h1 w hT hZ
theorem numeral_any (a : List UInt8) (w : World) (ha : a.length ≤ 900000) (hE : ErrT w) :
    Calls Tryz.prog 82 #[.string (mkB a)] w fun e w' => e = .returned (.tuple #[.int .i64 (numP a).1, .int .i64 (numP a).2]) ∧ Below w.heap.size w w' := by
  cases a with
  | nil => exact numeral_nil w
  | cons c r =>
    simp only [List.length_cons] at ha
    by_cases h1 : c = 39 ∨ c = 34
    · exact numeral_quote c r w h1 (by omega)
    · simp only [not_or] at h1
      by_cases h2 : c = 45
      · exact numeral_A c r w h2 (by omega) hE
      · by_cases h3 : c = 43
        · exact numeral_B c r w h3 (by omega) hE
        · exact numeral_C c r w h2 h3 h1.1 h1.2 (by omega) hE
end Go.Proofs.YtifpmigghplmoaaGreatDoor
