/- A row of the call's own, as rows that are to be merged. -/
import Derived.Test.YtkikbejpgfhfoaaGreatDoorRowsM
import Derived.Test.YtkikbejpgfhfoaaGreatDoorMgd
set_option linter.unusedVariables false
set_option linter.unusedSimpArgs false
namespace Go.Pw
open Go.RowKit
variable {tSS : TypeId} {w w' : World} {base : Nat} {v : Value} {vs : List Value} {rs : List (List ByteArray)}
theorem RowsR.runs {g n cap : Nat} (h : RowsR tSS w base (.slice (some ⟨g, 0, none⟩) n cap) vs rs) (hn : rs.length = n) : RunsAt w w g vs rs :=
  ⟨h.len, fun i u hu => h.cell hn hu, fun i u l hu hl => ⟨(h.el i u l hu hl).1, fun e => (h.el i u l hu hl).2.2 g e rfl⟩⟩
end Go.Pw
