import Derived.Test.YtfjbdbdjhkmifaaDiffers
import Derived.Test.YtfjbdbdjhkmifaaDifference
set_option linter.unusedSimpArgs false
set_option linter.unusedVariables false
namespace Go.Proofs.Ytfjbdbdjhkmifaa
open Go.RowKit Go.Pw

theorem gap_le (a b : List ByteArray) : ∀ (ps : List (Nat × Nat)) (f t : Nat), (hunksOf a b f t ps).length ≤ ps.length + 1
  | [], f, t => by have := gap_length a b f t a.length b.length; simpa [hunksOf] using this
  | p :: ps, f, t => by have := gap_length a b f t p.1 p.2; have := gap_le a b ps (p.1 + 1) (p.2 + 1); simp [hunksOf]; omega
theorem diffOf_le (a b : List ByteArray) : (diffOf a b).length ≤ a.length + 1 := by
  have h1 := gap_le a b (stayAt a b 0 0) 0 0
  have h2 := Chain.length_le (stay_chain a b)
  unfold diffOf; omega

end Go.Proofs.Ytfjbdbdjhkmifaa
