/- Which numbers are seeds: the program asks for a span. -/
import Derived.Test.YtioncjcmfbndmaaXgffba
import Derived.Test.YtioncjcmfbndmaaXpWithin
namespace Go.Proofs.Ytioncjcmfbndmaa.X
open Go.RowKit Go.Proofs.YtioncjcmfbndmaaW.PrintWords Go.Proofs.YtioncjcmfbndmaaW.PrintLast
set_option linter.unusedVariables false
set_option linter.unusedSimpArgs false
theorem isSeed_f (a : Int) : impl_isSeed.f a = some (decide (0 ≤ a ∧ a ≤ 9999)) := by
  unfold impl_isSeed.f
  rw [in_f]; rfl
end Go.Proofs.Ytioncjcmfbndmaa.X
