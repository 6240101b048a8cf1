/- Which numbers are seeds: the program asks for a span. -/
import Derived.Test.YtlcedciocmjggaaXg40a
import Derived.Test.YtlcedciocmjggaaXpWithin
namespace Go.Proofs.Ytlcedciocmjggaa.X
open Go.RowKit Go.Proofs.YtlcedciocmjggaaW.PrintWords Go.Proofs.YtlcedciocmjggaaW.PrintLast
set_option linter.unusedVariables false
set_option linter.unusedSimpArgs false
theorem isSeed_f (a : Int) : impl_isSeed.f a = some (decide (0 ≤ a ∧ a ≤ 9999)) := by
  unfold impl_isSeed.f
  rw [in_f]; rfl
end Go.Proofs.Ytlcedciocmjggaa.X
