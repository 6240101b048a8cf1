/- The reference's question whether words are a vector. -/
import Derived.Test.YtknofkpmeobhbaaXg1b
import Derived.Test.YtknofkpmeobhbaaXpBase
import Derived.Test.YtknofkpmeobhbaaXpBitsGood
import Derived.Test.YtknofkpmeobhbaaXpWithin
import Derived.Test.YtknofkpmeobhbaaXpWithinAll
set_option linter.unusedVariables false
set_option linter.unusedSimpArgs false
namespace Go.Proofs.Ytknofkpmeobhbaa.X
open Go.RowKit Go.Proofs.YtknofkpmeobhbaaW.PrintWords Go.Proofs.YtknofkpmeobhbaaW.PrintLast
theorem biGood_F (n : Int) (ws : List Int) (hl : ws.length ≤ 1048576) : spec_biGood.F n ws = some (goodB n ws) := by
  rw [spec_biGood.F_eq, l1In_f, bsome]
  unfold goodB
  by_cases h1 : 0 ≤ n ∧ n ≤ 4096
  · rw [w64 (x := n + 15) (by omega) (by omega), tdiv_nn (by omega), w64 (by omega) (by omega), if_pos (decide_eq_true h1), decide_eq_true h1, Bool.true_and]
    by_cases h2 : (ws.length : Int) = (n + 15) / 16
    · rw [if_pos h2, decide_eq_true h2, Bool.true_and, l1All_F ws 0 65535 hl, bsome, tail_tell n ws h1 h2]
      by_cases h3 : allIn ws 0 65535 = true
      · rw [if_pos h3, h3, Bool.true_and]
      · rw [if_neg h3, Bool.eq_false_iff.mpr h3, Bool.false_and]
    · rw [if_neg h2, decide_eq_false h2, Bool.false_and]
  · rw [decide_eq_false h1, if_neg (by decide), Bool.false_and]
end Go.Proofs.Ytknofkpmeobhbaa.X
