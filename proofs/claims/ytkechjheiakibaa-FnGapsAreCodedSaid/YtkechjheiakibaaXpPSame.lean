/- A list is the same as itself, by the laws' own comparison. -/
import Derived.Test.YtkechjheiakibaaXg70a
import Derived.Test.YtkechjheiakibaaXpBase
namespace Go.Proofs.Ytkechjheiakibaa.X
open Go.RowKit Go.Proofs.YtkechjheiakibaaW.PrintWords Go.Proofs.YtkechjheiakibaaW.PrintLast
set_option linter.unusedVariables false
set_option linter.unusedSimpArgs false
theorem pSameA_L (l : List Int) (hl : l.length ≤ 1048576) : ∀ d n : Nat, n + d = l.length → laws_pSameInts.L0 l l l.length n = some true
  | 0, n, h => by rw [laws_pSameInts.L0_eq, if_neg (by omega)]
  | d + 1, n, h => by
    rw [laws_pSameInts.L0_eq, if_pos (by omega), if_pos (by omega), if_pos (by omega), if_pos (by omega), if_pos rfl, wn (by omega)]
    exact pSameA_L l hl d (n + 1) (by omega)
theorem pSameA_F (l : List Int) (hl : l.length ≤ 1048576) : laws_pSameInts.F l l = some true := by
  rw [laws_pSameInts.F_eq, if_pos rfl]
  exact pSameA_L l hl l.length 0 (by omega)
end Go.Proofs.Ytkechjheiakibaa.X
