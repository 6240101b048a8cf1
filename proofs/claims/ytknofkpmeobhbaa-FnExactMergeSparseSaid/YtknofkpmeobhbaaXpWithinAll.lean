/- The reference's 'all of them within bounds'. -/
import Derived.Test.YtknofkpmeobhbaaXg1a
import Derived.Test.YtknofkpmeobhbaaXpBase
import Derived.Test.YtknofkpmeobhbaaXpWithin
set_option linter.unusedVariables false
set_option linter.unusedSimpArgs false
namespace Go.Proofs.Ytknofkpmeobhbaa.X
open Go.RowKit Go.Proofs.YtknofkpmeobhbaaW.PrintWords Go.Proofs.YtknofkpmeobhbaaW.PrintLast
theorem l1All_L (l : List Int) (a b : Int) (hl : l.length ≤ 1048576) : ∀ d n : Nat, n + d = l.length → spec_l1All.L0 a b l l.length n = some (allIn (l.drop n) a b)
  | 0, n, h => by
    rw [spec_l1All.L0_eq, if_neg (by omega), List.drop_eq_nil_of_le (by omega)]; rfl
  | d + 1, n, h => by
    rw [spec_l1All.L0_eq, if_pos (by omega), if_pos (by omega), if_pos (by omega), l1In_f, bsome, rdn, wn (by omega), l1All_L l a b hl d (n + 1) (by omega), allIn_drop l a b n (by omega)]
    by_cases h1 : a ≤ l.getD n 0 ∧ l.getD n 0 ≤ b
    · simp only [decide_eq_true h1, if_true, Bool.true_and]
    · simp only [decide_eq_false h1, Bool.false_and]; rfl
theorem l1All_F (l : List Int) (a b : Int) (hl : l.length ≤ 1048576) : spec_l1All.F l a b = some (allIn l a b) := by
  rw [spec_l1All.F_eq]
  have := l1All_L l a b hl l.length 0 (by omega)
  simpa using this
end Go.Proofs.Ytknofkpmeobhbaa.X
