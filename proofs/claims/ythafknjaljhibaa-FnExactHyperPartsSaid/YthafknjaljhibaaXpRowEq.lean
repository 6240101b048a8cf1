/- Equality of lists of lists of whole numbers, as the laws' helper computes it. -/
import Derived.Test.YthafknjaljhibaaXg1c
import Derived.Test.YthafknjaljhibaaXpBase
import Derived.Test.YthafknjaljhibaaXpInts
import Derived.Test.YthafknjaljhibaaXx0
set_option linter.unusedVariables false
set_option linter.unusedSimpArgs false
namespace Go.Proofs.Ythafknjaljhibaa.X
open Go.RowKit Go.Proofs.YthafknjaljhibaaW.PrintWords Go.Proofs.YthafknjaljhibaaW.PrintLast
theorem rdr (xs : List (List Int)) (n : Nat) : rd_L1 xs (n : Int) = xs.getD n [] := rfl
theorem eqIntSS_L (l : List (List Int)) (hl : l.length ≤ 1048576) (hs : ∀ i, i < l.length → (l.getD i []).length ≤ 1048576) : ∀ d n : Nat, n + d = l.length → laws_eqIntSS.L0 l l n = some true
  | 0, n, h => by rw [laws_eqIntSS.L0_eq, if_neg (by omega)]
  | d + 1, n, h => by
    rw [laws_eqIntSS.L0_eq, if_pos (by omega), if_pos (by omega), if_pos (by omega), rdr, eqIntS_F _ (by have := hs n (by omega); omega), bsome, if_pos rfl, wn (by omega)]
    exact eqIntSS_L l hl hs d (n + 1) (by omega)
theorem eqIntSS_F (l : List (List Int)) (hl : l.length ≤ 1048576) (hs : ∀ i, i < l.length → (l.getD i []).length ≤ 1048576) : laws_eqIntSS.F l l = some true := by
  rw [laws_eqIntSS.F_eq, if_pos rfl]
  exact eqIntSS_L l hl hs l.length 0 (by omega)
end Go.Proofs.Ythafknjaljhibaa.X
