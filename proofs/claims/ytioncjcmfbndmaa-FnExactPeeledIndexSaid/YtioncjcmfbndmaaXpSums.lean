/- The sum of the values at three places, by the reference. -/
import Derived.Test.YtioncjcmfbndmaaXg2a8a
import Derived.Test.YtioncjcmfbndmaaXpBase
namespace Go.Proofs.Ytioncjcmfbndmaa.X
open Go.RowKit Go.Proofs.YtioncjcmfbndmaaW.PrintWords Go.Proofs.YtioncjcmfbndmaaW.PrintLast
set_option linter.unusedVariables false
set_option linter.unusedSimpArgs false
theorem pfSum_3 (l : List Int) (p q r : Int) (hp : 0 ≤ p ∧ p < l.length) (hq : 0 ≤ q ∧ q < l.length) (hr : 0 ≤ r ∧ r < l.length) (bp : 0 ≤ rd l p ∧ rd l p ≤ 1000) (bq : 0 ≤ rd l q ∧ rd l q ≤ 1000) (br : 0 ≤ rd l r ∧ rd l r ≤ 1000) :
    spec_pfSum.F l [p, q, r] = some (rd l p + rd l q + rd l r) := by
  have e0 : rd [p, q, r] 0 = p := rfl
  have e1 : rd [p, q, r] 1 = q := rfl
  have e2 : rd [p, q, r] 2 = r := rfl
  have el : (([p, q, r] : List Int).length : Int) = 3 := rfl
  rw [spec_pfSum.F_eq, el, spec_pfSum.L0_eq, if_pos (by omega), if_pos (by omega), el, if_pos (by omega), e0, if_pos (by omega), if_pos (by omega), w64 (x := 0 + rd l p) (by omega) (by omega), w64 (x := 0 + 1) (by omega) (by omega), show (0 + 1 : Int) = 1 from rfl]
  rw [spec_pfSum.L0_eq, if_pos (by omega), if_pos (by omega), el, if_pos (by omega), e1, if_pos (by omega), if_pos (by omega), w64 (x := 0 + rd l p + rd l q) (by omega) (by omega), w64 (x := 1 + 1) (by omega) (by omega), show (1 + 1 : Int) = 2 from rfl]
  rw [spec_pfSum.L0_eq, if_pos (by omega), if_pos (by omega), el, if_pos (by omega), e2, if_pos (by omega), if_pos (by omega), w64 (x := 0 + rd l p + rd l q + rd l r) (by omega) (by omega), w64 (x := 2 + 1) (by omega) (by omega), show (2 + 1 : Int) = 3 from rfl]
  rw [spec_pfSum.L0_eq, if_neg (by omega), Int.zero_add]
end Go.Proofs.Ytioncjcmfbndmaa.X
