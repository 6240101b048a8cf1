/- The plain part of the law FnExactCollisionOf: the program's and the reference's answers are the same, and the keys stay, for all arguments. -/
import Derived.Test.YtgfiakboloifnaaXpBase
import Derived.Test.YtgfiakboloifnaaXpCollision
import Derived.Test.YtgfiakboloifnaaXpStrs
import Derived.Test.YtgfiakboloifnaaXx12
namespace Go.Proofs.Ytgfiakboloifnaa.Pure
open Go.RowKit Go.Proofs.Ytgfiakboloifnaa.X Go.Proofs.YtgfiakboloifnaaW.PrintWords Go.Proofs.YtgfiakboloifnaaW.PrintLast
set_option linter.unusedVariables false
set_option linter.unusedSimpArgs false
theorem FnExactCollisionOf : X.laws_FnExactCollisionOf.Pure := by
  intro a0 a1 l2 a3 w0 w1 w2 w3
  refine Sup.rounds (laws_FnExactCollisionOf.F_sup a0 a1 l2 a3) ?_
  rw [laws_FnExactCollisionOf.F_eq]
  rcases szStringS_F l2 1048576 w2.1 w2.2 (by omega) (by omega) with h | ⟨r, h, h1, h2, hl, hs⟩
  · rw [h, bsome]; rfl
  · obtain ⟨q, hq1, hq2⟩ := collision_both a0 a1 l2 a3 hl hs
    rw [h, bsome, if_neg (by omega)]
    simp only [toStringS_F l2 hl, bsome, hq1, hq2, if_true, laws_FnExactCollisionOf.J0_eq, bne_self_eq_false, Bool.false_eq_true, if_false, eqStringS_F l2 (by omega)]
end Go.Proofs.Ytgfiakboloifnaa.Pure
