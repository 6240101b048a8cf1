/- The plain part of the law FnExactIsOrdered: the program's and the reference's answers are the same, and the argument stays, for all arguments. -/
import Derived.Test.YtgfiakboloifnaaXpBase
import Derived.Test.YtgfiakboloifnaaXpInts
import Derived.Test.YtgfiakboloifnaaXpOrdered
import Derived.Test.YtgfiakboloifnaaXx5
import Derived.Test.YtgfiakboloifnaaXx6
namespace Go.Proofs.Ytgfiakboloifnaa.Pure
open Go.RowKit Go.Proofs.Ytgfiakboloifnaa.X Go.Proofs.YtgfiakboloifnaaW.PrintWords Go.Proofs.YtgfiakboloifnaaW.PrintLast
set_option linter.unusedVariables false
set_option linter.unusedSimpArgs false
theorem FnExactIsOrdered : X.laws_FnExactIsOrdered.Pure := by
  intro a0_0 a0_1 a0_2 l0_3 w0 w1 w2 hw
  refine Sup.rounds (laws_FnExactIsOrdered.F_sup a0_0 a0_1 a0_2 l0_3) ?_
  rw [laws_FnExactIsOrdered.F_eq]
  unfold laws_szOrdered.f
  rcases szIntS_f l0_3 1048576 hw.1 (by omega) (by omega) with h | ⟨h, hb⟩
  · rw [h, bsome]; rfl
  · have hl : l0_3.length ≤ 1048576 := by omega
    rw [h, bsome, if_neg (by omega), bsome, if_neg (by omega)]
    simp only [laws_toOrdered.F_eq, toIntS_F l0_3 hl, bsome, ordered_spec _ _ _ l0_3 hl, ordered_impl _ _ _ l0_3 hl]
    simp only [bne_self_eq_false, Bool.false_eq_true, if_false, laws_eqOrdered.F_eq, if_true, eqIntS_F l0_3 (by omega), bsome]
end Go.Proofs.Ytgfiakboloifnaa.Pure
