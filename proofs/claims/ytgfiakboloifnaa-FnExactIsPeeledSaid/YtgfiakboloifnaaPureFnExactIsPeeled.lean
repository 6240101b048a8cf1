/- The plain part of the law FnExactIsPeeled: the program's and the reference's answers are the same, and the argument stays, for all arguments. -/
import Derived.Test.YtgfiakboloifnaaXpBase
import Derived.Test.YtgfiakboloifnaaXpInts
import Derived.Test.YtgfiakboloifnaaXpPeeled
import Derived.Test.YtgfiakboloifnaaXx2
import Derived.Test.YtgfiakboloifnaaXx3
import Derived.Test.YtgfiakboloifnaaXx4
namespace Go.Proofs.Ytgfiakboloifnaa.Pure
open Go.RowKit Go.Proofs.Ytgfiakboloifnaa.X Go.Proofs.YtgfiakboloifnaaW.PrintWords Go.Proofs.YtgfiakboloifnaaW.PrintLast
set_option linter.unusedVariables false
set_option linter.unusedSimpArgs false
theorem FnExactIsPeeled : X.laws_FnExactIsPeeled.Pure := by
  intro a0_0 a0_1 l0_2 w0 w1 hw
  refine Sup.rounds (laws_FnExactIsPeeled.F_sup a0_0 a0_1 l0_2) ?_
  rw [laws_FnExactIsPeeled.F_eq]
  unfold laws_szPeeled.f
  rcases szIntS_f l0_2 1048576 hw.1 (by omega) (by omega) with h | ⟨h, hb⟩
  · rw [h, bsome]; rfl
  · have hl : l0_2.length ≤ 1048576 := by omega
    rw [h, bsome, if_neg (by omega), bsome, if_neg (by omega)]
    simp only [laws_toPeeled.F_eq, toIntS_F l0_2 hl, bsome, peeled_spec _ _ l0_2 hl, peeled_impl _ _ l0_2 hl]
    simp only [bne_self_eq_false, Bool.false_eq_true, if_false, laws_eqPeeled.F_eq, if_true, eqIntS_F l0_2 (by omega), bsome]
end Go.Proofs.Ytgfiakboloifnaa.Pure
