/- The plain part of the law FnExactIsHyper: the program's and the reference's answers are the same, and the argument stays, for all arguments. -/
import Derived.Test.YtgfiakboloifnaaXpBase
import Derived.Test.YtgfiakboloifnaaXpHyper
import Derived.Test.YtgfiakboloifnaaXpIntRows
import Derived.Test.YtgfiakboloifnaaXx7
import Derived.Test.YtgfiakboloifnaaXx8
import Derived.Test.YtgfiakboloifnaaXx9
namespace Go.Proofs.Ytgfiakboloifnaa.Pure
open Go.RowKit Go.Proofs.Ytgfiakboloifnaa.X Go.Proofs.YtgfiakboloifnaaW.PrintWords Go.Proofs.YtgfiakboloifnaaW.PrintLast
set_option linter.unusedVariables false
set_option linter.unusedSimpArgs false
theorem FnExactIsHyper : X.laws_FnExactIsHyper.Pure := by
  intro a l w0 w1
  refine Sup.rounds (laws_FnExactIsHyper.F_sup a l) ?_
  rw [laws_FnExactIsHyper.F_eq, laws_szHyper.F_eq]
  rcases szIntSS_F l 1048576 w1.1 (fun s hs => (w1.2 s hs).1) (by omega) (by omega) with h | ⟨r, h, h1, h2, hl, hs⟩
  · rw [h, bsome]; rfl
  · rw [h, bsome, if_neg (by omega), bsome, if_neg (by omega)]
    simp only [laws_toHyper.F_eq, toIntSS_F l hl hs, bsome, spec_IsHyper.F_eq, hyper_spec a l hl, hyper_impl a l hl, bne_self_eq_false, Bool.false_eq_true, if_false, laws_eqHyper.F_eq, if_true, eqIntSS_F l hl hs]
end Go.Proofs.Ytgfiakboloifnaa.Pure
