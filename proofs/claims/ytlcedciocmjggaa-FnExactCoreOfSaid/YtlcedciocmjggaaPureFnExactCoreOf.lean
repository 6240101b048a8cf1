/- The plain part of the law FnExactCoreOf: the program's and the reference's answers are the same, the argument stays, and the answer is a list of its own, for all arguments. -/
import Derived.Test.YtlcedciocmjggaaXg400a
import Derived.Test.YtlcedciocmjggaaXpBase
import Derived.Test.YtlcedciocmjggaaXpDegrees
import Derived.Test.YtlcedciocmjggaaXpHyper
import Derived.Test.YtlcedciocmjggaaXpInts
import Derived.Test.YtlcedciocmjggaaXpMarks
import Derived.Test.YtlcedciocmjggaaXpPeelLoops
import Derived.Test.YtlcedciocmjggaaXpRowMarks
namespace Go.Proofs.Ytlcedciocmjggaa.Pure
open Go.RowKit Go.Proofs.Ytlcedciocmjggaa.X Go.Proofs.YtlcedciocmjggaaW.PrintWords Go.Proofs.YtlcedciocmjggaaW.PrintLast
set_option linter.unusedVariables false
set_option linter.unusedSimpArgs false
theorem coreOf_both (a : Int) (l : List (List Int)) (ho : SzOk l) : ∃ q : List Int × Bool, impl_CoreOf.F a l = some q ∧ spec_CoreOf.F a l = some q ∧ q.1.length ≤ 40 := by
  rw [impl_CoreOf.F_eq, spec_CoreOf.F_eq, hyper_impl a l ho.1, hyper_spec a l ho.1, bsome, bsome]
  by_cases h : hyperB a l = true
  · obtain ⟨S, r, h1, h2, h3, h4, _⟩ := peels_both (hyok h)
    rw [h, if_pos rfl, if_pos rfl, h1, bsome, spec_peCore.F_eq, h2, bsome, bsome]
    exact ⟨_, rfl, rfl, h4⟩
  · rw [if_neg h, if_neg h]
    exact ⟨_, rfl, rfl, by simp⟩
theorem FnExactCoreOf : X.laws_FnExactCoreOf.Pure := by
  intro a l w0 w1
  refine Sup.rounds (laws_FnExactCoreOf.F_sup a l) ?_
  rw [laws_FnExactCoreOf.F_eq]
  rcases sz_hyper a l w1 with h | ⟨r, h, h1, h2, ho⟩
  · rw [h, bsome]; rfl
  · obtain ⟨q, hq1, hq2, hq3⟩ := coreOf_both a l ho
    rw [h, bsome, if_neg (by omega)]
    simp only [toHyper_F a l ho, bsome, hq1, hq2, eqIntS_F q.1 (by omega), if_true, bne_self_eq_false, Bool.false_eq_true, if_false, eqHyper_F a l ho.1 ho.2.1, markHyper_F a l ho, show ¬ (1 + (tot l : Int) < 0) from by omega, mark_F q.1 1 (by omega) (by omega), held_F q.1.length 1 (by omega) (by omega), show ¬ (1 + (q.1.length : Int) < 0) from by omega]
end Go.Proofs.Ytlcedciocmjggaa.Pure
