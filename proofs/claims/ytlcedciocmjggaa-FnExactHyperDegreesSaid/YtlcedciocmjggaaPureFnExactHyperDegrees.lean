/- The plain part of the law FnExactHyperDegrees: the program's and the reference's answers are the same, the argument stays, and the answer is a list of its own, for all arguments. -/
import Derived.Test.YtlcedciocmjggaaXg1a
import Derived.Test.YtlcedciocmjggaaXpBase
import Derived.Test.YtlcedciocmjggaaXpDegrees
import Derived.Test.YtlcedciocmjggaaXpHyper
import Derived.Test.YtlcedciocmjggaaXpInts
import Derived.Test.YtlcedciocmjggaaXpMarks
import Derived.Test.YtlcedciocmjggaaXpRowMarks
namespace Go.Proofs.Ytlcedciocmjggaa.Pure
open Go.RowKit Go.Proofs.Ytlcedciocmjggaa.X Go.Proofs.YtlcedciocmjggaaW.PrintWords Go.Proofs.YtlcedciocmjggaaW.PrintLast
set_option linter.unusedVariables false
set_option linter.unusedSimpArgs false
theorem degrees_both (a : Int) (l : List (List Int)) (hl : l.length ≤ 1048576) : ∃ q : List Int × Bool, impl_HyperDegrees.F a l = some q ∧ spec_HyperDegrees.F a l = some q ∧ q.1.length ≤ 72 := by
  rw [impl_HyperDegrees.F_eq, spec_HyperDegrees.F_eq, hyper_impl a l hl, hyper_spec a l hl, bsome, bsome]
  by_cases h : hyperB a l = true
  · have ho := hyok h
    have hb := degs_bd ho (lefts (List.replicate l.length false)) (lefts_fit (by simp))
    rw [h, if_pos rfl, if_pos rfl, none_f a l hl, bsome, all_F a l hl, bsome, deg_impl _ l (by simp) ho, deg_spec _ l (by have := lefts_len (List.replicate l.length false); have := ho.2.1; simp at *; omega) (lefts_fit (by simp)) ho]
    exact ⟨_, rfl, rfl, by show (degs l a _).length ≤ 72; have := hb.1; have := ho.1; omega⟩
  · rw [if_neg h, if_neg h]
    exact ⟨_, rfl, rfl, by simp⟩
theorem FnExactHyperDegrees : X.laws_FnExactHyperDegrees.Pure := by
  intro a l w0 w1
  refine Sup.rounds (laws_FnExactHyperDegrees.F_sup a l) ?_
  rw [laws_FnExactHyperDegrees.F_eq]
  rcases sz_hyper a l w1 with h | ⟨r, h, h1, h2, ho⟩
  · rw [h, bsome]; rfl
  · obtain ⟨q, hq1, hq2, hq3⟩ := degrees_both a l ho.1
    rw [h, bsome, if_neg (by omega)]
    simp only [toHyper_F a l ho, bsome, hq1, hq2, eqIntS_F q.1 (by omega), if_true, bne_self_eq_false, Bool.false_eq_true, if_false, eqHyper_F a l ho.1 ho.2.1, markHyper_F a l ho, show ¬ (1 + (tot l : Int) < 0) from by omega, mark_F q.1 1 (by omega) (by omega), held_F q.1.length 1 (by omega) (by omega), show ¬ (1 + (q.1.length : Int) < 0) from by omega]
end Go.Proofs.Ytlcedciocmjggaa.Pure
