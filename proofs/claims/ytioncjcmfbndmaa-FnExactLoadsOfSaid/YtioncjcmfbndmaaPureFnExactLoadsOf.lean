/- The plain part of the law FnExactLoadsOf: the program's and the reference's answers are the same, the keys stay, and the answer is a list of its own, for all arguments. -/
import Derived.Test.YtioncjcmfbndmaaXg10a
import Derived.Test.YtioncjcmfbndmaaXpBase
import Derived.Test.YtioncjcmfbndmaaXpInts
import Derived.Test.YtioncjcmfbndmaaXpLoads
import Derived.Test.YtioncjcmfbndmaaXpMarkStrs
import Derived.Test.YtioncjcmfbndmaaXpMarks
import Derived.Test.YtioncjcmfbndmaaXpStrs
namespace Go.Proofs.Ytioncjcmfbndmaa.Pure
open Go.RowKit Go.Proofs.Ytioncjcmfbndmaa.X Go.Proofs.YtioncjcmfbndmaaW.PrintWords Go.Proofs.YtioncjcmfbndmaaW.PrintLast
set_option linter.unusedVariables false
set_option linter.unusedSimpArgs false
theorem FnExactLoadsOf : X.laws_FnExactLoadsOf.Pure := by
  intro a b l m w0 w1 w2 w3
  refine Sup.rounds (laws_FnExactLoadsOf.F_sup a b l m) ?_
  rw [laws_FnExactLoadsOf.F_eq]
  rcases szStringS_F l 1048576 w2.1 w2.2 (by omega) (by omega) with h | ⟨r, h, h1, h2, hl, hs⟩
  · rw [h, bsome]; rfl
  · obtain ⟨q, hq1, hq2, hq3⟩ := loads_both a b l m hl hs
    obtain ⟨l', hm⟩ := markStringS_F l 1 hl (by omega)
    rw [h, bsome, if_neg (by omega)]
    simp only [toStringS_F l hl, bsome, hq1, hq2, eqIntS_F q.1 (by omega), if_true, bne_self_eq_false, Bool.false_eq_true, if_false, eqStringS_F l (by omega), hm, show ¬ (1 + (l.length : Int) < 0) from by omega, mark_F q.1 1 (by omega) (by omega), held_F q.1.length 1 (by omega) (by omega), show ¬ (1 + (q.1.length : Int) < 0) from by omega]
end Go.Proofs.Ytioncjcmfbndmaa.Pure
