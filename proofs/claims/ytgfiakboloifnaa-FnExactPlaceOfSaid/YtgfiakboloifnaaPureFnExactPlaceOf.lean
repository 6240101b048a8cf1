/- The plain part of the law FnExactPlaceOf: the program's and the reference's answers are the same, for all arguments. -/
import Derived.Test.YtgfiakboloifnaaXpBase
import Derived.Test.YtgfiakboloifnaaXpHash
import Derived.Test.YtgfiakboloifnaaXpKeys
import Derived.Test.YtgfiakboloifnaaXpWithin
import Derived.Test.YtgfiakboloifnaaXx1
import Derived.Test.YtgfiakboloifnaaXx2
namespace Go.Proofs.Ytgfiakboloifnaa.Pure
open Go.RowKit Go.Proofs.Ytgfiakboloifnaa.X Go.Proofs.YtgfiakboloifnaaW.PrintWords Go.Proofs.YtgfiakboloifnaaW.PrintLast
set_option linter.unusedVariables false
set_option linter.unusedSimpArgs false
theorem FnExactPlaceOf : X.laws_FnExactPlaceOf.Pure := by
  intro a0 a1 a2 a3 w0 w1 w2 w3
  refine Sup.rounds (laws_FnExactPlaceOf.F_sup a0 a1 a2 a3) ?_
  rw [laws_FnExactPlaceOf.F_eq]
  by_cases hs : (a2.size : Int) > 1048576
  · rw [if_pos hs]
  · have hs' : a2.size ≤ 1048576 := by omega
    rw [if_neg hs, spec_PlaceOf.F_eq, impl_PlaceOf.F_eq, biSeed_f, isSeed_f, in_f, key_spec a2 hs', key_impl a2 hs', l1In_f, in_f]
    simp only [bsome]
    by_cases h0 : 0 ≤ a0 ∧ a0 ≤ 9999
    · by_cases h1 : 0 ≤ a1 ∧ a1 ≤ 9
      · simp only [decide_eq_true h0, decide_eq_true h1, Bool.and_self, if_true]
        by_cases hk : keyB a2 = true
        · simp only [hk, if_true]
          by_cases hm : 1 ≤ a3 ∧ a3 ≤ 4096
          · simp only [decide_eq_true hm, if_true, place_spec a0 a1 a2 a3 h0 h1 hs' hm, place_impl a0 a1 a2 a3 h0 h1 hs' hm, bsome]
            rfl
          · simp only [decide_eq_false hm]; rfl
        · simp only [Bool.eq_false_iff.mpr hk]; rfl
      · simp only [decide_eq_true h0, decide_eq_false h1]; rfl
    · simp only [decide_eq_false h0]; rfl
end Go.Proofs.Ytgfiakboloifnaa.Pure
