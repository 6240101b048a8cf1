/- The plain part of the law FnExactHasNumber: the program's and the reference's answers are the same, and the argument stays, for all arguments. -/
import Derived.Test.YtdlbdocpofnfjaaXg1a0a
import Derived.Test.YtdlbdocpofnfjaaXg20a
import Derived.Test.YtdlbdocpofnfjaaXpBase
import Derived.Test.YtdlbdocpofnfjaaXpHas
import Derived.Test.YtdlbdocpofnfjaaXpSpNumbers
import Derived.Test.YtdlbdocpofnfjaaXpSzSparse
import Derived.Test.YtdlbdocpofnfjaaXpWithin
namespace Go.Proofs.Ytdlbdocpofnfjaa.Pure
open Go.RowKit Go.Proofs.Ytdlbdocpofnfjaa.X Go.Proofs.YtdlbdocpofnfjaaW.PrintWords Go.Proofs.YtdlbdocpofnfjaaW.PrintLast
set_option linter.unusedVariables false
set_option linter.unusedSimpArgs false
theorem hasNumber_both (n m wd nl : Int) (wl : List Int) (nh : Int) (wh : List Int) (v : Int) (h1 : wl.length ≤ 1048576) (h2 : wh.length ≤ 1048576) : ∃ r, spec_HasNumber.F n m wd nl wl nh wh v = some r ∧ impl_HasNumber.F n m wd nl wl nh wh v = some r := by
  obtain ⟨good, l, s1, s2, s3⟩ := numbers_both n m wd nl wl nh wh h1 h2
  rw [spec_HasNumber.F_eq, spec_spAsked.F_eq, impl_HasNumber.F_eq, s1, s2, bsome, bsome]
  cases good with
  | false => exact ⟨_, rfl, rfl⟩
  | true =>
    obtain ⟨q1, q2, q3⟩ := s3 rfl
    rw [if_pos rfl, if_pos rfl, q1, l1In_f, in_f, bsome, bsome, bsome]
    by_cases h : 0 ≤ v ∧ v ≤ wrap64 (m - 1)
    · obtain ⟨g1, b, g2⟩ := has_both l v (by have := q2.2.1; omega)
      simp only [decide_eq_true h, if_true, bsome, g1, g2]
      exact ⟨_, rfl, rfl⟩
    · rw [decide_eq_false h]
      exact ⟨_, rfl, rfl⟩
theorem FnExactHasNumber : X.laws_FnExactHasNumber.Pure := by
  intro n m wd nl wl nh wh v w0 w1 w2 w3 w4 w5 w6 v0
  refine Sup.rounds (laws_FnExactHasNumber.F_sup n m wd nl wl nh wh v) ?_
  rw [laws_FnExactHasNumber.F_eq]
  rcases szSparse_f n m wd nl wl nh wh w4.1 w6.1 with h | ⟨t, h, ht, h1, h2⟩
  · rw [h, bsome]; rfl
  · obtain ⟨r, e1, e2⟩ := hasNumber_both n m wd nl wl nh wh v h1 h2
    rw [h, bsome, if_neg ht]
    simp only [toSparse_F n m wd nl wl nh wh h1 h2, bsome, e1, e2, bne_self_eq_false, Bool.false_eq_true, if_false, if_true, eqSparse_F n m wd nl wl nh wh h1 h2]
end Go.Proofs.Ytdlbdocpofnfjaa.Pure
