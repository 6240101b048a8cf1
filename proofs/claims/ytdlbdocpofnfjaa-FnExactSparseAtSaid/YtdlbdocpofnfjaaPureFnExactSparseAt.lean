/- The plain part of the law FnExactSparseAt: the program's and the reference's answers are the same, and the argument stays, for all arguments. -/
import Derived.Test.YtdlbdocpofnfjaaXg4a
import Derived.Test.YtdlbdocpofnfjaaXpBase
import Derived.Test.YtdlbdocpofnfjaaXpSpNumbers
import Derived.Test.YtdlbdocpofnfjaaXpSzSparse
import Derived.Test.YtdlbdocpofnfjaaXpWithin
namespace Go.Proofs.Ytdlbdocpofnfjaa.Pure
open Go.RowKit Go.Proofs.Ytdlbdocpofnfjaa.X Go.Proofs.YtdlbdocpofnfjaaW.PrintWords Go.Proofs.YtdlbdocpofnfjaaW.PrintLast
set_option linter.unusedVariables false
set_option linter.unusedSimpArgs false
theorem sparseAt_both (n m wd nl : Int) (wl : List Int) (nh : Int) (wh : List Int) (i : Int) (h1 : wl.length ≤ 1048576) (h2 : wh.length ≤ 1048576) : ∃ r, spec_SparseAt.F n m wd nl wl nh wh i = some r ∧ impl_SparseAt.F n m wd nl wl nh wh i = some r := by
  obtain ⟨good, l, s1, s2, s3⟩ := numbers_both n m wd nl wl nh wh h1 h2
  rw [spec_SparseAt.F_eq, impl_SparseAt.F_eq, s1, s2, bsome, bsome]
  cases good with
  | false => exact ⟨_, rfl, rfl⟩
  | true =>
    obtain ⟨q1, q2, q3⟩ := s3 rfl
    rw [if_pos rfl, if_pos rfl, q1, l1In_f, in_f, bsome, bsome, q3]
    have h60 := q2.2.1
    have e : wrap64 (n - 1) = n - 1 := w64 (by omega) (by omega)
    rw [e]
    by_cases h : 0 ≤ i ∧ i ≤ n - 1
    · have hi : i < n := by omega
      simp only [decide_eq_true h, if_true, bsome, q3, if_pos h.1, if_pos hi]
      exact ⟨_, rfl, rfl⟩
    · rw [decide_eq_false h]
      exact ⟨_, rfl, rfl⟩
theorem FnExactSparseAt : X.laws_FnExactSparseAt.Pure := by
  intro n m wd nl wl nh wh i w0 w1 w2 w3 w4 w5 w6 v0
  refine Sup.rounds (laws_FnExactSparseAt.F_sup n m wd nl wl nh wh i) ?_
  rw [laws_FnExactSparseAt.F_eq]
  rcases szSparse_f n m wd nl wl nh wh w4.1 w6.1 with h | ⟨t, h, ht, h1, h2⟩
  · rw [h, bsome]; rfl
  · obtain ⟨r, e1, e2⟩ := sparseAt_both n m wd nl wl nh wh i h1 h2
    rw [h, bsome, if_neg ht]
    simp only [toSparse_F n m wd nl wl nh wh h1 h2, bsome, e1, e2, bne_self_eq_false, Bool.false_eq_true, if_false, if_true, eqSparse_F n m wd nl wl nh wh h1 h2]
end Go.Proofs.Ytdlbdocpofnfjaa.Pure
