/- The plain part of the law FnExactLastAtMost: the program's and the reference's answers are the same, and the argument stays, for all arguments. -/
import Derived.Test.YtdlbdocpofnfjaaXg100a
import Derived.Test.YtdlbdocpofnfjaaXg1a0a
import Derived.Test.YtdlbdocpofnfjaaXpBase
import Derived.Test.YtdlbdocpofnfjaaXpBelow
import Derived.Test.YtdlbdocpofnfjaaXpSpNumbers
import Derived.Test.YtdlbdocpofnfjaaXpSzSparse
import Derived.Test.YtdlbdocpofnfjaaXpWithin
namespace Go.Proofs.Ytdlbdocpofnfjaa.Pure
open Go.RowKit Go.Proofs.Ytdlbdocpofnfjaa.X Go.Proofs.YtdlbdocpofnfjaaW.PrintWords Go.Proofs.YtdlbdocpofnfjaaW.PrintLast
set_option linter.unusedVariables false
set_option linter.unusedSimpArgs false
theorem lastAtMost_both (n m wd nl : Int) (wl : List Int) (nh : Int) (wh : List Int) (v : Int) (h1 : wl.length ≤ 1048576) (h2 : wh.length ≤ 1048576) : ∃ r, spec_LastAtMost.F n m wd nl wl nh wh v = some r ∧ impl_LastAtMost.F n m wd nl wl nh wh v = some r := by
  obtain ⟨good, l, s1, s2, s3⟩ := numbers_both n m wd nl wl nh wh h1 h2
  rw [spec_LastAtMost.F_eq, spec_spAsked.F_eq, impl_LastAtMost.F_eq, s1, s2, bsome, bsome]
  cases good with
  | false => exact ⟨_, rfl, rfl⟩
  | true =>
    obtain ⟨q1, q2, q3⟩ := s3 rfl
    obtain ⟨c, c1, c2, c3⟩ := below_both n m wd nl wl nh wh l (wrap64 (v + 1)) q1 q2
    rw [if_pos rfl, if_pos rfl, l1In_f, in_f, bsome, bsome, bsome, c1, c2]
    cases decide (0 ≤ v ∧ v ≤ wrap64 (m - 1)) with
    | false => exact ⟨_, rfl, rfl⟩
    | true =>
      by_cases h : c = 0
      · simp only [if_true, bsome, if_pos h]; exact ⟨_, rfl, rfl⟩
      · simp only [if_true, bsome, if_neg h]; exact ⟨_, rfl, rfl⟩
theorem FnExactLastAtMost : X.laws_FnExactLastAtMost.Pure := by
  intro n m wd nl wl nh wh v w0 w1 w2 w3 w4 w5 w6 v0
  refine Sup.rounds (laws_FnExactLastAtMost.F_sup n m wd nl wl nh wh v) ?_
  rw [laws_FnExactLastAtMost.F_eq]
  rcases szSparse_f n m wd nl wl nh wh w4.1 w6.1 with h | ⟨t, h, ht, h1, h2⟩
  · rw [h, bsome]; rfl
  · obtain ⟨r, e1, e2⟩ := lastAtMost_both n m wd nl wl nh wh v h1 h2
    rw [h, bsome, if_neg ht]
    simp only [toSparse_F n m wd nl wl nh wh h1 h2, bsome, e1, e2, bne_self_eq_false, Bool.false_eq_true, if_false, if_true, eqSparse_F n m wd nl wl nh wh h1 h2]
end Go.Proofs.Ytdlbdocpofnfjaa.Pure
