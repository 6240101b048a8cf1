/- The plain part of the law FnExactSparseBits: the program's and the reference's answers are the same, and the argument stays, for all arguments. -/
import Derived.Test.YtdlbdocpofnfjaaXg8a
import Derived.Test.YtdlbdocpofnfjaaXgaa
import Derived.Test.YtdlbdocpofnfjaaXpBase
import Derived.Test.YtdlbdocpofnfjaaXpSpNumbers
import Derived.Test.YtdlbdocpofnfjaaXpSzSparse
namespace Go.Proofs.Ytdlbdocpofnfjaa.Pure
open Go.RowKit Go.Proofs.Ytdlbdocpofnfjaa.X Go.Proofs.YtdlbdocpofnfjaaW.PrintWords Go.Proofs.YtdlbdocpofnfjaaW.PrintLast
set_option linter.unusedVariables false
set_option linter.unusedSimpArgs false
theorem sparseBits_both (n m wd nl : Int) (wl : List Int) (nh : Int) (wh : List Int) (h1 : wl.length ≤ 1048576) (h2 : wh.length ≤ 1048576) : ∃ r, spec_SparseBits.F n m wd nl wl nh wh = some r ∧ impl_SparseBits.F n m wd nl wl nh wh = some r := by
  obtain ⟨good, l, s1, s2, s3⟩ := numbers_both n m wd nl wl nh wh h1 h2
  rw [spec_SparseBits.F_eq, impl_SparseBits.F_eq, impl_IsSparse.F_eq, s1, s2]
  cases good <;> exact ⟨_, rfl, rfl⟩
theorem FnExactSparseBits : X.laws_FnExactSparseBits.Pure := by
  intro n m wd nl wl nh wh w0 w1 w2 w3 w4 w5 w6
  refine Sup.rounds (laws_FnExactSparseBits.F_sup n m wd nl wl nh wh) ?_
  rw [laws_FnExactSparseBits.F_eq]
  rcases szSparse_f n m wd nl wl nh wh w4.1 w6.1 with h | ⟨t, h, ht, h1, h2⟩
  · rw [h, bsome]; rfl
  · obtain ⟨r, e1, e2⟩ := sparseBits_both n m wd nl wl nh wh h1 h2
    rw [h, bsome, if_neg ht]
    simp only [toSparse_F n m wd nl wl nh wh h1 h2, bsome, e1, e2, bne_self_eq_false, Bool.false_eq_true, if_false, if_true, eqSparse_F n m wd nl wl nh wh h1 h2]
end Go.Proofs.Ytdlbdocpofnfjaa.Pure
