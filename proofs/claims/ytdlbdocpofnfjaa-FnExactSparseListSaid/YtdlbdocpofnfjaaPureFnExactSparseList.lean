/- The plain part of the law FnExactSparseList: the program's and the reference's answers are the same and share nothing, for all arguments. -/
import Derived.Test.YtdlbdocpofnfjaaXg10a
import Derived.Test.YtdlbdocpofnfjaaXg211a
import Derived.Test.YtdlbdocpofnfjaaXpBase
import Derived.Test.YtdlbdocpofnfjaaXpInts
import Derived.Test.YtdlbdocpofnfjaaXpMarks
import Derived.Test.YtdlbdocpofnfjaaXpSpNumbers
import Derived.Test.YtdlbdocpofnfjaaXpSzSparse
namespace Go.Proofs.Ytdlbdocpofnfjaa.Pure
open Go.RowKit Go.Proofs.Ytdlbdocpofnfjaa.X Go.Proofs.YtdlbdocpofnfjaaW.PrintWords Go.Proofs.YtdlbdocpofnfjaaW.PrintLast
set_option linter.unusedVariables false
set_option linter.unusedSimpArgs false
theorem sparseList_both (n m wd nl : Int) (wl : List Int) (nh : Int) (wh : List Int) (h1 : wl.length ≤ 1048576) (h2 : wh.length ≤ 1048576) : ∃ (l : List Int) (ok : Bool), spec_SparseList.F n m wd nl wl nh wh = some (l, ok) ∧ impl_SparseList.F n m wd nl wl nh wh = some (l, ok) ∧ l.length ≤ 60 := by
  obtain ⟨good, l, s1, s2, s3⟩ := numbers_both n m wd nl wl nh wh h1 h2
  rw [spec_SparseList.F_eq, impl_SparseList.F_eq, s1, s2]
  cases good with
  | false => exact ⟨_, _, rfl, rfl, by simp⟩
  | true =>
    obtain ⟨q1, q2, q3⟩ := s3 rfl
    rw [bsome, if_pos rfl, q1]
    exact ⟨_, _, rfl, rfl, q2.2.1⟩
theorem FnExactSparseList : X.laws_FnExactSparseList.Pure := by
  intro n m wd nl wl nh wh w0 w1 w2 w3 w4 w5 w6
  refine Sup.rounds (laws_FnExactSparseList.F_sup n m wd nl wl nh wh) ?_
  rw [laws_FnExactSparseList.F_eq]
  rcases szSparse_f n m wd nl wl nh wh w4.1 w6.1 with h | ⟨t, h, ht, h1, h2⟩
  · rw [h, bsome]; rfl
  · obtain ⟨l, ok, e1, e2, e3⟩ := sparseList_both n m wd nl wl nh wh h1 h2
    rw [h, bsome, if_neg ht]
    have n1 : ¬ (1 : Int) + (l.length : Int) < 0 := by omega
    have n2 : ¬ (1 : Int) + (wl.length : Int) + (wh.length : Int) < 0 := by omega
    simp only [toSparse_F n m wd nl wl nh wh h1 h2, bsome, e1, e2, bne_self_eq_false, Bool.false_eq_true, if_false, if_true, eqSparse_F n m wd nl wl nh wh h1 h2, eqIntS_F l (by omega), laws_markSparse.F_eq, laws_markBits.F_eq, mark_F wl 1 (by omega) (by omega), mark_F wh (1 + wl.length) (by omega) (by omega), if_neg n2, mark_F l 1 (by omega) (by omega), held_F l.length 1 (by omega) (by omega), if_neg n1]
end Go.Proofs.Ytdlbdocpofnfjaa.Pure
