/- The plain part of the law FnExactBuildSparse: the program's and the reference's answers are the same and share nothing, for all arguments. -/
import Derived.Test.YtdlbdocpofnfjaaXg1a
import Derived.Test.YtdlbdocpofnfjaaXg201a
import Derived.Test.YtdlbdocpofnfjaaXg211a
import Derived.Test.YtdlbdocpofnfjaaXg3ffb
import Derived.Test.YtdlbdocpofnfjaaXpBase
import Derived.Test.YtdlbdocpofnfjaaXpInts
import Derived.Test.YtdlbdocpofnfjaaXpMarks
import Derived.Test.YtdlbdocpofnfjaaXpSpBuild
import Derived.Test.YtdlbdocpofnfjaaXpSpSorted
namespace Go.Proofs.Ytdlbdocpofnfjaa.Pure
open Go.RowKit Go.Proofs.Ytdlbdocpofnfjaa.X Go.Proofs.YtdlbdocpofnfjaaW.PrintWords Go.Proofs.YtdlbdocpofnfjaaW.PrintLast
set_option linter.unusedVariables false
set_option linter.unusedSimpArgs false
theorem buildSparse_both (l : List Int) (m : Int) (hl : l.length ≤ 1048576) : ∃ (a b c d : Int) (u : List Int) (e : Int) (v : List Int) (ok : Bool), spec_BuildSparse.F l m = some (a, b, c, d, u, e, v, ok) ∧ impl_BuildSparse.F l m = some (a, b, c, d, u, e, v, ok) ∧ u.length ≤ 262144 ∧ v.length ≤ 262144 := by
  obtain ⟨b, h1, h2, h3⟩ := sorted_both l m hl
  rw [spec_BuildSparse.F_eq, impl_BuildSparse.F_eq, h1, h2]
  cases b with
  | false => exact ⟨_, _, _, _, _, _, _, _, rfl, rfl, by simp, by simp⟩
  | true =>
    obtain ⟨w, ul, uh, _, _, g1, g2, g3, g4⟩ := build_both l m (h3 rfl)
    rw [bsome, bsome, if_pos rfl, if_pos rfl, g1, g2]
    exact ⟨_, _, _, _, _, _, _, _, rfl, rfl, Nat.le_trans g3 (by decide), g4⟩
theorem FnExactBuildSparse : X.laws_FnExactBuildSparse.Pure := by
  intro l m hw w1
  refine Sup.rounds (laws_FnExactBuildSparse.F_sup l m) ?_
  rw [laws_FnExactBuildSparse.F_eq]
  by_cases hb : (l.length : Int) > 1048576
  · rw [if_pos hb]
  · have hl : l.length ≤ 1048576 := by omega
    obtain ⟨a, b, c, d, u, e, v, ok, h1, h2, h3, h4⟩ := buildSparse_both l m hl
    rw [if_neg hb]
    have n1 : ¬ (1 : Int) + (l.length : Int) < 0 := by omega
    have n2 : ¬ (1 : Int) + (u.length : Int) < 0 := by omega
    have n3 : ¬ (1 : Int) + (u.length : Int) + (v.length : Int) < 0 := by omega
    simp only [toIntS_F l hl, bsome, h1, h2, laws_eqSparse.F_eq, laws_eqBits.F_eq, if_true, eqIntS_F u (by omega), eqIntS_F v (by omega), bne_self_eq_false, Bool.false_eq_true, if_false, eqIntS_F l (by omega), mark_F l 1 (by omega) (by omega), if_neg n1, laws_markSparse.F_eq, laws_markBits.F_eq, mark_F u 1 (by omega) (by omega), mark_F v (1 + u.length) (by omega) (by omega), laws_heldSparse.F_eq, laws_heldBits.F_eq, held_F u.length 1 (by omega) (by omega), if_neg n2, held_F v.length (1 + u.length) (by omega) (by omega), if_neg n3]
end Go.Proofs.Ytdlbdocpofnfjaa.Pure
