/- The plain part of the law FnExactEncodeDelta: the program's and the reference's answers are the same and share nothing, for all arguments. -/
import Derived.Test.YtkechjheiakibaaXg2a
import Derived.Test.YtkechjheiakibaaXg3a
import Derived.Test.YtkechjheiakibaaXg3fa
import Derived.Test.YtkechjheiakibaaXg3fb
import Derived.Test.YtkechjheiakibaaXgfa
import Derived.Test.YtkechjheiakibaaXpBase
import Derived.Test.YtkechjheiakibaaXpCoding
import Derived.Test.YtkechjheiakibaaXpInts
import Derived.Test.YtkechjheiakibaaXpMarks
namespace Go.Proofs.Ytkechjheiakibaa.Pure
open Go.RowKit Go.Proofs.Ytkechjheiakibaa.X Go.Proofs.YtkechjheiakibaaW.PrintWords Go.Proofs.YtkechjheiakibaaW.PrintLast
set_option linter.unusedVariables false
set_option linter.unusedSimpArgs false
theorem enc_same (l : List Int) (hl : l.length ≤ 1048576) : ∃ (n : Int) (u : List Int) (ok : Bool), spec_EncodeDelta.F l = some (n, u, ok) ∧ impl_EncodeDelta.F l = some (n, u, ok) ∧ u.length ≤ 262144 := by
  rcases delta_both l hl with ⟨_, h1, h2⟩ | ⟨_, u, h1, h2, h3, h4⟩
  · exact ⟨_, _, _, h1, h2, by simp⟩
  · exact ⟨_, _, _, h1, h2, by rw [h3.1]; omega⟩
theorem FnExactEncodeDelta : X.laws_FnExactEncodeDelta.Pure := by
  intro l hw
  refine Sup.rounds (laws_FnExactEncodeDelta.F_sup l) ?_
  rw [laws_FnExactEncodeDelta.F_eq]
  by_cases hb : (l.length : Int) > 1048576
  · rw [if_pos hb]
  · have hl : l.length ≤ 1048576 := by omega
    obtain ⟨n, u, ok, h1, h2, h3⟩ := enc_same l hl
    rw [if_neg hb]
    have n1 : ¬ (1 : Int) + (l.length : Int) < 0 := by omega
    have n2 : ¬ (1 : Int) + (u.length : Int) < 0 := by omega
    simp only [toIntS_F l hl, bsome, h1, h2, laws_eqBits.F_eq, if_true, eqIntS_F u (by omega), bne_self_eq_false, Bool.false_eq_true, if_false, eqIntS_F l (by omega), mark_F l 1 (by omega) (by omega), if_neg n1, laws_markBits.F_eq, mark_F u 1 (by omega) (by omega), laws_heldBits.F_eq, held_F u.length 1 (by omega) (by omega), if_neg n2]
end Go.Proofs.Ytkechjheiakibaa.Pure
