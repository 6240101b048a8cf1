/- The plain part of the law FnGapsAreCoded: rising numbers are read back from the delta codes of their gaps, for all arguments. -/
import Derived.Test.YtkechjheiakibaaXg10a
import Derived.Test.YtkechjheiakibaaXg70a
import Derived.Test.YtkechjheiakibaaXpBase
import Derived.Test.YtkechjheiakibaaXpCodeBits
import Derived.Test.YtkechjheiakibaaXpCoding
import Derived.Test.YtkechjheiakibaaXpDecDelta
import Derived.Test.YtkechjheiakibaaXpDecodes
import Derived.Test.YtkechjheiakibaaXpDrawGaps
import Derived.Test.YtkechjheiakibaaXpDraws
import Derived.Test.YtkechjheiakibaaXpGaps
import Derived.Test.YtkechjheiakibaaXpPSame
namespace Go.Proofs.Ytkechjheiakibaa.Pure
open Go.RowKit Go.Proofs.Ytkechjheiakibaa.X Go.Proofs.YtkechjheiakibaaW.PrintWords Go.Proofs.YtkechjheiakibaaW.PrintLast
set_option linter.unusedVariables false
set_option linter.unusedSimpArgs false
theorem FnGapsAreCoded : X.laws_FnGapsAreCoded.Pure := by
  intro l0 l1 w0 w1
  refine Sup.rounds (laws_FnGapsAreCoded.F_sup l0 l1) ?_
  rw [laws_FnGapsAreCoded.F_eq]
  unfold laws_big.f
  by_cases h : (l0.length : Int) > 1048576
  · rw [if_pos h, bsome, if_pos rfl]
  · rw [if_neg h, bsome]
    by_cases h2 : (l1.length : Int) > wrap64 (1048576 - (l0.length : Int))
    · rw [if_pos (decide_eq_true h2)]
    · rw [if_neg (by rw [decide_eq_false h2]; simp)]
      have hB : Bytes l0 := ⟨by omega, fun i hi => wfI_u8 (w0.2 _ (getD_mem l0 0 i hi))⟩
      obtain ⟨l, e1, hl⟩ := drawGaps_t l0 hB
      rw [e1, bsome, implGaps_F l (by omega), specGaps_F l (by omega)]
      by_cases hr : rises (-1) l = true ∧ l.length ≤ 60
      · have gl := gapsL_len (-1) l
        have hc : coded (gapsL (-1) l) = true := coded_of (by omega) (gaps_in (-1) l (by omega) hr.1)
        rw [if_pos hr, bsome, bsome]
        simp only [bne_self_eq_false, Bool.false_eq_true, if_false, pSameA_F (gapsL (-1) l) (by omega), bsome, if_true]
        rcases delta_both (gapsL (-1) l) (by omega) with ⟨h3, _⟩ | ⟨_, u, _, h4, h5, h6⟩
        · rw [hc] at h3; cases h3
        · have hu := h5.1
          rw [h4, bsome]
          simp only
          rcases delta_decodes ((cfl dlb (gapsL (-1) l)).length : Int) u ((gapsL (-1) l).length : Int) (by omega) with ⟨_, _, h7⟩ | ⟨y, _, h8, _, _, h9⟩
          · exact absurd h5 (h7 _ hc rfl rfl)
          · have := h9 _ hc rfl rfl h5
            subst this
            rw [h8, bsome]
            simp only
            rw [fromGaps_F l hr.2 hr.1, bsome]
            simp only [if_true, pSameA_F l (by omega), bsome]
      · rw [if_neg hr, bsome, bsome]
        simp only [bne_self_eq_false, Bool.false_eq_true, if_false, pSameA_F [] (by simp), bsome, if_true]
end Go.Proofs.Ytkechjheiakibaa.Pure
