/- The plain part of the law FnExactUnpackMarks: the program's and the reference's answers are the same and share nothing, for all arguments. -/
import Derived.Test.YtioncjcmfbndmaaXg2a
import Derived.Test.YtioncjcmfbndmaaXg2b
import Derived.Test.YtioncjcmfbndmaaXg42a
import Derived.Test.YtioncjcmfbndmaaXgcaa
import Derived.Test.YtioncjcmfbndmaaXpBase
import Derived.Test.YtioncjcmfbndmaaXpInts
import Derived.Test.YtioncjcmfbndmaaXpMarks
import Derived.Test.YtioncjcmfbndmaaXpUnpacks
namespace Go.Proofs.Ytioncjcmfbndmaa.Pure
open Go.RowKit Go.Proofs.Ytioncjcmfbndmaa.X Go.Proofs.YtioncjcmfbndmaaW.PrintWords Go.Proofs.YtioncjcmfbndmaaW.PrintLast
set_option linter.unusedVariables false
set_option linter.unusedSimpArgs false
theorem FnExactUnpackMarks : X.laws_FnExactUnpackMarks.Pure := by
  intro s g n ws w0 w1 w2 hw
  refine Sup.rounds (laws_FnExactUnpackMarks.F_sup s g n ws) ?_
  rw [laws_FnExactUnpackMarks.F_eq]
  unfold laws_szBits.f
  rcases szIntS_f ws 1048576 hw.1 (by omega) (by omega) with h | ⟨h, hb⟩
  · rw [h, bsome]; rfl
  · have hl : ws.length ≤ 1048576 := by omega
    obtain ⟨a, b, l, ok, h1, h2, h3⟩ := unpack_both s g n ws hl
    rw [h, bsome, if_neg (by omega), bsome, if_neg (by omega)]
    have n1 : ¬ (1 : Int) + (l.length : Int) < 0 := by omega
    have n2 : ¬ (1 : Int) + (ws.length : Int) < 0 := by omega
    simp only [laws_toBits.F_eq, toIntS_F ws hl, bsome, h1, h2, laws_eqBits.F_eq, if_true, eqIntS_F ws (by omega), bne_self_eq_false, Bool.false_eq_true, if_false, laws_eqPeeled.F_eq, eqIntS_F l (by omega), laws_markPeeled.F_eq, mark_F l 1 (by omega) (by omega), if_neg n1, laws_markBits.F_eq, mark_F ws 1 (by omega) (by omega), laws_heldPeeled.F_eq, held_F l.length 1 (by omega) (by omega), if_neg n2]
end Go.Proofs.Ytioncjcmfbndmaa.Pure
