/- The plain part of the law FnExactPackMarks: the program's and the reference's answers are the same and share nothing, for all arguments. -/
import Derived.Test.YtioncjcmfbndmaaXg40a
import Derived.Test.YtioncjcmfbndmaaXg40b
import Derived.Test.YtioncjcmfbndmaaXg42a
import Derived.Test.YtioncjcmfbndmaaXgc8a
import Derived.Test.YtioncjcmfbndmaaXgcaa
import Derived.Test.YtioncjcmfbndmaaXpBase
import Derived.Test.YtioncjcmfbndmaaXpInts
import Derived.Test.YtioncjcmfbndmaaXpMarks
import Derived.Test.YtioncjcmfbndmaaXpPacks
import Derived.Test.YtioncjcmfbndmaaXpPeeled
namespace Go.Proofs.Ytioncjcmfbndmaa.Pure
open Go.RowKit Go.Proofs.Ytioncjcmfbndmaa.X Go.Proofs.YtioncjcmfbndmaaW.PrintWords Go.Proofs.YtioncjcmfbndmaaW.PrintLast
set_option linter.unusedVariables false
set_option linter.unusedSimpArgs false
theorem packMarks_both (s g : Int) (l : List Int) (hl : l.length ≤ 1048576) : ∃ (n : Int) (ws : List Int) (b : Bool), spec_PackMarks.F s g l = some (n, ws, b) ∧ impl_PackMarks.F s g l = some (n, ws, b) ∧ ws.length ≤ 262144 := by
  rw [spec_PackMarks.F_eq, impl_PackMarks.F_eq, peeled_spec' s g l hl, peeled_impl s g l hl]
  simp only [bsome]
  by_cases h : peeledB s g l = true
  · obtain ⟨ws, h1, h2, h3⟩ := packs_F l hl
    simp only [h, if_true, h1, h2, bsome]
    exact ⟨_, _, _, rfl, rfl, by omega⟩
  · simp only [Bool.eq_false_iff.mpr h]
    exact ⟨_, _, _, rfl, rfl, by simp⟩
theorem FnExactPackMarks : X.laws_FnExactPackMarks.Pure := by
  intro s g l w0 w1 hw
  refine Sup.rounds (laws_FnExactPackMarks.F_sup s g l) ?_
  rw [laws_FnExactPackMarks.F_eq]
  unfold laws_szPeeled.f
  rcases szIntS_f l 1048576 hw.1 (by omega) (by omega) with h | ⟨h, hb⟩
  · rw [h, bsome]; rfl
  · have hl : l.length ≤ 1048576 := by omega
    obtain ⟨n, ws, b, h1, h2, h3⟩ := packMarks_both s g l hl
    rw [h, bsome, if_neg (by omega), bsome, if_neg (by omega)]
    have n1 : ¬ (1 : Int) + (l.length : Int) < 0 := by omega
    have n2 : ¬ (1 : Int) + (ws.length : Int) < 0 := by omega
    simp only [laws_toPeeled.F_eq, toIntS_F l hl, bsome, h1, h2, laws_eqBits.F_eq, if_true, eqIntS_F ws (by omega), bne_self_eq_false, Bool.false_eq_true, if_false, laws_eqPeeled.F_eq, eqIntS_F l (by omega), laws_markPeeled.F_eq, mark_F l 1 (by omega) (by omega), if_neg n1, laws_markBits.F_eq, mark_F ws 1 (by omega) (by omega), laws_heldBits.F_eq, held_F ws.length 1 (by omega) (by omega), if_neg n2]
end Go.Proofs.Ytioncjcmfbndmaa.Pure
