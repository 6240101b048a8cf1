/- The plain part of the law FnExactDecodeDelta: the program's and the reference's answers are the same and share nothing, for all arguments. -/
import Derived.Test.YtkechjheiakibaaXg38a
import Derived.Test.YtkechjheiakibaaXg8a
import Derived.Test.YtkechjheiakibaaXgca
import Derived.Test.YtkechjheiakibaaXgfa
import Derived.Test.YtkechjheiakibaaXpBase
import Derived.Test.YtkechjheiakibaaXpDecDelta
import Derived.Test.YtkechjheiakibaaXpInts
import Derived.Test.YtkechjheiakibaaXpMarks
namespace Go.Proofs.Ytkechjheiakibaa.Pure
open Go.RowKit Go.Proofs.Ytkechjheiakibaa.X Go.Proofs.YtkechjheiakibaaW.PrintWords Go.Proofs.YtkechjheiakibaaW.PrintLast
set_option linter.unusedVariables false
set_option linter.unusedSimpArgs false
theorem dec_same (n : Int) (ws : List Int) (c : Int) (hl : ws.length ≤ 1048576) : ∃ (y : List Int) (ok : Bool), spec_DecodeDelta.F n ws c = some (y, ok) ∧ impl_DecodeDelta.F n ws c = some (y, ok) ∧ y.length ≤ 60 := by
  rcases delta_decodes n ws c hl with ⟨h1, h2, _⟩ | ⟨y, h1, h2, _, h3, _⟩
  · exact ⟨_, _, h1, h2, by simp⟩
  · exact ⟨_, _, h1, h2, h3⟩
theorem FnExactDecodeDelta : X.laws_FnExactDecodeDelta.Pure := by
  intro n ws c w0 hw w2
  refine Sup.rounds (laws_FnExactDecodeDelta.F_sup n ws c) ?_
  rw [laws_FnExactDecodeDelta.F_eq]
  unfold laws_szBits.f
  rcases szIntS_f ws 1048576 hw.1 (by omega) (by omega) with h | ⟨h, hb⟩
  · rw [h, bsome]; rfl
  · have hl : ws.length ≤ 1048576 := by omega
    obtain ⟨y, ok, h1, h2, h3⟩ := dec_same n ws c hl
    rw [h, bsome, if_neg (by omega), bsome, if_neg (by omega)]
    have n1 : ¬ (1 : Int) + (y.length : Int) < 0 := by omega
    have n2 : ¬ (1 : Int) + (ws.length : Int) < 0 := by omega
    simp only [laws_toBits.F_eq, toIntS_F ws hl, bsome, h1, h2, laws_eqBits.F_eq, if_true, eqIntS_F ws (by omega), bne_self_eq_false, Bool.false_eq_true, if_false, eqIntS_F y (by omega), mark_F y 1 (by omega) (by omega), if_neg n1, laws_markBits.F_eq, mark_F ws 1 (by omega) (by omega), held_F y.length 1 (by omega) (by omega), if_neg n2]
end Go.Proofs.Ytkechjheiakibaa.Pure
