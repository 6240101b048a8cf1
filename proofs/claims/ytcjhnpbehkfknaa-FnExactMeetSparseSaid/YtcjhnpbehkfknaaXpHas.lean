/- Whether a list holds a number: the reference's loop and the library's. -/
import Derived.Test.YtcjhnpbehkfknaaXg1b
import Derived.Test.YtcjhnpbehkfknaaXg1f
import Derived.Test.YtcjhnpbehkfknaaXpBase
set_option linter.unusedVariables false
set_option linter.unusedSimpArgs false
namespace Go.Proofs.Ytcjhnpbehkfknaa.X
open Go.RowKit Go.Proofs.YtcjhnpbehkfknaaW.PrintWords Go.Proofs.YtcjhnpbehkfknaaW.PrintLast
theorem has_L (l : List Int) (v : Int) (hl : l.length ≤ 1048576) : ∀ d n : Nat, n + d = l.length → ∃ (b : Bool) (j : Int), spec_l1Has.L0 v l l.length n = some b ∧ slices_Index_int_int.L0 l v l.length n = some j ∧ decide (j ≥ 0) = b
  | 0, n, h => by
    rw [spec_l1Has.L0_eq, slices_Index_int_int.L0_eq, if_neg (by omega), if_neg (by omega)]
    exact ⟨false, -1, rfl, rfl, by decide⟩
  | d + 1, n, h => by
    have e1 : spec_l1Has.L0 v l l.length n = if l.getD n 0 = v then some true else spec_l1Has.L0 v l l.length ((n + 1 : Nat) : Int) := by
      rw [spec_l1Has.L0_eq, if_pos (by omega), if_pos (by omega), if_pos (by omega), rdn, wn (by omega)]
    have e2 : slices_Index_int_int.L0 l v l.length n = if v = l.getD n 0 then some (n : Int) else slices_Index_int_int.L0 l v l.length ((n + 1 : Nat) : Int) := by
      rw [slices_Index_int_int.L0_eq, if_pos (by omega), if_pos (by omega), if_pos (by omega), rdn, wn (by omega)]
    rw [e1, e2]
    by_cases hq : l.getD n 0 = v
    · rw [if_pos hq, if_pos hq.symm]
      exact ⟨true, n, rfl, rfl, decide_eq_true (by omega)⟩
    · rw [if_neg hq, if_neg (fun e => hq e.symm)]
      exact has_L l v hl d (n + 1) (by omega)
theorem has_both (l : List Int) (v : Int) (hl : l.length ≤ 1048576) : spec_l1Has.F l v = slices_Contains_int_int.F l v ∧ ∃ b, slices_Contains_int_int.F l v = some b := by
  obtain ⟨b, j, h1, h2, h3⟩ := has_L l v hl l.length 0 (by omega)
  rw [spec_l1Has.F_eq, slices_Contains_int_int.F_eq, slices_Index_int_int.F_eq]
  rw [show ((0 : Nat) : Int) = 0 from rfl] at h1 h2
  rw [h1, h2, bsome, h3]
  exact ⟨rfl, b, rfl⟩
end Go.Proofs.Ytcjhnpbehkfknaa.X
