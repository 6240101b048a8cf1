/- 'is it within bounds', of a number and of all of a list: the program's way and the reference's. -/
import Derived.Test.YtcjhnpbehkfknaaXg1a
import Derived.Test.YtcjhnpbehkfknaaXg1c
import Derived.Test.YtcjhnpbehkfknaaXpBase
set_option linter.unusedVariables false
set_option linter.unusedSimpArgs false
namespace Go.Proofs.Ytcjhnpbehkfknaa.X
open Go.RowKit Go.Proofs.YtcjhnpbehkfknaaW.PrintWords Go.Proofs.YtcjhnpbehkfknaaW.PrintLast
theorem in_f (a b c : Int) : impl_in.f a b c = some (decide (b ≤ a ∧ a ≤ c)) := by
  unfold impl_in.f
  by_cases h : a ≥ b
  · rw [if_pos h]; congr 1; rw [decide_eq_decide]; omega
  · rw [if_neg h]; congr 1; symm; rw [decide_eq_false_iff_not]; omega
theorem l1In_f (a b c : Int) : spec_l1In.f a b c = some (decide (b ≤ a ∧ a ≤ c)) := by
  unfold spec_l1In.f
  by_cases h : a ≥ b
  · rw [if_pos h]; congr 1; rw [decide_eq_decide]; omega
  · rw [if_neg h]; congr 1; symm; rw [decide_eq_false_iff_not]; omega
def allIn (l : List Int) (a b : Int) : Bool := l.all fun x => decide (a ≤ x ∧ x ≤ b)
theorem allIn_drop (l : List Int) (a b : Int) (n : Nat) (h : n < l.length) : allIn (l.drop n) a b = (decide (a ≤ l.getD n 0 ∧ l.getD n 0 ≤ b) && allIn (l.drop (n + 1)) a b) := by
  unfold allIn
  rw [List.drop_eq_getElem_cons h, List.all_cons, List.getD_eq_getElem?_getD, List.getElem?_eq_getElem h]
  rfl
theorem l1All_L (l : List Int) (a b : Int) (hl : l.length ≤ 1048576) : ∀ d n : Nat, n + d = l.length → spec_l1All.L0 a b l l.length n = some (allIn (l.drop n) a b)
  | 0, n, h => by
    rw [spec_l1All.L0_eq, if_neg (by omega), List.drop_eq_nil_of_le (by omega)]; rfl
  | d + 1, n, h => by
    rw [spec_l1All.L0_eq, if_pos (by omega), if_pos (by omega), if_pos (by omega), l1In_f, bsome, rdn, wn (by omega), l1All_L l a b hl d (n + 1) (by omega), allIn_drop l a b n (by omega)]
    by_cases h1 : a ≤ l.getD n 0 ∧ l.getD n 0 ≤ b
    · simp only [decide_eq_true h1, if_true, Bool.true_and]
    · simp only [decide_eq_false h1, Bool.false_and]; rfl
theorem l1All_F (l : List Int) (a b : Int) (hl : l.length ≤ 1048576) : spec_l1All.F l a b = some (allIn l a b) := by
  rw [spec_l1All.F_eq]
  have := l1All_L l a b hl l.length 0 (by omega)
  simpa using this
end Go.Proofs.Ytcjhnpbehkfknaa.X
