/- Are all numbers of a list different: what the program's set tells. -/
import Derived.Test.YtioncjcmfbndmaaXg404a
import Derived.Test.YtioncjcmfbndmaaXpBase
namespace Go.Proofs.Ytioncjcmfbndmaa.X
open Go.RowKit Go.Proofs.YtioncjcmfbndmaaW.PrintWords Go.Proofs.YtioncjcmfbndmaaW.PrintLast
set_option linter.unusedVariables false
set_option linter.unusedSimpArgs false
def nd : List Int → List Int → Bool
  | _, [] => true
  | acc, x :: xs => if x ∈ acc then false else nd (acc ++ [x]) xs
theorem nd_cons (acc : List Int) (x : Int) (xs : List Int) : nd acc (x :: xs) = if x ∈ acc then false else nd (acc ++ [x]) xs := rfl
theorem cons_drop {α : Type} (l : List α) (d : α) (n : Nat) (h : n < l.length) : l.drop n = l.getD n d :: l.drop (n + 1) := by
  rw [List.drop_eq_getElem_cons h, List.getD_eq_getElem?_getD, List.getElem?_eq_getElem h]; rfl
theorem distinct_L (l : List Int) (hl : l.length ≤ 1048576) : ∀ (d n : Nat) (acc : List Int), n + d = l.length → impl_distinct.L0 acc l n = some (nd acc (l.drop n))
  | 0, n, acc, h => by rw [impl_distinct.L0_eq, if_neg (by omega), List.drop_eq_nil_of_le (by omega)]; rfl
  | d + 1, n, acc, h => by
    rw [impl_distinct.L0_eq, if_pos (by omega), if_pos (by omega), rdn, wn (by omega), cons_drop l 0 n (by omega), nd_cons]
    by_cases h1 : l.getD n 0 ∈ acc
    · rw [if_pos h1, if_pos h1]
    · rw [if_neg h1, if_neg h1, distinct_L l hl d (n + 1) _ (by omega)]
theorem distinct_F (l : List Int) (hl : l.length ≤ 1048576) (hw : ∀ x ∈ l, wfI .i64 x) : impl_distinct.F l = some (nd [] l) := by
  rw [impl_distinct.F_eq, if_pos (by omega), if_pos (show ∀ x ∈ l, (Lit.int .i64 x).wf = true from hw)]
  have := distinct_L l hl l.length 0 [] (by omega)
  rw [List.drop_zero] at this
  exact this
theorem wf64 {x : Int} (h0 : -9223372036854775808 ≤ x) (h1 : x ≤ 9223372036854775807) : wfI .i64 x := by
  have e1 : IntKind.min .i64 = -9223372036854775808 := by decide
  have e2 : IntKind.max .i64 = 9223372036854775807 := by decide
  unfold wfI
  simp only [Lit.wf, e1, e2]
  simp
  omega
end Go.Proofs.Ytioncjcmfbndmaa.X
