/- 'is it on the list', of the reference. -/
import Derived.Test.YthafknjaljhibaaXg1a
import Derived.Test.YthafknjaljhibaaXpBase
set_option linter.unusedVariables false
set_option linter.unusedSimpArgs false
namespace Go.Proofs.Ythafknjaljhibaa.X
open Go.RowKit Go.Proofs.YthafknjaljhibaaW.PrintWords Go.Proofs.YthafknjaljhibaaW.PrintLast
theorem hasF_drop (l : List Int) (v : Int) (n : Nat) (h : n < l.length) : (v ∈ l.drop n) ↔ (v = l.getD n 0 ∨ v ∈ l.drop (n + 1)) := by
  rw [List.drop_eq_getElem_cons h, List.mem_cons, List.getD_eq_getElem?_getD, List.getElem?_eq_getElem h]; rfl
theorem has_FL (l : List Int) (v : Int) (hl : l.length ≤ 1048576) : ∀ d n : Nat, n + d = l.length → spec_l1Has.L0 v l l.length n = some (decide (v ∈ l.drop n))
  | 0, n, h => by
    rw [spec_l1Has.L0_eq, if_neg (by omega), List.drop_eq_nil_of_le (by omega)]; simp
  | d + 1, n, h => by
    rw [spec_l1Has.L0_eq, if_pos (by omega), if_pos (by omega), if_pos (by omega), rdn]
    have hd := hasF_drop l v n (by omega)
    by_cases h1 : l.getD n 0 = v
    · rw [if_pos h1, decide_eq_true (hd.2 (Or.inl h1.symm))]
    · rw [if_neg h1, wn (by omega), has_FL l v hl d (n + 1) (by omega)]
      congr 1
      rw [decide_eq_decide, hd]
      exact ⟨Or.inr, fun h2 => h2.elim (fun h3 => absurd h3.symm h1) id⟩
theorem has_F (l : List Int) (v : Int) (hl : l.length ≤ 1048576) : spec_l1Has.F l v = some (decide (v ∈ l)) := by
  rw [spec_l1Has.F_eq]
  have := has_FL l v hl l.length 0 (by omega)
  rw [List.drop_zero] at this
  exact this
end Go.Proofs.Ythafknjaljhibaa.X
