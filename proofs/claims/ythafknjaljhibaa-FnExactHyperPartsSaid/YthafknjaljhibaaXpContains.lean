/- The library's search in a list of whole numbers. -/
import Derived.Test.YthafknjaljhibaaXg1b
import Derived.Test.YthafknjaljhibaaXpBase
set_option linter.unusedVariables false
set_option linter.unusedSimpArgs false
namespace Go.Proofs.Ythafknjaljhibaa.X
open Go.RowKit Go.Proofs.YthafknjaljhibaaW.PrintWords Go.Proofs.YthafknjaljhibaaW.PrintLast
theorem mem_drop_step (l : List Int) (v : Int) (n : Nat) (h : n < l.length) : (v ∈ l.drop n) ↔ (v = l.getD n 0 ∨ v ∈ l.drop (n + 1)) := by
  rw [List.drop_eq_getElem_cons h, List.mem_cons, List.getD_eq_getElem?_getD, List.getElem?_eq_getElem h]
  rfl
theorem index_L (l : List Int) (v : Int) (hl : l.length ≤ 1048576) : ∀ d n : Nat, n + d = l.length → ∃ j : Int, slices_Index_int_int.L0 l v l.length n = some j ∧ decide (j ≥ 0) = decide (v ∈ l.drop n)
  | 0, n, h => by
    rw [slices_Index_int_int.L0_eq, if_neg (by omega), List.drop_eq_nil_of_le (by omega)]
    exact ⟨-1, rfl, by simp⟩
  | d + 1, n, h => by
    have e2 : slices_Index_int_int.L0 l v l.length n = if v = l.getD n 0 then some (n : Int) else slices_Index_int_int.L0 l v l.length ((n + 1 : Nat) : Int) := by
      rw [slices_Index_int_int.L0_eq, if_pos (by omega), if_pos (by omega), if_pos (by omega), rdn, wn (by omega)]
    have hm := mem_drop_step l v n (by omega)
    rw [e2]
    by_cases hq : v = l.getD n 0
    · rw [if_pos hq]
      exact ⟨n, rfl, by rw [decide_eq_true (hm.mpr (.inl hq)), decide_eq_true (by omega)]⟩
    · rw [if_neg hq]
      obtain ⟨j, h1, h2⟩ := index_L l v hl d (n + 1) (by omega)
      refine ⟨j, h1, h2.trans ?_⟩
      rw [decide_eq_decide, hm]
      exact ⟨.inr, fun x => x.resolve_left hq⟩
theorem contains_F (l : List Int) (v : Int) (hl : l.length ≤ 1048576) : slices_Contains_int_int.F l v = some (decide (v ∈ l)) := by
  obtain ⟨j, h1, h2⟩ := index_L l v hl l.length 0 (by omega)
  rw [show ((0 : Nat) : Int) = 0 from rfl] at h1
  rw [slices_Contains_int_int.F_eq, slices_Index_int_int.F_eq, h1, bsome, h2]
  rfl
end Go.Proofs.Ythafknjaljhibaa.X
