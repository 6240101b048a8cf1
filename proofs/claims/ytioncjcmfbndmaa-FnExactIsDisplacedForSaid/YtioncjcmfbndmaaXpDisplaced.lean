/- 'IsDisplaced' of the program and of the reference tell the same. -/
import Derived.Test.YtioncjcmfbndmaaXg401a
import Derived.Test.YtioncjcmfbndmaaXpBase
import Derived.Test.YtioncjcmfbndmaaXpSeed
import Derived.Test.YtioncjcmfbndmaaXpWithin
namespace Go.Proofs.Ytioncjcmfbndmaa.X
open Go.RowKit Go.Proofs.YtioncjcmfbndmaaW.PrintWords Go.Proofs.YtioncjcmfbndmaaW.PrintLast
set_option linter.unusedVariables false
set_option linter.unusedSimpArgs false
theorem impl_IsDisplaced_1_L (l : List Int) (hl : l.length ≤ 1048576) : ∀ d n : Nat, n + d = l.length → ∃ j : Int, slices_IndexFunc_int_int_at_impl_IsDisplaced_1.L0 l l.length n = some j ∧ decide (j ≥ 0) = !(allIn (l.drop n) 0 999)
  | 0, n, h => by
    refine ⟨-1, ?_, ?_⟩
    · rw [slices_IndexFunc_int_int_at_impl_IsDisplaced_1.L0_eq, if_neg (by omega)]
    · rw [List.drop_eq_nil_of_le (by omega)]; rfl
  | d + 1, n, h => by
    rw [slices_IndexFunc_int_int_at_impl_IsDisplaced_1.L0_eq, if_pos (by omega), if_pos (by omega), if_pos (by omega), allIn_drop l _ _ n (by omega)]
    unfold impl_IsDisplaced_1.f
    rw [in_f, bsome, bsome, rdn]
    by_cases h1 : 0 ≤ l.getD n 0 ∧ l.getD n 0 ≤ 999
    · obtain ⟨j, hj, hd⟩ := impl_IsDisplaced_1_L l hl d (n + 1) (by omega)
      refine ⟨j, ?_, ?_⟩
      · simp only [decide_eq_true h1, Bool.not_true, Bool.false_eq_true, if_false]
        rw [wn (by omega), hj]
      · rw [hd, decide_eq_true h1]; rfl
    · refine ⟨n, ?_, ?_⟩
      · simp only [decide_eq_false h1, Bool.not_false, if_true]
      · rw [decide_eq_false h1, decide_eq_true (by omega)]; rfl
theorem impl_IsDisplaced_1_C (l : List Int) (hl : l.length ≤ 1048576) : slices_ContainsFunc_int_int_at_impl_IsDisplaced_1.F l = some (!(allIn l 0 999)) := by
  rw [slices_ContainsFunc_int_int_at_impl_IsDisplaced_1.F_eq, slices_IndexFunc_int_int_at_impl_IsDisplaced_1.F_eq]
  obtain ⟨j, hj, hd⟩ := impl_IsDisplaced_1_L l hl l.length 0 (by omega)
  have hj' : slices_IndexFunc_int_int_at_impl_IsDisplaced_1.L0 l l.length 0 = some j := hj
  rw [hj', bsome, hd]; rfl
def displacedB (s b m : Int) (l : List Int) : Bool := decide (0 ≤ s ∧ s ≤ 9999) && (decide (1 ≤ b ∧ b ≤ 24) && (decide (1 ≤ m ∧ m ≤ 64) && (decide ((l.length : Int) = b) && allIn l 0 999)))
theorem displaced_spec' (s b m : Int) (l : List Int) (hl : l.length ≤ 1048576) : spec_pfDisplaced.F s b m l = some (displacedB s b m l) := by
  rw [spec_pfDisplaced.F_eq, l1In_f, bsome, l1In_f, bsome, l1In_f, bsome, l1All_F l 0 999 hl]
  unfold displacedB
  by_cases h1 : 0 ≤ s ∧ s ≤ 9999
  · by_cases h2 : 1 ≤ b ∧ b ≤ 24
    · by_cases h4 : 1 ≤ m ∧ m ≤ 64
      · by_cases h3 : (l.length : Int) = b
        · simp only [h1, h2, h3, h4, decide_true, if_true, bsome, Bool.true_and, and_self]
        · simp only [h1, h2, h3, h4, decide_true, if_true, if_false, bsome, Bool.true_and, decide_false, Bool.false_and, and_self]
      · simp only [h1, h2, h4, decide_true, if_true, decide_false, Bool.false_and, Bool.true_and, bsome, and_self]; rfl
    · simp only [h1, h2, decide_true, if_true, decide_false, Bool.false_and, Bool.true_and, bsome, and_self]; rfl
  · simp only [h1, decide_false, Bool.false_and]; rfl
theorem displaced_impl (s b m : Int) (l : List Int) (hl : l.length ≤ 1048576) : impl_IsDisplaced.F s b m l = some (displacedB s b m l) := by
  rw [impl_IsDisplaced.F_eq, impl_IsDisplaced_1_C l hl, bsome, isSeed_f, bsome, in_f, bsome, in_f, bsome]
  unfold displacedB
  by_cases h0 : allIn l 0 999 = true
  · simp only [h0, Bool.not_true, Bool.false_eq_true, if_false, Bool.and_true]
    by_cases h1 : 0 ≤ s ∧ s ≤ 9999
    · by_cases h2 : 1 ≤ b ∧ b ≤ 24
      · by_cases h4 : 1 ≤ m ∧ m ≤ 64
        · simp only [h1, h2, h4, decide_true, if_true, Bool.true_and, and_self]
          first | rfl | (congr 1; rw [Bool.eq_iff_iff]; simp)
        · simp only [h1, h2, h4, decide_true, if_true, decide_false, Bool.false_and, Bool.true_and, and_self]; rfl
      · simp only [h1, h2, decide_true, if_true, decide_false, Bool.false_and, Bool.true_and, and_self]; rfl
    · simp only [h1, decide_false, Bool.false_and]; rfl
  · have h0' : allIn l 0 999 = false := by simpa using h0
    simp only [h0', Bool.not_false, if_true, Bool.and_false]
end Go.Proofs.Ytioncjcmfbndmaa.X
