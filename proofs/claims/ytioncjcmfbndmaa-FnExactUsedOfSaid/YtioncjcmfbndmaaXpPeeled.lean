/- 'IsPeeled' of the program and of the reference tell the same. -/
import Derived.Test.YtioncjcmfbndmaaXg8c8a
import Derived.Test.YtioncjcmfbndmaaXgaeaa
import Derived.Test.YtioncjcmfbndmaaXpBase
import Derived.Test.YtioncjcmfbndmaaXpSeed
import Derived.Test.YtioncjcmfbndmaaXpWithin
namespace Go.Proofs.Ytioncjcmfbndmaa.X
open Go.RowKit Go.Proofs.YtioncjcmfbndmaaW.PrintWords Go.Proofs.YtioncjcmfbndmaaW.PrintLast
set_option linter.unusedVariables false
set_option linter.unusedSimpArgs false
theorem impl_IsPeeled_1_L (l : List Int) (hl : l.length ≤ 1048576) : ∀ d n : Nat, n + d = l.length → ∃ j : Int, slices_IndexFunc_int_int_at_impl_IsPeeled_1.L0 l l.length n = some j ∧ decide (j ≥ 0) = !(allIn (l.drop n) 0 3)
  | 0, n, h => by
    refine ⟨-1, ?_, ?_⟩
    · rw [slices_IndexFunc_int_int_at_impl_IsPeeled_1.L0_eq, if_neg (by omega)]
    · rw [List.drop_eq_nil_of_le (by omega)]; rfl
  | d + 1, n, h => by
    rw [slices_IndexFunc_int_int_at_impl_IsPeeled_1.L0_eq, if_pos (by omega), if_pos (by omega), if_pos (by omega), allIn_drop l _ _ n (by omega)]
    unfold impl_IsPeeled_1.f
    rw [in_f, bsome, bsome, rdn]
    by_cases h1 : 0 ≤ l.getD n 0 ∧ l.getD n 0 ≤ 3
    · obtain ⟨j, hj, hd⟩ := impl_IsPeeled_1_L l hl d (n + 1) (by omega)
      refine ⟨j, ?_, ?_⟩
      · simp only [decide_eq_true h1, Bool.not_true, Bool.false_eq_true, if_false]
        rw [wn (by omega), hj]
      · rw [hd, decide_eq_true h1]; rfl
    · refine ⟨n, ?_, ?_⟩
      · simp only [decide_eq_false h1, Bool.not_false, if_true]
      · rw [decide_eq_false h1, decide_eq_true (by omega)]; rfl
theorem impl_IsPeeled_1_C (l : List Int) (hl : l.length ≤ 1048576) : slices_ContainsFunc_int_int_at_impl_IsPeeled_1.F l = some (!(allIn l 0 3)) := by
  rw [slices_ContainsFunc_int_int_at_impl_IsPeeled_1.F_eq, slices_IndexFunc_int_int_at_impl_IsPeeled_1.F_eq]
  obtain ⟨j, hj, hd⟩ := impl_IsPeeled_1_L l hl l.length 0 (by omega)
  have hj' : slices_IndexFunc_int_int_at_impl_IsPeeled_1.L0 l l.length 0 = some j := hj
  rw [hj', bsome, hd]; rfl
def peeledB (s g : Int) (l : List Int) : Bool := decide (0 ≤ s ∧ s ≤ 9999) && (decide (1 ≤ g ∧ g ≤ 24) && (decide ((l.length : Int) = 3 * g) && allIn l 0 3))
theorem peeled_spec' (s g : Int) (l : List Int) (hl : l.length ≤ 1048576) : spec_pfPeeled.F s g l = some (peeledB s g l) := by
  rw [spec_pfPeeled.F_eq, l1In_f, bsome, l1In_f, bsome]
  unfold peeledB
  by_cases h1 : 0 ≤ s ∧ s ≤ 9999
  · by_cases h2 : 1 ≤ g ∧ g ≤ 24
    · rw [w64 (by omega) (by omega), l1All_F l 0 3 hl]
      by_cases h3 : (l.length : Int) = 3 * g
      · simp only [h1, h2, h3, decide_true, if_true, bsome, Bool.true_and, and_self]
      · simp only [h1, h2, h3, decide_true, if_true, if_false, bsome, Bool.true_and, decide_false, Bool.false_and, and_self]
    · simp only [h1, h2, decide_true, if_true, decide_false, Bool.false_and, Bool.and_false, Bool.true_and, bsome, and_self]; rfl
  · simp only [h1, decide_false, Bool.false_and]; rfl
theorem segmentOk_f (g : Int) : impl_segmentOk.f g = some (decide (1 ≤ g ∧ g ≤ 24)) := by
  unfold impl_segmentOk.f
  rw [in_f]; rfl
theorem peeled_impl (s g : Int) (l : List Int) (hl : l.length ≤ 1048576) : impl_IsPeeled.F s g l = some (peeledB s g l) := by
  rw [impl_IsPeeled.F_eq, impl_IsPeeled_1_C l hl, bsome, isSeed_f, bsome, segmentOk_f, bsome]
  unfold peeledB
  by_cases h0 : allIn l 0 3 = true
  · simp only [h0, Bool.not_true, Bool.false_eq_true, if_false, Bool.and_true]
    by_cases h1 : 0 ≤ s ∧ s ≤ 9999
    · by_cases h2 : 1 ≤ g ∧ g ≤ 24
      · rw [w64 (by omega) (by omega)]
        simp only [h1, h2, decide_true, if_true, Bool.true_and, and_self]
        first | rfl | (congr 1; rw [Bool.eq_iff_iff]; simp)
      · simp only [h1, h2, decide_true, if_true, decide_false, Bool.false_and, Bool.true_and, and_self]; rfl
    · simp only [h1, decide_false, Bool.false_and]; rfl
  · have h0' : allIn l 0 3 = false := by simpa using h0
    simp only [h0', Bool.not_false, if_true, Bool.and_false]
end Go.Proofs.Ytioncjcmfbndmaa.X
