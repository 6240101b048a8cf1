/- 'IsOrdered' of the program and of the reference tell the same. -/
import Derived.Test.YtioncjcmfbndmaaXg220a
import Derived.Test.YtioncjcmfbndmaaXg2eaa
import Derived.Test.YtioncjcmfbndmaaXpBase
import Derived.Test.YtioncjcmfbndmaaXpWithin
namespace Go.Proofs.Ytioncjcmfbndmaa.X
open Go.RowKit Go.Proofs.YtioncjcmfbndmaaW.PrintWords Go.Proofs.YtioncjcmfbndmaaW.PrintLast
set_option linter.unusedVariables false
set_option linter.unusedSimpArgs false
theorem impl_IsOrdered_1_L (l : List Int) (s g c : Int) (m : List Int) (hl : l.length ≤ 1048576) (hc : wrap64 (c - 1) = c - 1) : ∀ d n : Nat, n + d = l.length → ∃ j : Int, slices_IndexFunc_int_int_at_impl_IsOrdered_1.L0 l l.length n s g c m = some j ∧ decide (j ≥ 0) = !(allIn (l.drop n) 0 (c - 1))
  | 0, n, h => by
    refine ⟨-1, ?_, ?_⟩
    · rw [slices_IndexFunc_int_int_at_impl_IsOrdered_1.L0_eq, if_neg (by omega)]
    · rw [List.drop_eq_nil_of_le (by omega)]; rfl
  | d + 1, n, h => by
    rw [slices_IndexFunc_int_int_at_impl_IsOrdered_1.L0_eq, if_pos (by omega), if_pos (by omega), if_pos (by omega), allIn_drop l _ _ n (by omega)]
    unfold impl_IsOrdered_1.f
    rw [hc]; rw [in_f, bsome, bsome, rdn]
    by_cases h1 : 0 ≤ l.getD n 0 ∧ l.getD n 0 ≤ (c - 1)
    · obtain ⟨j, hj, hd⟩ := impl_IsOrdered_1_L l s g c m hl hc d (n + 1) (by omega)
      refine ⟨j, ?_, ?_⟩
      · simp only [decide_eq_true h1, Bool.not_true, Bool.false_eq_true, if_false]
        rw [wn (by omega), hj]
      · rw [hd, decide_eq_true h1]; rfl
    · refine ⟨n, ?_, ?_⟩
      · simp only [decide_eq_false h1, Bool.not_false, if_true]
      · rw [decide_eq_false h1, decide_eq_true (by omega)]; rfl
theorem impl_IsOrdered_1_C (l : List Int) (s g c : Int) (m : List Int) (hl : l.length ≤ 1048576) (hc : wrap64 (c - 1) = c - 1) : slices_ContainsFunc_int_int_at_impl_IsOrdered_1.F l s g c m = some (!(allIn l 0 (c - 1))) := by
  rw [slices_ContainsFunc_int_int_at_impl_IsOrdered_1.F_eq, slices_IndexFunc_int_int_at_impl_IsOrdered_1.F_eq]
  obtain ⟨j, hj, hd⟩ := impl_IsOrdered_1_L l s g c m hl hc l.length 0 (by omega)
  have hj' : slices_IndexFunc_int_int_at_impl_IsOrdered_1.L0 l l.length 0 s g c m = some j := hj
  rw [hj', bsome, hd]; rfl
def orderedB (s g c : Int) (l : List Int) : Bool := decide (0 ≤ s ∧ s ≤ 9999) && (decide (1 ≤ g ∧ g ≤ 24) && (decide (1 ≤ c ∧ c ≤ 40) && (decide ((l.length : Int) = 3 * g) && allIn l 0 (c - 1))))
theorem ordered_spec' (s g c : Int) (l : List Int) (hl : l.length ≤ 1048576) : spec_pfOrdered.F s g c l = some (orderedB s g c l) := by
  rw [spec_pfOrdered.F_eq, l1In_f, bsome, l1In_f, bsome, l1In_f, bsome]
  unfold orderedB
  by_cases h1 : 0 ≤ s ∧ s ≤ 9999
  · by_cases h2 : 1 ≤ g ∧ g ≤ 24
    · by_cases h4 : 1 ≤ c ∧ c ≤ 40
      · rw [w64 (by omega) (by omega), w64 (by omega) (by omega), l1All_F l 0 (c - 1) hl]
        by_cases h3 : (l.length : Int) = 3 * g
        · simp only [h1, h2, h3, h4, decide_true, if_true, bsome, Bool.true_and, and_self]
        · simp only [h1, h2, h3, h4, decide_true, if_true, if_false, bsome, Bool.true_and, decide_false, Bool.false_and, and_self]
      · simp only [h1, h2, h4, decide_true, if_true, decide_false, Bool.false_and, Bool.true_and, bsome, and_self]; rfl
    · simp only [h1, h2, decide_true, if_true, decide_false, Bool.false_and, Bool.true_and, bsome, and_self]; rfl
  · simp only [h1, decide_false, Bool.false_and]; rfl
theorem segmentOk_f' (g : Int) : impl_segmentOk.f g = some (decide (1 ≤ g ∧ g ≤ 24)) := by
  unfold impl_segmentOk.f
  rw [in_f]; rfl
theorem impl_IsOrdered_1_T (l : List Int) (s g c : Int) (m : List Int) : ∀ d n : Nat, n + d = l.length → l.length ≤ 1048576 → ∃ j : Int, slices_IndexFunc_int_int_at_impl_IsOrdered_1.L0 l l.length n s g c m = some j
  | 0, n, h, hl => by
    refine ⟨-1, ?_⟩
    rw [slices_IndexFunc_int_int_at_impl_IsOrdered_1.L0_eq, if_neg (by omega)]
  | d + 1, n, h, hl => by
    rw [slices_IndexFunc_int_int_at_impl_IsOrdered_1.L0_eq, if_pos (by omega), if_pos (by omega), if_pos (by omega)]
    unfold impl_IsOrdered_1.f
    rw [in_f, bsome, bsome]
    split
    · exact ⟨_, rfl⟩
    · rw [wn (by omega)]
      exact impl_IsOrdered_1_T l s g c m d (n + 1) (by omega) hl
theorem ordered_impl (s g c : Int) (l : List Int) (hl : l.length ≤ 1048576) : impl_IsOrdered.F s g c l = some (orderedB s g c l) := by
  by_cases hc : 1 ≤ c ∧ c ≤ 40
  · rw [impl_IsOrdered.F_eq, impl_IsOrdered_1_C l s g c l hl (w64 (by omega) (by omega)), bsome, isSeed_f, bsome, segmentOk_f', bsome, in_f, bsome]
    unfold orderedB
    by_cases h0 : allIn l 0 (c - 1) = true
    · simp only [h0, Bool.not_true, Bool.false_eq_true, if_false, Bool.and_true]
      by_cases h1 : 0 ≤ s ∧ s ≤ 9999
      · by_cases h2 : 1 ≤ g ∧ g ≤ 24
        · rw [w64 (by omega) (by omega)]
          simp only [h1, h2, hc, decide_true, if_true, Bool.true_and, and_self]
          first | rfl | (congr 1; rw [Bool.eq_iff_iff]; simp)
        · simp only [h1, h2, decide_true, if_true, decide_false, Bool.false_and, Bool.true_and, and_self]; rfl
      · simp only [h1, decide_false, Bool.false_and]; rfl
    · have h0' : allIn l 0 (c - 1) = false := by simpa using h0
      simp only [h0', Bool.not_false, if_true, Bool.and_false]
  · have hz : orderedB s g c l = false := by
      unfold orderedB
      simp only [hc, decide_false, Bool.false_and, Bool.and_false]
    rw [hz, impl_IsOrdered.F_eq, slices_ContainsFunc_int_int_at_impl_IsOrdered_1.F_eq, slices_IndexFunc_int_int_at_impl_IsOrdered_1.F_eq]
    obtain ⟨j, hj⟩ := impl_IsOrdered_1_T l s g c l l.length 0 (by omega) hl
    have hj' : slices_IndexFunc_int_int_at_impl_IsOrdered_1.L0 l l.length 0 s g c l = some j := hj
    rw [hj', bsome, bsome, isSeed_f, bsome, segmentOk_f', bsome, in_f, bsome]
    simp only [hc, decide_false]
    split <;> (try rfl) <;> split <;> (try rfl) <;> split <;> rfl
end Go.Proofs.Ytioncjcmfbndmaa.X
