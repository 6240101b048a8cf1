/- Which lists of numbers go into a sparse set: the program and the reference ask the same. -/
import Derived.Test.YtknofkpmeobhbaaXg1a
import Derived.Test.YtknofkpmeobhbaaXg1b
import Derived.Test.YtknofkpmeobhbaaXg1c
import Derived.Test.YtknofkpmeobhbaaXg1d
import Derived.Test.YtknofkpmeobhbaaXpBase
import Derived.Test.YtknofkpmeobhbaaXpWithin
set_option linter.unusedVariables false
set_option linter.unusedSimpArgs false
namespace Go.Proofs.Ytknofkpmeobhbaa.X
open Go.RowKit Go.Proofs.YtknofkpmeobhbaaW.PrintWords Go.Proofs.YtknofkpmeobhbaaW.PrintLast
theorem limitOk_f (a : Int) : impl_limitOk.f a = some (decide (1 ≤ a ∧ a ≤ 100000)) := by
  unfold impl_limitOk.f
  rw [in_f]; rfl
theorem spLimit_f (a : Int) : spec_spLimit.f a = some (decide (1 ≤ a ∧ a ≤ 100000)) := by
  unfold spec_spLimit.f
  rw [l1In_f]; rfl
/-- What a list that is let in is known to be. -/
def SortedFacts (l : List Int) (m : Int) : Prop := (1 ≤ m ∧ m ≤ 100000) ∧ l.length ≤ 60 ∧ (∀ i, i < l.length → 0 ≤ l.getD i 0 ∧ l.getD i 0 ≤ m - 1) ∧ ∀ i, i + 1 < l.length → l.getD i 0 ≤ l.getD (i + 1) 0
theorem sorted_L (l : List Int) (m : Int) (hl : l.length ≤ 1048576) : ∀ d n : Nat, n + d = l.length → ((1 ≤ m ∧ m ≤ 100000) → (∀ i, i < n → 0 ≤ l.getD i 0 ∧ l.getD i 0 ≤ m - 1) ∧ ∀ i, i + 1 < n → l.getD i 0 ≤ l.getD (i + 1) 0) →
    ∃ b, spec_spSorted.L0 l m l l.length n = some b ∧ impl_sortedOk.L0 l m l l.length n = some b ∧ (b = true → SortedFacts l m)
  | 0, n, h, hf => by
    have e1 : spec_spSorted.L0 l m l l.length n = if (l.length : Int) ≤ 60 then some (decide (1 ≤ m ∧ m ≤ 100000)) else some false := by
      rw [spec_spSorted.L0_eq, if_neg (by omega), spLimit_f]; rfl
    have e2 : impl_sortedOk.L0 l m l l.length n = if decide (1 ≤ m ∧ m ≤ 100000) = true then some (decide ((l.length : Int) ≤ 60)) else some false := by
      rw [impl_sortedOk.L0_eq, if_neg (by omega), limitOk_f]; rfl
    rw [e1, e2]
    have : n = l.length := by omega
    subst this
    by_cases h1 : 1 ≤ m ∧ m ≤ 100000
    · by_cases h2 : (l.length : Int) ≤ 60
      · rw [if_pos h2, decide_eq_true h1, decide_eq_true h2]
        exact ⟨true, rfl, rfl, fun _ => ⟨h1, by omega, (hf h1).1, (hf h1).2⟩⟩
      · rw [if_neg h2, decide_eq_true h1, decide_eq_false h2]
        exact ⟨false, rfl, rfl, fun e => by cases e⟩
    · rw [decide_eq_false h1]
      refine ⟨false, ?_, rfl, fun e => by cases e⟩
      split <;> rfl
  | d + 1, n, h, hf => by
    have e1 : spec_spSorted.L0 l m l l.length n = if 0 ≤ l.getD n 0 ∧ l.getD n 0 ≤ wrap64 (m - 1) then (if n = 0 then spec_spSorted.L0 l m l l.length ((n + 1 : Nat) : Int) else if l.getD (n - 1) 0 > l.getD n 0 then some false else spec_spSorted.L0 l m l l.length ((n + 1 : Nat) : Int)) else some false := by
      rw [spec_spSorted.L0_eq, if_pos (by omega), if_pos (by omega), if_pos (by omega), l1In_f, bsome, rdn, wn (by omega)]
      by_cases h1 : 0 ≤ l.getD n 0 ∧ l.getD n 0 ≤ wrap64 (m - 1)
      · rw [if_pos (decide_eq_true h1), if_pos h1]
        by_cases h2 : n = 0
        · rw [if_pos h2, if_neg (by omega)]
        · have e2 : wrap64 ((n : Int) - 1) = ((n - 1 : Nat) : Int) := by rw [w64 (by omega) (by omega)]; omega
          rw [if_neg h2, if_pos (by omega), e2, if_pos (by omega), if_pos (by omega), rdn]
      · rw [if_neg h1, if_neg (by simpa using h1)]
    have e2 : impl_sortedOk.L0 l m l l.length n = if 0 ≤ l.getD n 0 ∧ l.getD n 0 ≤ wrap64 (m - 1) then (if n = 0 then impl_sortedOk.L0 l m l l.length ((n + 1 : Nat) : Int) else if l.getD (n - 1) 0 > l.getD n 0 then some false else impl_sortedOk.L0 l m l l.length ((n + 1 : Nat) : Int)) else some false := by
      rw [impl_sortedOk.L0_eq, if_pos (by omega), if_pos (by omega), if_pos (by omega), in_f, bsome, rdn, wn (by omega)]
      by_cases h1 : 0 ≤ l.getD n 0 ∧ l.getD n 0 ≤ wrap64 (m - 1)
      · rw [if_pos (decide_eq_true h1), if_pos h1]
        by_cases h2 : n = 0
        · rw [if_pos h2, if_neg (by omega)]
        · have e2 : wrap64 ((n : Int) - 1) = ((n - 1 : Nat) : Int) := by rw [w64 (by omega) (by omega)]; omega
          rw [if_neg h2, if_pos (by omega), e2, if_pos (by omega), if_pos (by omega), rdn]
      · rw [if_neg h1, if_neg (by simpa using h1)]
    rw [e1, e2]
    have e3 : (1 ≤ m ∧ m ≤ 100000) → wrap64 (m - 1) = m - 1 := fun hm => w64 (by omega) (by omega)
    by_cases h1 : 0 ≤ l.getD n 0 ∧ l.getD n 0 ≤ wrap64 (m - 1)
    · rw [if_pos h1, if_pos h1]
      have hn : (1 ≤ m ∧ m ≤ 100000) → ∀ i, i < n + 1 → 0 ≤ l.getD i 0 ∧ l.getD i 0 ≤ m - 1 := fun hm i hi => by
        by_cases hi2 : i = n
        · subst hi2
          rw [e3 hm] at h1
          exact h1
        · exact (hf hm).1 i (by omega)
      by_cases h2 : n = 0
      · rw [if_pos h2, if_pos h2]
        exact sorted_L l m hl d (n + 1) (by omega) fun hm => ⟨hn hm, fun i hi => by omega⟩
      · rw [if_neg h2, if_neg h2]
        by_cases h3 : l.getD (n - 1) 0 > l.getD n 0
        · rw [if_pos h3, if_pos h3]
          exact ⟨false, rfl, rfl, fun e => by cases e⟩
        · rw [if_neg h3, if_neg h3]
          refine sorted_L l m hl d (n + 1) (by omega) fun hm => ⟨hn hm, fun i hi => ?_⟩
          by_cases hi2 : i + 1 = n
          · rw [hi2, show i = n - 1 from by omega]
            omega
          · exact (hf hm).2 i (by omega)
    · rw [if_neg h1, if_neg h1]
      exact ⟨false, rfl, rfl, fun e => by cases e⟩
theorem sorted_both (l : List Int) (m : Int) (hl : l.length ≤ 1048576) : ∃ b, spec_spSorted.F l m = some b ∧ impl_sortedOk.F l m = some b ∧ (b = true → SortedFacts l m) := by
  rw [spec_spSorted.F_eq, impl_sortedOk.F_eq]
  exact sorted_L l m hl l.length 0 (by omega) fun _ => ⟨fun i hi => by omega, fun i hi => by omega⟩
end Go.Proofs.Ytknofkpmeobhbaa.X
