/- Which lists of edges' numbers are let in: strictly rising, within bounds. -/
import Derived.Test.YtlcedciocmjggaaXg3e1fa
import Derived.Test.YtlcedciocmjggaaXg4a
import Derived.Test.YtlcedciocmjggaaXpBase
import Derived.Test.YtlcedciocmjggaaXpWithin
namespace Go.Proofs.Ytlcedciocmjggaa.X
open Go.RowKit Go.Proofs.YtlcedciocmjggaaW.PrintWords Go.Proofs.YtlcedciocmjggaaW.PrintLast
set_option linter.unusedVariables false
set_option linter.unusedSimpArgs false
def RisingFacts (l : List Int) (m : Int) : Prop := (∀ i, i < l.length → 0 ≤ l.getD i 0 ∧ l.getD i 0 ≤ m) ∧ ∀ i, i + 1 < l.length → l.getD i 0 < l.getD (i + 1) 0
theorem rising_L (l : List Int) (m : Int) (hl : l.length ≤ 1048576) : ∀ d n : Nat, n + d = l.length → (∀ i, i < n → 0 ≤ l.getD i 0 ∧ l.getD i 0 ≤ wrap64 (m - 1)) → (∀ i, i + 1 < n → l.getD i 0 < l.getD (i + 1) 0) →
    ∃ b, spec_l1Rising.L0 l 0 (wrap64 (m - 1)) l l.length n = some b ∧ impl_indicesOk.L0 l m l l.length n = some (b && decide ((l.length : Int) > 0)) ∧ (b = true → RisingFacts l (wrap64 (m - 1)))
  | 0, n, h, hf, hr => by
    have hn : n = l.length := by omega
    subst hn
    rw [spec_l1Rising.L0_eq, impl_indicesOk.L0_eq, if_neg (by omega), if_neg (by omega)]
    exact ⟨true, rfl, by rw [Bool.true_and], fun _ => ⟨hf, hr⟩⟩
  | d + 1, n, h, hf, hr => by
    have e1 : spec_l1Rising.L0 l 0 (wrap64 (m - 1)) l l.length n = if 0 ≤ l.getD n 0 ∧ l.getD n 0 ≤ wrap64 (m - 1) then (if n = 0 then spec_l1Rising.L0 l 0 (wrap64 (m - 1)) l l.length ((n + 1 : Nat) : Int) else if l.getD (n - 1) 0 ≥ l.getD n 0 then some false else spec_l1Rising.L0 l 0 (wrap64 (m - 1)) l l.length ((n + 1 : Nat) : Int)) else some false := by
      rw [spec_l1Rising.L0_eq, if_pos (by omega), if_pos (by omega), if_pos (by omega), l1In_f, bsome, rdn, wn (by omega)]
      by_cases h1 : 0 ≤ l.getD n 0 ∧ l.getD n 0 ≤ wrap64 (m - 1)
      · rw [if_pos (decide_eq_true h1), if_pos h1]
        by_cases h2 : n = 0
        · rw [if_pos h2, if_neg (by omega)]
        · have e2 : wrap64 ((n : Int) - 1) = ((n - 1 : Nat) : Int) := by rw [w64 (by omega) (by omega)]; omega
          rw [if_neg h2, if_pos (by omega), e2, if_pos (by omega), if_pos (by omega), rdn]
      · rw [if_neg h1, if_neg (by simpa using h1)]
    have e2 : impl_indicesOk.L0 l m l l.length n = if 0 ≤ l.getD n 0 ∧ l.getD n 0 ≤ wrap64 (m - 1) then (if n = 0 then impl_indicesOk.L0 l m l l.length ((n + 1 : Nat) : Int) else if l.getD (n - 1) 0 ≥ l.getD n 0 then some false else impl_indicesOk.L0 l m l l.length ((n + 1 : Nat) : Int)) else some false := by
      rw [impl_indicesOk.L0_eq, if_pos (by omega), if_pos (by omega), if_pos (by omega), in_f, bsome, rdn, wn (by omega)]
      by_cases h1 : 0 ≤ l.getD n 0 ∧ l.getD n 0 ≤ wrap64 (m - 1)
      · rw [if_pos (decide_eq_true h1), if_pos h1]
        by_cases h2 : n = 0
        · rw [if_pos h2, if_neg (by omega)]
        · have e2 : wrap64 ((n : Int) - 1) = ((n - 1 : Nat) : Int) := by rw [w64 (by omega) (by omega)]; omega
          rw [if_neg h2, if_pos (by omega), e2, if_pos (by omega), if_pos (by omega), rdn]
      · rw [if_neg h1, if_neg (by simpa using h1)]
    rw [e1, e2]
    by_cases h1 : 0 ≤ l.getD n 0 ∧ l.getD n 0 ≤ wrap64 (m - 1)
    · rw [if_pos h1, if_pos h1]
      have hn : ∀ i, i < n + 1 → 0 ≤ l.getD i 0 ∧ l.getD i 0 ≤ wrap64 (m - 1) := fun i hi => by
        by_cases hi2 : i = n
        · subst hi2
          exact h1
        · exact hf i (by omega)
      by_cases h2 : n = 0
      · rw [if_pos h2, if_pos h2]
        exact rising_L l m hl d (n + 1) (by omega) hn fun i hi => by omega
      · rw [if_neg h2, if_neg h2]
        by_cases h3 : l.getD (n - 1) 0 ≥ l.getD n 0
        · rw [if_pos h3, if_pos h3]
          exact ⟨false, rfl, rfl, fun e => by cases e⟩
        · rw [if_neg h3, if_neg h3]
          refine rising_L l m hl d (n + 1) (by omega) hn fun i hi => ?_
          by_cases hi2 : i + 1 = n
          · rw [hi2, show i = n - 1 from by omega]
            omega
          · exact hr i (by omega)
    · rw [if_neg h1, if_neg h1]
      exact ⟨false, rfl, rfl, fun e => by cases e⟩
theorem rising_both (l : List Int) (m : Int) (hl : l.length ≤ 1048576) : ∃ b, spec_l1Rising.F l 0 (wrap64 (m - 1)) = some b ∧ impl_indicesOk.F l m = some (b && decide ((l.length : Int) > 0)) ∧ (b = true → RisingFacts l (wrap64 (m - 1))) := by
  rw [spec_l1Rising.F_eq, impl_indicesOk.F_eq]
  exact rising_L l m hl l.length 0 (by omega) (fun i hi => by omega) (fun i hi => by omega)
end Go.Proofs.Ytlcedciocmjggaa.X
