/- How many numbers of a sorted list lie below a bound: the reference counts, the program searches by halves. -/
import Derived.Test.YtcgakiihochafaaXg1d
import Derived.Test.YtcgakiihochafaaXg1e
import Derived.Test.YtcgakiihochafaaXpBase
set_option linter.unusedVariables false
set_option linter.unusedSimpArgs false
namespace Go.Proofs.Ytcgakiihochafaa.X
open Go.RowKit Go.Proofs.YtcgakiihochafaaW.PrintWords Go.Proofs.YtcgakiihochafaaW.PrintLast
theorem less_f (a b : Int) : cmp_Less_int.f a b = some (decide (a < b)) := by
  unfold cmp_Less_int.f cmp_isNaN_int.f
  simp
theorem u64_small {x : Int} (h0 : 0 ≤ x) (h1 : x ≤ 9223372036854775807) : IntKind.wrap .u64 x = x := by
  have : IntKind.wrap .u64 x = x % 18446744073709551616 := by simp [IntKind.wrap, IntKind.bits, IntKind.signed]
  rw [this]
  omega
theorem mono_of (l : List Int) (h : ∀ i, i + 1 < l.length → l.getD i 0 ≤ l.getD (i + 1) 0) : ∀ d i : Nat, i + d < l.length → l.getD i 0 ≤ l.getD (i + d) 0
  | 0, i, hi => Int.le_refl _
  | d + 1, i, hi => by
    have h1 := mono_of l h d i (by omega)
    have h2 := h (i + d) (by omega)
    exact Int.le_trans h1 h2
theorem search_L (l : List Int) (v : Int) (hl : l.length ≤ 60) (hm : ∀ i, i + 1 < l.length → l.getD i 0 ≤ l.getD (i + 1) 0) : ∀ d i j : Nat, j ≤ i + d → i ≤ j → j ≤ l.length → (∀ k, k < i → l.getD k 0 < v) → (∀ k, j ≤ k → k < l.length → v ≤ l.getD k 0) →
    ∃ (c : Nat) (b : Bool), slices_BinarySearch_int_int.L0 l v l.length i j = some ((c : Int), b) ∧ c ≤ l.length ∧ (∀ k, k < c → l.getD k 0 < v) ∧ ∀ k, c ≤ k → k < l.length → v ≤ l.getD k 0
  | 0, i, j, hd, hij, hj, hlo, hhi => by
    have hji : j = i := by omega
    subst hji
    rw [slices_BinarySearch_int_int.L0_eq, if_neg (by omega)]
    by_cases h1 : (j : Int) < (l.length : Int)
    · rw [if_pos h1, if_pos (by omega), if_pos h1, rdn]
      by_cases h2 : l.getD j 0 = v
      · rw [if_pos h2]
        exact ⟨j, true, rfl, hj, hlo, hhi⟩
      · rw [if_neg h2]
        unfold slices_isNaN_int.f
        rw [bsome, if_neg (by simp)]
        exact ⟨j, false, rfl, hj, hlo, hhi⟩
    · rw [if_neg h1]
      exact ⟨j, false, rfl, hj, hlo, hhi⟩
  | d + 1, i, j, hd, hij, hj, hlo, hhi => by
    by_cases hlt : i < j
    · have em : wrap64 ((IntKind.wrap .u64 (wrap64 ((i : Int) + (j : Int)))) / 2) = (((i + j) / 2 : Nat) : Int) := by
        rw [w64 (x := (i : Int) + (j : Int)) (by omega) (by omega), u64_small (by omega) (by omega), w64 (by omega) (by omega)]
        omega
      have e : slices_BinarySearch_int_int.L0 l v l.length i j = if l.getD ((i + j) / 2) 0 < v then slices_BinarySearch_int_int.L0 l v l.length (((i + j) / 2 + 1 : Nat) : Int) j else slices_BinarySearch_int_int.L0 l v l.length i (((i + j) / 2 : Nat) : Int) := by
        rw [slices_BinarySearch_int_int.L0_eq, if_pos (by omega), em, if_pos (by omega), if_pos (by omega), rdn, less_f, bsome, wn (by omega)]
        by_cases h : l.getD ((i + j) / 2) 0 < v
        · rw [if_pos (decide_eq_true h), if_pos h]
        · rw [decide_eq_false h, if_neg (by decide), if_neg h]
      rw [e]
      by_cases h : l.getD ((i + j) / 2) 0 < v
      · rw [if_pos h]
        refine search_L l v hl hm d _ j (by omega) (by omega) hj (fun k hk => ?_) hhi
        have := mono_of l hm ((i + j) / 2 - k) k (by omega)
        rw [show k + ((i + j) / 2 - k) = (i + j) / 2 from by omega] at this
        omega
      · rw [if_neg h]
        refine search_L l v hl hm d i _ (by omega) (by omega) (by omega) hlo (fun k hk hk2 => ?_)
        have := mono_of l hm (k - (i + j) / 2) ((i + j) / 2) (by omega)
        rw [show (i + j) / 2 + (k - (i + j) / 2) = k from by omega] at this
        omega
    · exact search_L l v hl hm 0 i j (by omega) hij hj hlo hhi
end Go.Proofs.Ytcgakiihochafaa.X
