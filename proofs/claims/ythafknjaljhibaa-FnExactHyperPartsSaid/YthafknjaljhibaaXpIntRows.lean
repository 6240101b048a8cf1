/- What the laws' own helpers on lists of lists of whole numbers compute: a size's bound, a copy, an equality. -/
import Derived.Test.YthafknjaljhibaaXg1a
import Derived.Test.YthafknjaljhibaaXg1b
import Derived.Test.YthafknjaljhibaaXpBase
import Derived.Test.YthafknjaljhibaaXpInts
import Derived.Test.YthafknjaljhibaaXpRowEq
set_option linter.unusedVariables false
set_option linter.unusedSimpArgs false
namespace Go.Proofs.Ythafknjaljhibaa.X
open Go.RowKit Go.Proofs.YthafknjaljhibaaW.PrintWords Go.Proofs.YthafknjaljhibaaW.PrintLast
theorem szIntSS_L (l : List (List Int)) (hl : l.length ≤ 9223372036854775807) (hs : ∀ s ∈ l, s.length ≤ 9223372036854775807) : ∀ (d n : Nat) (a : Int), n + d = l.length → 0 ≤ a → a ≤ 1048576 → laws_szIntSS.L0 l a n = some (-1) ∨ ∃ r, laws_szIntSS.L0 l a n = some r ∧ 0 ≤ r ∧ r ≤ a ∧ ∀ i, n ≤ i → i < l.length → (l.getD i []).length ≤ 1048576
  | 0, n, a, h, h0, h1 => by
    rw [laws_szIntSS.L0_eq, if_neg (by omega)]
    exact Or.inr ⟨a, rfl, h0, by omega, fun i hi hi' => by omega⟩
  | d + 1, n, a, h, h0, h1 => by
    have hz := hs _ (getD_mem l [] n (by omega))
    rw [laws_szIntSS.L0_eq, if_pos (by omega), if_pos (by omega), rdr]
    rcases szIntS_f (l.getD n []) a hz h0 h1 with h2 | ⟨h2, h3⟩
    · rw [h2, bsome, if_pos (by omega)]; exact Or.inl rfl
    · rw [h2, bsome, if_neg (by omega), wn (by omega)]
      rcases szIntSS_L l hl hs d (n + 1) (a - ((l.getD n []).length : Int)) (by omega) (by omega) (by omega) with h4 | ⟨r, h4, h5, h6, h7⟩
      · exact Or.inl h4
      · refine Or.inr ⟨r, h4, h5, by omega, fun i hi hi' => ?_⟩
        rcases Nat.lt_or_ge n i with h8 | h8
        · exact h7 i h8 hi'
        · obtain rfl : i = n := by omega
          omega
theorem szIntSS_F (l : List (List Int)) (a : Int) (hl : l.length ≤ 9223372036854775807) (hs : ∀ s ∈ l, s.length ≤ 9223372036854775807) (h0 : 0 ≤ a) (h1 : a ≤ 1048576) : laws_szIntSS.F l a = some (-1) ∨ ∃ r, laws_szIntSS.F l a = some r ∧ 0 ≤ r ∧ r ≤ a ∧ l.length ≤ 1048576 ∧ ∀ i, i < l.length → (l.getD i []).length ≤ 1048576 := by
  rw [laws_szIntSS.F_eq, w64 (by omega) (by omega)]
  by_cases h2 : a - (l.length : Int) < 0
  · rw [if_pos h2]; exact Or.inl rfl
  · rw [if_neg h2]
    rcases szIntSS_L l hl hs l.length 0 (a - (l.length : Int)) (by omega) (by omega) (by omega) with h3 | ⟨r, h3, h4, h5, h6⟩
    · exact Or.inl h3
    · exact Or.inr ⟨r, h3, h4, by omega, by omega, fun i hi => h6 i (Nat.zero_le _) hi⟩
theorem toIntSS_L (l : List (List Int)) (hl : l.length ≤ 1048576) (hs : ∀ i, i < l.length → (l.getD i []).length ≤ 1048576) : ∀ d n : Nat, n + d = l.length → laws_toIntSS.L0 l (l.take n ++ List.replicate (l.length - n) []) n = some l
  | 0, n, h => by
    rw [laws_toIntSS.L0_eq, if_neg (by omega)]
    have : n = l.length := by omega
    subst this
    simp
  | d + 1, n, h => by
    rw [laws_toIntSS.L0_eq, if_pos (by omega), if_pos (by omega), rdr, toIntS_F _ (hs n (by omega)), bsome, if_pos (by simp; omega), Int.toNat_natCast, set_step l _ _ n (by omega), wn (by omega)]
    exact toIntSS_L l hl hs d (n + 1) (by omega)
theorem toIntSS_F (l : List (List Int)) (hl : l.length ≤ 1048576) (hs : ∀ i, i < l.length → (l.getD i []).length ≤ 1048576) : laws_toIntSS.F l = some l := by
  rw [laws_toIntSS.F_eq, if_pos (by omega), if_pos (by omega)]
  have := toIntSS_L l hl hs l.length 0 (by omega)
  simpa using this
end Go.Proofs.Ythafknjaljhibaa.X
