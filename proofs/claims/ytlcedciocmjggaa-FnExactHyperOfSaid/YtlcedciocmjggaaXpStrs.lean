/- What the laws' own helpers on lists of strings compute: a size's bound, a copy, an equality. -/
import Derived.Test.YtlcedciocmjggaaXg40a
import Derived.Test.YtlcedciocmjggaaXpBase
namespace Go.Proofs.Ytlcedciocmjggaa.X
open Go.RowKit Go.Proofs.YtlcedciocmjggaaW.PrintWords Go.Proofs.YtlcedciocmjggaaW.PrintLast
set_option linter.unusedVariables false
set_option linter.unusedSimpArgs false
theorem szStringS_L (l : List ByteArray) (hl : l.length ≤ 9223372036854775807) (hs : ∀ s ∈ l, s.size ≤ 9223372036854775807) : ∀ (d n : Nat) (a : Int), n + d = l.length → 0 ≤ a → a ≤ 1048576 → laws_szStringS.L0 l a n = some (-1) ∨ ∃ r, laws_szStringS.L0 l a n = some r ∧ 0 ≤ r ∧ r ≤ a ∧ ∀ i, n ≤ i → i < l.length → (l.getD i ByteArray.empty).size ≤ 1048576
  | 0, n, a, h, h0, h1 => by
    rw [laws_szStringS.L0_eq, if_neg (by omega)]
    exact Or.inr ⟨a, rfl, h0, by omega, fun i hi hi' => by omega⟩
  | d + 1, n, a, h, h0, h1 => by
    have hz := hs _ (getD_mem l ByteArray.empty n (by omega))
    rw [laws_szStringS.L0_eq, if_pos (by omega), if_pos (by omega), rdOfn, w64 (by omega) (by omega)]
    by_cases h2 : a - ((l.getD n ByteArray.empty).size : Int) < 0
    · rw [if_pos h2]; exact Or.inl rfl
    · rw [if_neg h2, wn (by omega)]
      rcases szStringS_L l hl hs d (n + 1) (a - ((l.getD n ByteArray.empty).size : Int)) (by omega) (by omega) (by omega) with h3 | ⟨r, h3, h4, h5, h6⟩
      · exact Or.inl h3
      · refine Or.inr ⟨r, h3, h4, by omega, fun i hi hi' => ?_⟩
        rcases Nat.lt_or_ge n i with h7 | h7
        · exact h6 i h7 hi'
        · obtain rfl : i = n := by omega
          omega
theorem szStringS_F (l : List ByteArray) (a : Int) (hl : l.length ≤ 9223372036854775807) (hs : ∀ s ∈ l, s.size ≤ 9223372036854775807) (h0 : 0 ≤ a) (h1 : a ≤ 1048576) : laws_szStringS.F l a = some (-1) ∨ ∃ r, laws_szStringS.F l a = some r ∧ 0 ≤ r ∧ r ≤ a ∧ l.length ≤ 1048576 ∧ ∀ i, i < l.length → (l.getD i ByteArray.empty).size ≤ 1048576 := by
  rw [laws_szStringS.F_eq, w64 (by omega) (by omega)]
  by_cases h2 : a - (l.length : Int) < 0
  · rw [if_pos h2]; exact Or.inl rfl
  · rw [if_neg h2]
    rcases szStringS_L l hl hs l.length 0 (a - (l.length : Int)) (by omega) (by omega) (by omega) with h3 | ⟨r, h3, h4, h5, h6⟩
    · exact Or.inl h3
    · exact Or.inr ⟨r, h3, h4, by omega, by omega, fun i hi => h6 i (Nat.zero_le _) hi⟩
theorem toStringS_L (l : List ByteArray) (hl : l.length ≤ 1048576) : ∀ d n : Nat, n + d = l.length → laws_toStringS.L0 l (l.take n ++ List.replicate (l.length - n) (⟨#[]⟩ : ByteArray)) n = some l
  | 0, n, h => by
    rw [laws_toStringS.L0_eq, if_neg (by omega)]
    have : n = l.length := by omega
    subst this
    simp
  | d + 1, n, h => by
    rw [laws_toStringS.L0_eq, if_pos (by omega), if_pos (by omega), if_pos (by simp; omega), rdOfn, Int.toNat_natCast, set_step l _ _ n (by omega), wn (by omega)]
    exact toStringS_L l hl d (n + 1) (by omega)
theorem toStringS_F (l : List ByteArray) (hl : l.length ≤ 1048576) : laws_toStringS.F l = some l := by
  rw [laws_toStringS.F_eq, if_pos (by omega), if_pos (by omega)]
  have := toStringS_L l hl l.length 0 (by omega)
  simpa using this
theorem eqStringS_L (l : List ByteArray) (hl : l.length ≤ 9223372036854775807) : ∀ d n : Nat, n + d = l.length → laws_eqStringS.L0 l l n = some true
  | 0, n, h => by rw [laws_eqStringS.L0_eq, if_neg (by omega)]
  | d + 1, n, h => by
    rw [laws_eqStringS.L0_eq, if_pos (by omega), if_pos (by omega), if_pos (by omega), if_pos rfl, wn (by omega)]
    exact eqStringS_L l hl d (n + 1) (by omega)
theorem eqStringS_F (l : List ByteArray) (hl : l.length ≤ 9223372036854775807) : laws_eqStringS.F l l = some true := by
  rw [laws_eqStringS.F_eq, if_pos rfl]
  exact eqStringS_L l hl l.length 0 (by omega)
end Go.Proofs.Ytlcedciocmjggaa.X
