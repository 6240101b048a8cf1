/- What the laws' own helpers on lists of whole numbers compute: a size's bound, a copy, an equality. -/
import Derived.Test.YthafknjaljhibaaXg1a
import Derived.Test.YthafknjaljhibaaXg1b
import Derived.Test.YthafknjaljhibaaXg1c
import Derived.Test.YthafknjaljhibaaXpBase
set_option linter.unusedVariables false
set_option linter.unusedSimpArgs false
namespace Go.Proofs.Ythafknjaljhibaa.X
open Go.RowKit Go.Proofs.YthafknjaljhibaaW.PrintWords Go.Proofs.YthafknjaljhibaaW.PrintLast
theorem szIntS_f (l : List Int) (a : Int) (hl : l.length ≤ 9223372036854775807) (h0 : 0 ≤ a) (h1 : a ≤ 1048576) :
    laws_szIntS.f l a = some (-1) ∨ (laws_szIntS.f l a = some (a - l.length) ∧ (l.length : Int) ≤ a) := by
  unfold laws_szIntS.f
  rw [w64 (by omega) (by omega)]
  by_cases h : a - (l.length : Int) < 0
  · rw [if_pos h]; exact Or.inl rfl
  · rw [if_neg h]; exact Or.inr ⟨rfl, by omega⟩
theorem toIntS_L (l : List Int) (hl : l.length ≤ 1048576) : ∀ d n : Nat, n + d = l.length → laws_toIntS.L0 l (l.take n ++ List.replicate (l.length - n) 0) n = some l
  | 0, n, h => by
    rw [laws_toIntS.L0_eq, if_neg (by omega)]
    have : n = l.length := by omega
    subst this
    simp
  | d + 1, n, h => by
    rw [laws_toIntS.L0_eq, if_pos (by omega), if_pos (by omega), if_pos (by simp; omega), rdn, Int.toNat_natCast, set_step l 0 0 n (by omega), wn (by omega)]
    exact toIntS_L l hl d (n + 1) (by omega)
theorem toIntS_F (l : List Int) (hl : l.length ≤ 1048576) : laws_toIntS.F l = some l := by
  rw [laws_toIntS.F_eq, if_pos (by omega), if_pos (by omega)]
  have := toIntS_L l hl l.length 0 (by omega)
  simpa using this
theorem eqIntS_L (l : List Int) (hl : l.length ≤ 9223372036854775807) : ∀ d n : Nat, n + d = l.length → laws_eqIntS.L0 l l n = some true
  | 0, n, h => by rw [laws_eqIntS.L0_eq, if_neg (by omega)]
  | d + 1, n, h => by
    rw [laws_eqIntS.L0_eq, if_pos (by omega), if_pos (by omega), if_pos (by omega), if_pos rfl, wn (by omega)]
    exact eqIntS_L l hl d (n + 1) (by omega)
theorem eqIntS_F (l : List Int) (hl : l.length ≤ 9223372036854775807) : laws_eqIntS.F l l = some true := by
  rw [laws_eqIntS.F_eq, if_pos rfl]
  exact eqIntS_L l hl l.length 0 (by omega)
end Go.Proofs.Ythafknjaljhibaa.X
