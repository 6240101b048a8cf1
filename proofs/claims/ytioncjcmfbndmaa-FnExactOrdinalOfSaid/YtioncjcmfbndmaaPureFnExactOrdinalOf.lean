/- The plain part of the law FnExactOrdinalOf: the program's and the reference's answers are the same, and the argument stays, for all arguments. -/
import Derived.Test.YtioncjcmfbndmaaXg20a
import Derived.Test.YtioncjcmfbndmaaXg220a
import Derived.Test.YtioncjcmfbndmaaXpBase
import Derived.Test.YtioncjcmfbndmaaXpInts
import Derived.Test.YtioncjcmfbndmaaXpKeys
import Derived.Test.YtioncjcmfbndmaaXpOrdered
import Derived.Test.YtioncjcmfbndmaaXpOrdinals
namespace Go.Proofs.Ytioncjcmfbndmaa.Pure
open Go.RowKit Go.Proofs.Ytioncjcmfbndmaa.X Go.Proofs.YtioncjcmfbndmaaW.PrintWords Go.Proofs.YtioncjcmfbndmaaW.PrintLast
set_option linter.unusedVariables false
set_option linter.unusedSimpArgs false
theorem ordinalOf_both (s g c : Int) (l : List Int) (k : ByteArray) (hl : l.length ≤ 1048576) (hk : k.size ≤ 1048576) : ∃ r, spec_OrdinalOf.F s g c l k = some r ∧ impl_OrdinalOf.F s g c l k = some r := by
  rw [spec_OrdinalOf.F_eq, impl_OrdinalOf.F_eq, ordered_spec' s g c l hl, ordered_impl s g c l hl, key_spec k hk, key_impl k hk]
  simp only [bsome, impl_OrdinalOf.J0_eq]
  by_cases h : orderedB s g c l = true
  · obtain ⟨v, h1, h2, h4⟩ := ordinal_both s g c l k h hk
    simp only [h, if_true]
    by_cases h3 : keyB k = true
    · simp only [h3, if_true, Bool.not_true, Bool.false_eq_true, if_false, h4, h1, h2, bsome]; exact ⟨_, rfl, rfl⟩
    · simp only [Bool.eq_false_iff.mpr h3, Bool.not_false, if_true]; exact ⟨_, rfl, rfl⟩
  · simp only [Bool.eq_false_iff.mpr h]; exact ⟨_, rfl, rfl⟩
theorem FnExactOrdinalOf : X.laws_FnExactOrdinalOf.Pure := by
  intro s g c l k w0 w1 w2 hw w4
  refine Sup.rounds (laws_FnExactOrdinalOf.F_sup s g c l k) ?_
  rw [laws_FnExactOrdinalOf.F_eq]
  by_cases hk : (k.size : Int) > 1048576
  · rw [if_pos hk]
  rw [if_neg hk]
  unfold laws_szOrdered.f
  rcases szIntS_f l 1048576 hw.1 (by omega) (by omega) with h | ⟨h, hb⟩
  · rw [h, bsome]; rfl
  · have hl : l.length ≤ 1048576 := by omega
    obtain ⟨r, h1, h2⟩ := ordinalOf_both s g c l k hl (by omega)
    rw [h, bsome, if_neg (by omega), bsome, if_neg (by omega)]
    simp only [laws_toOrdered.F_eq, toIntS_F l hl, bsome, h1, h2]
    simp only [bne_self_eq_false, Bool.false_eq_true, if_false, laws_eqOrdered.F_eq, if_true, eqIntS_F l (by omega), bsome]
end Go.Proofs.Ytioncjcmfbndmaa.Pure
