/- The plain part of the law FnExactIsOrderedFor: the program's and the reference's answers are the same, and the arguments stay, for all arguments. -/
import Derived.Test.YtioncjcmfbndmaaXg200a
import Derived.Test.YtioncjcmfbndmaaXg220a
import Derived.Test.YtioncjcmfbndmaaXpBase
import Derived.Test.YtioncjcmfbndmaaXpInts
import Derived.Test.YtioncjcmfbndmaaXpKeyLists
import Derived.Test.YtioncjcmfbndmaaXpOrdered
import Derived.Test.YtioncjcmfbndmaaXpOrdinals
import Derived.Test.YtioncjcmfbndmaaXpStrs
namespace Go.Proofs.Ytioncjcmfbndmaa.Pure
open Go.RowKit Go.Proofs.Ytioncjcmfbndmaa.X Go.Proofs.YtioncjcmfbndmaaW.PrintWords Go.Proofs.YtioncjcmfbndmaaW.PrintLast
set_option linter.unusedVariables false
set_option linter.unusedSimpArgs false
theorem orderedFor_L (s g c : Int) (l : List Int) (ks : List ByteArray) (ho : orderedB s g c l = true) (hl : ks.length ≤ 1048576) (hs : ∀ i, i < ks.length → (ks.getD i ByteArray.empty).size ≤ 1048576) :
    ∀ d n : Nat, n + d = ks.length → ∃ r, spec_IsOrderedFor.L0 ks ks ks.length n s g c l = some r ∧ impl_IsOrderedFor.L0 ks ks ks.length n s g c l = some r
  | 0, n, h => by
    rw [spec_IsOrderedFor.L0_eq, impl_IsOrderedFor.L0_eq, if_neg (by omega), if_neg (by omega)]
    exact ⟨_, rfl, rfl⟩
  | d + 1, n, h => by
    obtain ⟨v, h1, h2, h3⟩ := ordinal_both s g c l (ks.getD n ByteArray.empty) ho (hs n (by omega))
    have e1 : spec_IsOrderedFor.L0 ks ks ks.length n s g c l = if v = n then spec_IsOrderedFor.L0 ks ks ks.length ((n + 1 : Nat) : Int) s g c l else some (false, true) := by
      rw [spec_IsOrderedFor.L0_eq, if_pos (by omega), if_pos (by omega), if_pos (by omega), rdOfn, h2, bsome, wn (by omega)]
    have e2 : impl_IsOrderedFor.L0 ks ks ks.length n s g c l = if v = n then impl_IsOrderedFor.L0 ks ks ks.length ((n + 1 : Nat) : Int) s g c l else some (false, true) := by
      rw [impl_IsOrderedFor.L0_eq, if_pos (by omega), if_pos (by omega), if_pos (by omega), rdOfn, h3, bsome, h1, bsome, wn (by omega)]
    rw [e1, e2]
    by_cases hv : v = n
    · rw [if_pos hv, if_pos hv]
      exact orderedFor_L s g c l ks ho hl hs d (n + 1) (by omega)
    · rw [if_neg hv, if_neg hv]
      exact ⟨_, rfl, rfl⟩
theorem orderedFor_both (s g c : Int) (l : List Int) (ks : List ByteArray) (hl : l.length ≤ 1048576) (hk : ks.length ≤ 1048576) (hs : ∀ i, i < ks.length → (ks.getD i ByteArray.empty).size ≤ 1048576) : ∃ r, spec_IsOrderedFor.F s g c l ks = some r ∧ impl_IsOrderedFor.F s g c l ks = some r := by
  rw [spec_IsOrderedFor.F_eq, impl_IsOrderedFor.F_eq, ordered_spec' s g c l hl, ordered_impl s g c l hl, keys_spec ks hk hs, keys_impl ks hk hs]
  simp only [bsome, impl_IsOrderedFor.J0_eq, spec_IsOrderedFor.J0_eq]
  by_cases h : orderedB s g c l = true
  · simp only [h, if_true]
    by_cases h3 : keysB ks = true
    · simp only [h3, Bool.not_true, Bool.false_eq_true, if_false]
      exact orderedFor_L s g c l ks h hk hs ks.length 0 (by omega)
    · simp only [Bool.eq_false_iff.mpr h3, Bool.not_false, if_true]; exact ⟨_, rfl, rfl⟩
  · simp only [Bool.eq_false_iff.mpr h]; exact ⟨_, rfl, rfl⟩
theorem FnExactIsOrderedFor : X.laws_FnExactIsOrderedFor.Pure := by
  intro s g c l ks w0 w1 w2 hw w4
  refine Sup.rounds (laws_FnExactIsOrderedFor.F_sup s g c l ks) ?_
  rw [laws_FnExactIsOrderedFor.F_eq]
  unfold laws_szOrdered.f
  rcases szIntS_f l 1048576 hw.1 (by omega) (by omega) with h | ⟨h, hb⟩
  · rw [h, bsome]; rfl
  have hl : l.length ≤ 1048576 := by omega
  rw [h, bsome, if_neg (by omega), bsome, if_neg (by omega)]
  rcases szStringS_F ks (1048576 - l.length) w4.1 w4.2 (by omega) (by omega) with h | ⟨q, h, h1, h2, hk, hs⟩
  · rw [h, bsome]; rfl
  · obtain ⟨r, h1, h2⟩ := orderedFor_both s g c l ks hl hk hs
    rw [h, bsome, if_neg (by omega)]
    simp only [laws_toOrdered.F_eq, toIntS_F l hl, toStringS_F ks hk, bsome, h1, h2]
    simp only [bne_self_eq_false, Bool.false_eq_true, if_false, laws_eqOrdered.F_eq, if_true, eqIntS_F l (by omega), bsome, eqStringS_F ks (by omega)]
end Go.Proofs.Ytioncjcmfbndmaa.Pure
