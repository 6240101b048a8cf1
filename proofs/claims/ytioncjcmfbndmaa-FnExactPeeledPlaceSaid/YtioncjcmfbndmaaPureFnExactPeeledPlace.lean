/- The plain part of the law FnExactPeeledPlace: the program's and the reference's answers are the same, and the argument stays, for all arguments. -/
import Derived.Test.YtioncjcmfbndmaaXg8a
import Derived.Test.YtioncjcmfbndmaaXgc8a
import Derived.Test.YtioncjcmfbndmaaXgcaa
import Derived.Test.YtioncjcmfbndmaaXpBase
import Derived.Test.YtioncjcmfbndmaaXpInts
import Derived.Test.YtioncjcmfbndmaaXpKeys
import Derived.Test.YtioncjcmfbndmaaXpPeeled
import Derived.Test.YtioncjcmfbndmaaXpPeeledPlaces
namespace Go.Proofs.Ytioncjcmfbndmaa.Pure
open Go.RowKit Go.Proofs.Ytioncjcmfbndmaa.X Go.Proofs.YtioncjcmfbndmaaW.PrintWords Go.Proofs.YtioncjcmfbndmaaW.PrintLast
set_option linter.unusedVariables false
set_option linter.unusedSimpArgs false
theorem peeledPlace_both (s g : Int) (l : List Int) (k : ByteArray) (hl : l.length ≤ 1048576) (hk : k.size ≤ 1048576) : ∃ r, spec_PeeledPlace.F s g l k = some r ∧ impl_PeeledPlace.F s g l k = some r := by
  rw [spec_PeeledPlace.F_eq, impl_PeeledPlace.F_eq, peeled_spec' s g l hl, peeled_impl s g l hl, key_spec k hk, key_impl k hk]
  simp only [bsome]
  by_cases h : peeledB s g l = true
  · obtain ⟨v, h1, h2, _⟩ := place_both s g l k h hk
    simp only [h, if_true]
    by_cases h3 : keyB k = true
    · simp only [h3, if_true, h1, h2, bsome]; exact ⟨_, rfl, rfl⟩
    · simp only [Bool.eq_false_iff.mpr h3]; exact ⟨_, rfl, rfl⟩
  · simp only [Bool.eq_false_iff.mpr h]; exact ⟨_, rfl, rfl⟩
theorem FnExactPeeledPlace : X.laws_FnExactPeeledPlace.Pure := by
  intro s g l k w0 w1 hw w3
  refine Sup.rounds (laws_FnExactPeeledPlace.F_sup s g l k) ?_
  rw [laws_FnExactPeeledPlace.F_eq]
  by_cases hk : (k.size : Int) > 1048576
  · rw [if_pos hk]
  rw [if_neg hk]
  unfold laws_szPeeled.f
  rcases szIntS_f l 1048576 hw.1 (by omega) (by omega) with h | ⟨h, hb⟩
  · rw [h, bsome]; rfl
  · have hl : l.length ≤ 1048576 := by omega
    obtain ⟨r, h1, h2⟩ := peeledPlace_both s g l k hl (by omega)
    rw [h, bsome, if_neg (by omega), bsome, if_neg (by omega)]
    simp only [laws_toPeeled.F_eq, toIntS_F l hl, bsome, h1, h2]
    simp only [bne_self_eq_false, Bool.false_eq_true, if_false, laws_eqPeeled.F_eq, if_true, eqIntS_F l (by omega), bsome]
end Go.Proofs.Ytioncjcmfbndmaa.Pure
