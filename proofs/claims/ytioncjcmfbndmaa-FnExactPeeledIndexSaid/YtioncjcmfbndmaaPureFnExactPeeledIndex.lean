/- The plain part of the law FnExactPeeledIndex: the program's and the reference's answers are the same, and the argument stays, for all arguments. -/
import Derived.Test.YtioncjcmfbndmaaXg80a
import Derived.Test.YtioncjcmfbndmaaXgc8a
import Derived.Test.YtioncjcmfbndmaaXgcaa
import Derived.Test.YtioncjcmfbndmaaXpBase
import Derived.Test.YtioncjcmfbndmaaXpInts
import Derived.Test.YtioncjcmfbndmaaXpKeys
import Derived.Test.YtioncjcmfbndmaaXpPeeled
import Derived.Test.YtioncjcmfbndmaaXpPeeledPlaces
namespace Go.Proofs.Ytioncjcmfbndmaa.Pure
open Go.RowKit Go.Proofs.Ytioncjcmfbndmaa.X Go.Proofs.YtioncjcmfbndmaaW.PrintWords Go.Proofs.YtioncjcmfbndmaaW.PrintLast
set_option linter.unusedVariables false
set_option linter.unusedSimpArgs false
theorem rank_L (l : List Int) (hl : l.length ≤ 1048576) : ∀ (d n : Nat) (c : Int), n + d = l.length → ∃ r, spec_pfRank.L0 c l l.length n = some r ∧ impl_Peeled_used.L0 c l l.length n = some r
  | 0, n, c, h => by
    rw [spec_pfRank.L0_eq, impl_Peeled_used.L0_eq, if_neg (by omega), if_neg (by omega)]
    exact ⟨_, rfl, rfl⟩
  | d + 1, n, c, h => by
    have e1 : spec_pfRank.L0 c l l.length n = if rd l n = 3 then spec_pfRank.L0 c l l.length ((n + 1 : Nat) : Int) else spec_pfRank.L0 (wrap64 (c + 1)) l l.length ((n + 1 : Nat) : Int) := by
      rw [spec_pfRank.L0_eq, if_pos (by omega), if_pos (by omega), if_pos (by omega), wn (by omega)]
    have e2 : impl_Peeled_used.L0 c l l.length n = if rd l n = 3 then impl_Peeled_used.L0 c l l.length ((n + 1 : Nat) : Int) else impl_Peeled_used.L0 (wrap64 (c + 1)) l l.length ((n + 1 : Nat) : Int) := by
      rw [impl_Peeled_used.L0_eq, if_pos (by omega), if_pos (by omega), if_pos (by omega), wn (by omega)]
    rw [e1, e2]
    by_cases hv : rd l n = 3
    · rw [if_pos hv, if_pos hv]
      exact rank_L l hl d (n + 1) c (by omega)
    · rw [if_neg hv, if_neg hv]
      exact rank_L l hl d (n + 1) _ (by omega)
theorem rank_both (s g : Int) (l : List Int) (p : Int) (hl : l.length ≤ 1048576) (h0 : 0 ≤ p) (h1 : p ≤ l.length) : ∃ r, spec_pfRank.F s g l p = some r ∧ impl_Peeled_used.F s g l p = some r := by
  rw [spec_pfRank.F_eq, impl_Peeled_used.F_eq, if_pos h0, if_pos h1, if_pos h0, if_pos h1]
  exact rank_L (l.take p.toNat) (by simp; omega) (l.take p.toNat).length 0 0 (by omega)
theorem peeledIndex_both (s g : Int) (l : List Int) (k : ByteArray) (hl : l.length ≤ 1048576) (hk : k.size ≤ 1048576) : ∃ r, spec_PeeledIndex.F s g l k = some r ∧ impl_PeeledIndex.F s g l k = some r := by
  rw [spec_PeeledIndex.F_eq, impl_PeeledIndex.F_eq, peeled_spec' s g l hl, peeled_impl s g l hl, key_spec k hk, key_impl k hk, impl_Peeled_index.F_eq]
  simp only [bsome, spec_PeeledIndex.J0_eq]
  by_cases h : peeledB s g l = true
  · obtain ⟨v, h1, h2, h4, h5⟩ := place_both s g l k h hk
    simp only [h, if_true]
    by_cases h3 : keyB k = true
    · simp only [h3, if_true, h1, h2, bsome, if_pos h4, if_pos h5]
      by_cases h6 : rd l v = 3
      · simp only [h6, beq_self_eq_true, if_true, bsome]; exact ⟨_, rfl, rfl⟩
      · obtain ⟨r, h7, h8⟩ := rank_both s g l v hl h4 (by omega)
        simp only [beq_false_of_ne h6, Bool.false_eq_true, if_false, if_neg h6, h7, h8, bsome]; exact ⟨_, rfl, rfl⟩
    · simp only [Bool.eq_false_iff.mpr h3]; exact ⟨_, rfl, rfl⟩
  · simp only [Bool.eq_false_iff.mpr h]; exact ⟨_, rfl, rfl⟩
theorem FnExactPeeledIndex : X.laws_FnExactPeeledIndex.Pure := by
  intro s g l k w0 w1 hw w3
  refine Sup.rounds (laws_FnExactPeeledIndex.F_sup s g l k) ?_
  rw [laws_FnExactPeeledIndex.F_eq]
  by_cases hk : (k.size : Int) > 1048576
  · rw [if_pos hk]
  rw [if_neg hk]
  unfold laws_szPeeled.f
  rcases szIntS_f l 1048576 hw.1 (by omega) (by omega) with h | ⟨h, hb⟩
  · rw [h, bsome]; rfl
  · have hl : l.length ≤ 1048576 := by omega
    obtain ⟨r, h1, h2⟩ := peeledIndex_both s g l k hl (by omega)
    rw [h, bsome, if_neg (by omega), bsome, if_neg (by omega)]
    simp only [laws_toPeeled.F_eq, toIntS_F l hl, bsome, h1, h2]
    simp only [bne_self_eq_false, Bool.false_eq_true, if_false, laws_eqPeeled.F_eq, if_true, eqIntS_F l (by omega), bsome]
end Go.Proofs.Ytioncjcmfbndmaa.Pure
