/- The ordinal of a key: the program's way and the reference's tell the same. -/
import Derived.Test.YtioncjcmfbndmaaXg220a
import Derived.Test.YtioncjcmfbndmaaXg2a8a
import Derived.Test.YtioncjcmfbndmaaXpBase
import Derived.Test.YtioncjcmfbndmaaXpHash
import Derived.Test.YtioncjcmfbndmaaXpOrdered
import Derived.Test.YtioncjcmfbndmaaXpSums
import Derived.Test.YtioncjcmfbndmaaXpTriple
import Derived.Test.YtioncjcmfbndmaaXpWithin
namespace Go.Proofs.Ytioncjcmfbndmaa.X
open Go.RowKit Go.Proofs.YtioncjcmfbndmaaW.PrintWords Go.Proofs.YtioncjcmfbndmaaW.PrintLast
set_option linter.unusedVariables false
set_option linter.unusedSimpArgs false
theorem orderedB_facts {s g c : Int} {l : List Int} (h : orderedB s g c l = true) : (0 ≤ s ∧ s ≤ 9999) ∧ (1 ≤ g ∧ g ≤ 24) ∧ (1 ≤ c ∧ c ≤ 40) ∧ (l.length : Int) = 3 * g ∧ allIn l 0 (c - 1) = true := by
  unfold orderedB at h
  simpa only [Bool.and_eq_true, decide_eq_true_eq] using h
theorem ordinal_3 (s g c : Int) (l : List Int) (p q r : Int) (hc : 1 ≤ c) (hp : 0 ≤ p ∧ p < l.length) (hq : 0 ≤ q ∧ q < l.length) (hr : 0 ≤ r ∧ r < l.length) (bp : 0 ≤ rd l p ∧ rd l p ≤ 1000) (bq : 0 ≤ rd l q ∧ rd l q ≤ 1000) (br : 0 ≤ rd l r ∧ rd l r ≤ 1000) :
    impl_Ordered_ordinal.f s g c l [p, q, r] = some ((rd l p + rd l q + rd l r) % c) := by
  have e0 : rd [p, q, r] 0 = p := rfl
  have e1 : rd [p, q, r] 1 = q := rfl
  have e2 : rd [p, q, r] 2 = r := rfl
  have el : (([p, q, r] : List Int).length : Int) = 3 := rfl
  unfold impl_Ordered_ordinal.f
  rw [el, e0, e1, e2, if_pos (by omega), if_pos (by omega), if_pos (by omega), if_pos (by omega), if_pos (by omega), if_pos (by omega), if_pos (by omega), if_pos (by omega), if_pos (by omega), if_neg (by omega), w64 (x := rd l p + rd l q) (by omega) (by omega), w64 (by omega) (by omega), tmod_nn (by omega)]
theorem ordinal_both (s g c : Int) (l : List Int) (k : ByteArray) (h : orderedB s g c l = true) (hk : k.size ≤ 1048576) : ∃ v : Int, impl_Ordered_ordinal.f s g c l (tripleP s k g) = some v ∧ spec_pfOrdinal.F s g c l k = some v ∧ impl_threePlaces.F s k g = some (tripleP s k g) := by
  obtain ⟨hs, hg, hc, hl, ha⟩ := orderedB_facts h
  have b := tripleP_bd s k g hg.1
  have c0 := allIn_rd ha (i := placeP s 0 k g) (by omega) (by omega)
  have c1 := allIn_rd ha (i := placeP s 1 k g + g) (by omega) (by omega)
  have c2 := allIn_rd ha (i := placeP s 2 k g + 2 * g) (by omega) (by omega)
  rw [spec_pfOrdinal.F_eq, triple_spec s k g hs hk hg, triple_impl s k g hs hk hg, bsome]
  unfold tripleP
  rw [ordinal_3 s g c l _ _ _ hc.1 (by omega) (by omega) (by omega) (by omega) (by omega) (by omega), pfSum_3 l _ _ _ (by omega) (by omega) (by omega) (by omega) (by omega) (by omega), bsome, if_neg (by omega), tmod_nn (by omega)]
  exact ⟨_, rfl, rfl, rfl⟩
end Go.Proofs.Ytioncjcmfbndmaa.X
