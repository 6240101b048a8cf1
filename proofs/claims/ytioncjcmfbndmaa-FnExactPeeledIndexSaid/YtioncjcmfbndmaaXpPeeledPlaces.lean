/- To which place a key is led: the program's way and the reference's tell the same. -/
import Derived.Test.YtioncjcmfbndmaaXg88a
import Derived.Test.YtioncjcmfbndmaaXpBase
import Derived.Test.YtioncjcmfbndmaaXpHash
import Derived.Test.YtioncjcmfbndmaaXpPeeled
import Derived.Test.YtioncjcmfbndmaaXpSums
import Derived.Test.YtioncjcmfbndmaaXpTriple
import Derived.Test.YtioncjcmfbndmaaXpWithin
namespace Go.Proofs.Ytioncjcmfbndmaa.X
open Go.RowKit Go.Proofs.YtioncjcmfbndmaaW.PrintWords Go.Proofs.YtioncjcmfbndmaaW.PrintLast
set_option linter.unusedVariables false
set_option linter.unusedSimpArgs false
theorem led_3 (l : List Int) (p q r : Int) (hp : 0 ≤ p ∧ p < l.length) (hq : 0 ≤ q ∧ q < l.length) (hr : 0 ≤ r ∧ r < l.length) (bp : 0 ≤ rd l p ∧ rd l p ≤ 1000) (bq : 0 ≤ rd l q ∧ rd l q ≤ 1000) (br : 0 ≤ rd l r ∧ rd l r ≤ 1000) :
    impl_led.f l [p, q, r] = some ((rd l p + rd l q + rd l r) % 3) := by
  have e0 : rd [p, q, r] 0 = p := rfl
  have e1 : rd [p, q, r] 1 = q := rfl
  have e2 : rd [p, q, r] 2 = r := rfl
  have el : (([p, q, r] : List Int).length : Int) = 3 := rfl
  unfold impl_led.f
  rw [el, e0, e1, e2, if_pos (by omega), if_pos (by omega), if_pos (by omega), if_pos (by omega), if_pos (by omega), if_pos (by omega), if_pos (by omega), if_pos (by omega), if_pos (by omega), w64 (x := rd l p + rd l q) (by omega) (by omega), w64 (by omega) (by omega), tmod_nn (by omega)]
theorem peeledB_facts {s g : Int} {l : List Int} (h : peeledB s g l = true) : (0 ≤ s ∧ s ≤ 9999) ∧ (1 ≤ g ∧ g ≤ 24) ∧ (l.length : Int) = 3 * g ∧ allIn l 0 3 = true := by
  unfold peeledB at h
  simpa only [Bool.and_eq_true, decide_eq_true_eq] using h
theorem place_both (s g : Int) (l : List Int) (k : ByteArray) (h : peeledB s g l = true) (hk : k.size ≤ 1048576) : ∃ v : Int, impl_Peeled_place.F s g l k = some v ∧ spec_pfPlace.F s g l k = some v ∧ 0 ≤ v ∧ v < l.length := by
  obtain ⟨hs, hg, hl, ha⟩ := peeledB_facts h
  have b := tripleP_bd s k g hg.1
  have c0 := allIn_rd ha (i := placeP s 0 k g) (by omega) (by omega)
  have c1 := allIn_rd ha (i := placeP s 1 k g + g) (by omega) (by omega)
  have c2 := allIn_rd ha (i := placeP s 2 k g + 2 * g) (by omega) (by omega)
  rw [impl_Peeled_place.F_eq, spec_pfPlace.F_eq, triple_spec s k g hs hk hg, triple_impl s k g hs hk hg, bsome, bsome]
  unfold tripleP
  rw [led_3 l _ _ _ (by omega) (by omega) (by omega) (by omega) (by omega) (by omega), pfSum_3 l _ _ _ (by omega) (by omega) (by omega) (by omega) (by omega) (by omega), bsome, bsome, tmod_nn (by omega)]
  generalize hz : (rd l (placeP s 0 k g) + rd l (placeP s 1 k g + g) + rd l (placeP s 2 k g + 2 * g)) % 3 = z
  have el : (([placeP s 0 k g, placeP s 1 k g + g, placeP s 2 k g + 2 * g] : List Int).length : Int) = 3 := rfl
  have z0 : 0 ≤ z := by omega
  have z3 : z < 3 := by omega
  rw [el, if_pos z0, if_pos z3]
  refine ⟨_, rfl, rfl, ?_⟩
  have : z = 0 ∨ z = 1 ∨ z = 2 := by omega
  rcases this with rfl | rfl | rfl
  · show 0 ≤ placeP s 0 k g ∧ placeP s 0 k g < l.length
    omega
  · show 0 ≤ placeP s 1 k g + g ∧ placeP s 1 k g + g < l.length
    omega
  · show 0 ≤ placeP s 2 k g + 2 * g ∧ placeP s 2 k g + 2 * g < l.length
    omega
end Go.Proofs.Ytioncjcmfbndmaa.X
