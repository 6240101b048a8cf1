/- The slot of a key: the program's way and the reference's tell the same. -/
import Derived.Test.YtioncjcmfbndmaaXg401a
import Derived.Test.YtioncjcmfbndmaaXpBase
import Derived.Test.YtioncjcmfbndmaaXpDisplaced
import Derived.Test.YtioncjcmfbndmaaXpHash
import Derived.Test.YtioncjcmfbndmaaXpWithin
namespace Go.Proofs.Ytioncjcmfbndmaa.X
open Go.RowKit Go.Proofs.YtioncjcmfbndmaaW.PrintWords Go.Proofs.YtioncjcmfbndmaaW.PrintLast
set_option linter.unusedVariables false
set_option linter.unusedSimpArgs false
theorem displacedB_facts {s b m : Int} {l : List Int} (h : displacedB s b m l = true) : (0 ≤ s ∧ s ≤ 9999) ∧ (1 ≤ b ∧ b ≤ 24) ∧ (1 ≤ m ∧ m ≤ 64) ∧ (l.length : Int) = b ∧ allIn l 0 999 = true := by
  unfold displacedB at h
  simpa only [Bool.and_eq_true, decide_eq_true_eq] using h
theorem slot_both (s b m : Int) (l : List Int) (k : ByteArray) (h : displacedB s b m l = true) (hk : k.size ≤ 1048576) : ∃ v : Int, impl_Displaced_slot.F s b m l k = some v ∧ spec_pfSlotOf.F s b m l k = some v := by
  obtain ⟨hs, hb, hm, hl, ha⟩ := displacedB_facts h
  have hp := placeP_bd s 0 k b hb.1
  rw [impl_Displaced_slot.F_eq, spec_pfSlotOf.F_eq, place_spec s 0 k b hs (by omega) hk (by omega), place_impl s 0 k b hs (by omega) hk (by omega), bsome, bsome, impl_shifted.F_eq, spec_pfSlot.F_eq, hash_spec s 1 k hs (by omega) hk, hash_spec s 2 k hs (by omega) hk, hash_impl s 1 k hs (by omega) hk, hash_impl s 2 k hs (by omega) hk]
  simp only [bsome, if_pos hp.1, show placeP s 0 k b < (l.length : Int) from by omega, if_true, show ¬ m = 0 from by omega, if_false]
  exact ⟨_, rfl, rfl⟩
end Go.Proofs.Ytioncjcmfbndmaa.X
