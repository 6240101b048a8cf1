/- The plain part of the law FnExactSlotOf: the program's and the reference's answers are the same, and the argument stays, for all arguments. -/
import Derived.Test.YtioncjcmfbndmaaXg1a
import Derived.Test.YtioncjcmfbndmaaXpBase
import Derived.Test.YtioncjcmfbndmaaXpDisplaced
import Derived.Test.YtioncjcmfbndmaaXpInts
import Derived.Test.YtioncjcmfbndmaaXpKeys
import Derived.Test.YtioncjcmfbndmaaXpSlots
namespace Go.Proofs.Ytioncjcmfbndmaa.Pure
open Go.RowKit Go.Proofs.Ytioncjcmfbndmaa.X Go.Proofs.YtioncjcmfbndmaaW.PrintWords Go.Proofs.YtioncjcmfbndmaaW.PrintLast
set_option linter.unusedVariables false
set_option linter.unusedSimpArgs false
theorem slotOf_both (s b m : Int) (l : List Int) (k : ByteArray) (hl : l.length ≤ 1048576) (hk : k.size ≤ 1048576) : ∃ r, spec_SlotOf.F s b m l k = some r ∧ impl_SlotOf.F s b m l k = some r := by
  rw [spec_SlotOf.F_eq, impl_SlotOf.F_eq, displaced_spec' s b m l hl, displaced_impl s b m l hl, key_spec k hk, key_impl k hk]
  simp only [bsome]
  by_cases h : displacedB s b m l = true
  · obtain ⟨v, h1, h2⟩ := slot_both s b m l k h hk
    simp only [h, if_true]
    by_cases h3 : keyB k = true
    · simp only [h3, if_true, h1, h2, bsome]; exact ⟨_, rfl, rfl⟩
    · simp only [Bool.eq_false_iff.mpr h3]; exact ⟨_, rfl, rfl⟩
  · simp only [Bool.eq_false_iff.mpr h]; exact ⟨_, rfl, rfl⟩
theorem FnExactSlotOf : X.laws_FnExactSlotOf.Pure := by
  intro s b m l k w0 w1 w2 hw w4
  refine Sup.rounds (laws_FnExactSlotOf.F_sup s b m l k) ?_
  rw [laws_FnExactSlotOf.F_eq]
  by_cases hk : (k.size : Int) > 1048576
  · rw [if_pos hk]
  rw [if_neg hk]
  unfold laws_szDisplaced.f
  rcases szIntS_f l 1048576 hw.1 (by omega) (by omega) with h | ⟨h, hb⟩
  · rw [h, bsome]; rfl
  · have hl : l.length ≤ 1048576 := by omega
    obtain ⟨r, h1, h2⟩ := slotOf_both s b m l k hl (by omega)
    rw [h, bsome, if_neg (by omega), bsome, if_neg (by omega)]
    simp only [laws_toDisplaced.F_eq, toIntS_F l hl, bsome, h1, h2]
    simp only [bne_self_eq_false, Bool.false_eq_true, if_false, laws_eqDisplaced.F_eq, if_true, eqIntS_F l (by omega), bsome]
end Go.Proofs.Ytioncjcmfbndmaa.Pure
