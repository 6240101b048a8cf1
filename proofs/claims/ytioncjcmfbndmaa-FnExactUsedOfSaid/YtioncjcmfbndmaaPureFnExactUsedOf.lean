/- The plain part of the law FnExactUsedOf: the program's and the reference's answers are the same, the argument stays, and the answer's lists are its own, for all arguments. -/
import Derived.Test.YtioncjcmfbndmaaXg800a
import Derived.Test.YtioncjcmfbndmaaXg800b
import Derived.Test.YtioncjcmfbndmaaXg800c
import Derived.Test.YtioncjcmfbndmaaXg840a
import Derived.Test.YtioncjcmfbndmaaXg842a
import Derived.Test.YtioncjcmfbndmaaXg8c8a
import Derived.Test.YtioncjcmfbndmaaXg8caa
import Derived.Test.YtioncjcmfbndmaaXpBase
import Derived.Test.YtioncjcmfbndmaaXpBitAt
import Derived.Test.YtioncjcmfbndmaaXpBitNat
import Derived.Test.YtioncjcmfbndmaaXpBitPut
import Derived.Test.YtioncjcmfbndmaaXpInts
import Derived.Test.YtioncjcmfbndmaaXpMarks
import Derived.Test.YtioncjcmfbndmaaXpPeeled
import Derived.Test.YtioncjcmfbndmaaXpRankCount
namespace Go.Proofs.Ytioncjcmfbndmaa.Pure
open Go.RowKit Go.Proofs.Ytioncjcmfbndmaa.X Go.Proofs.YtioncjcmfbndmaaW.PrintWords Go.Proofs.YtioncjcmfbndmaaW.PrintLast
set_option linter.unusedVariables false
set_option linter.unusedSimpArgs false
def ub (l : List Int) : List Bool := l.map fun x => x != 3
theorem ub_len (l : List Int) : (ub l).length = l.length := by simp [ub]
theorem ub_getD (l : List Int) (n : Nat) (h : n < l.length) : (ub l).getD n false = (l.getD n 0 != 3) := by
  simp [ub, List.getD_eq_getElem?_getD, List.getElem?_eq_getElem h]
theorem used_spec_L (l : List Int) (hl : l.length ≤ 1048576) : ∀ (d n : Nat), n + d = l.length → spec_UsedOf.L0 ((ub l).take n) l l.length n = spec_UsedOf.L0 (ub l) l l.length l.length
  | 0, n, h => by
    have : n = l.length := by omega
    subst this
    rw [List.take_of_length_le (by rw [ub_len]; omega)]
  | d + 1, n, h => by
    rw [spec_UsedOf.L0_eq, if_pos (by omega), if_pos (by omega), if_pos (by omega), if_pos (by rw [List.length_take, ub_len]; omega), rdn, ← ub_getD l n (by omega), ← take_succ_getD _ _ n (by rw [ub_len]; omega), wn (by omega)]
    exact used_spec_L l hl d (n + 1) (by omega)
theorem made_L (s g : Int) (l : List Int) (hl : l.length ≤ 1048576) : ∀ (d n : Nat) (ws : List Int), n + d = l.length → Rep ((ub l).take n ++ List.replicate ((ub l).length - n) false) ws → ∃ ws', impl_madeBits_at_impl_UsedOf_1.L0 l.length n s g l l.length ws = some ((l.length : Int), ws') ∧ Rep (ub l) ws'
  | 0, n, ws, h, hr => by
    rw [impl_madeBits_at_impl_UsedOf_1.L0_eq, if_neg (by omega)]
    refine ⟨ws, rfl, ?_⟩
    have : n = (ub l).length := by rw [ub_len]; omega
    subst this
    simpa using hr
  | d + 1, n, ws, h, hr => by
    have hu := ub_len l
    have hs := set_step (ub l) false false n (by omega)
    obtain ⟨ws', e, hr'⟩ := bitsSet_F hr l.length n ((ub l).getD n false) (by simp; omega) (by simp; omega)
    rw [hs] at hr'
    obtain ⟨ws2, e2, h2⟩ := made_L s g l hl d (n + 1) ws' (by omega) hr'
    refine ⟨ws2, ?_, h2⟩
    rw [impl_madeBits_at_impl_UsedOf_1.L0_eq, if_pos (by omega)]
    unfold impl_UsedOf_1.f
    rw [if_pos (by omega), if_pos (by omega), bsome, rdn, ← ub_getD l n (by omega), e, bsome, wn (by omega)]
    exact e2
theorem rep_words {bs : List Bool} {ws : List Int} (h : Rep bs ws) : Words ws := fun j hj => by
  obtain ⟨m, h1, h2, _⟩ := h.2 j hj
  omega
theorem used_both (s g : Int) (l : List Int) (hl : l.length ≤ 1048576) : ∃ (n : Int) (ws S O : List Int) (b : Bool), impl_UsedOf.F s g l = some (n, ws, S, O, b) ∧ spec_UsedOf.F s g l = some (n, ws, S, O, b) ∧ ws.length ≤ 65536 ∧ S.length ≤ 65536 ∧ O.length ≤ 65536 := by
  rw [impl_UsedOf.F_eq, spec_UsedOf.F_eq, peeled_spec' s g l hl, peeled_impl s g l hl, bsome, bsome]
  by_cases h : peeledB s g l = true
  · have hu := ub_len l
    obtain ⟨ws, e1, r1⟩ := biSome_F (ub l) (by omega)
    obtain ⟨ws', e2, r2⟩ := made_L s g l hl l.length 0 (List.replicate (((ub l).length + 15) / 16) 0) (by omega) (by simpa using Rep.zeros (ub l).length)
    have := r1.unique r2
    subst this
    have hw := r1.1
    obtain ⟨S, O, k1, k2, k3, k4⟩ := ranked_both l.length ws (rep_words r1) (by omega) (by omega)
    refine ⟨l.length, ws, S, O, true, ?_, ?_, by omega, by omega, by omega⟩
    · rw [if_pos h, impl_madeBits_at_impl_UsedOf_1.F_eq, blank_F _ (by omega), bsome, ← hu]
      rw [hu]
      have e2' : impl_madeBits_at_impl_UsedOf_1.L0 l.length 0 s g l l.length (List.replicate ((l.length + 15) / 16) 0) = some ((l.length : Int), ws) := by rw [← hu]; rw [hu] at e2 ⊢; exact e2
      rw [e2', bsome, k1, bsome]
    · have e3 := used_spec_L l hl l.length 0 (by omega)
      rw [List.take_zero] at e3
      have e3' : spec_UsedOf.L0 [] l l.length 0 = spec_UsedOf.L0 (ub l) l l.length l.length := e3
      rw [if_pos h, e3', spec_UsedOf.L0_eq, if_neg (by omega), e1, bsome, hu, k2, bsome]
  · rw [if_neg h, if_neg h]
    exact ⟨_, _, _, _, _, rfl, rfl, by simp, by simp, by simp⟩
theorem FnExactUsedOf : X.laws_FnExactUsedOf.Pure := by
  intro s g l w0 w1 hw
  refine Sup.rounds (laws_FnExactUsedOf.F_sup s g l) ?_
  rw [laws_FnExactUsedOf.F_eq]
  unfold laws_szPeeled.f
  rcases szIntS_f l 1048576 hw.1 (by omega) (by omega) with h | ⟨h, hb⟩
  · rw [h, bsome]; rfl
  · have hl : l.length ≤ 1048576 := by omega
    obtain ⟨n, ws, S, O, b, h1, h2, h3, h4, h5⟩ := used_both s g l hl
    have eR : laws_eqRanked.F n ws S O n ws S O = some true := by
      simp only [laws_eqRanked.F_eq, laws_eqBits.F_eq, eqIntS_F ws (by omega), eqIntS_F S (by omega), eqIntS_F O (by omega), bsome, if_true]
    have eP : laws_eqPeeled.F s g l s g l = some true := by
      simp only [laws_eqPeeled.F_eq, eqIntS_F l (by omega), bsome, if_true]
    have mP : laws_markPeeled.F s g l 1 = some (1 + (l.length : Int), marked l.length 1) := by rw [laws_markPeeled.F_eq, mark_F l 1 (by omega) (by omega), bsome]
    have mR : laws_markRanked.F n ws S O 1 = some (1 + (ws.length : Int) + S.length + O.length, marked ws.length 1, marked S.length (1 + ws.length), marked O.length (1 + ws.length + S.length)) := by
      simp only [laws_markRanked.F_eq, laws_markBits.F_eq, mark_F ws 1 (by omega) (by omega), bsome]
      rw [mark_F S _ (by omega) (by omega), bsome, mark_F O _ (by omega) (by omega), bsome]
    have hR : laws_heldRanked.F n (marked ws.length 1) (marked S.length (1 + ws.length)) (marked O.length (1 + ws.length + S.length)) 1 = some (1 + (ws.length : Int) + S.length + O.length) := by
      rw [laws_heldRanked.F_eq, laws_heldBits.F_eq, held_F ws.length 1 (by omega) (by omega), bsome, if_neg (by omega), bsome, if_neg (by omega), held_F S.length _ (by omega) (by omega), bsome, if_neg (by omega), held_F O.length _ (by omega) (by omega), bsome, if_neg (by omega)]
    rw [h, bsome, if_neg (by omega), bsome, if_neg (by omega)]
    simp only [laws_toPeeled.F_eq, toIntS_F l hl, bsome, h1, h2, eR, eP, mP, mR, hR, if_true, bne_self_eq_false, Bool.false_eq_true, if_false, show ¬ (1 + (l.length : Int) < 0) from by omega, show ¬ (1 + (ws.length : Int) + S.length + O.length < 0) from by omega]
end Go.Proofs.Ytioncjcmfbndmaa.Pure
