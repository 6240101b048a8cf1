/- The plain part of the law FnExactIsDisplacedFor: the program's and the reference's answers are the same, and the arguments stay, for all arguments. -/
import Derived.Test.YtioncjcmfbndmaaXg400a
import Derived.Test.YtioncjcmfbndmaaXg401a
import Derived.Test.YtioncjcmfbndmaaXpBase
import Derived.Test.YtioncjcmfbndmaaXpDisplaced
import Derived.Test.YtioncjcmfbndmaaXpDistinct
import Derived.Test.YtioncjcmfbndmaaXpHasF
import Derived.Test.YtioncjcmfbndmaaXpHash
import Derived.Test.YtioncjcmfbndmaaXpInts
import Derived.Test.YtioncjcmfbndmaaXpKeyLists
import Derived.Test.YtioncjcmfbndmaaXpSlots
import Derived.Test.YtioncjcmfbndmaaXpStrs
namespace Go.Proofs.Ytioncjcmfbndmaa.Pure
open Go.RowKit Go.Proofs.Ytioncjcmfbndmaa.X Go.Proofs.YtioncjcmfbndmaaW.PrintWords Go.Proofs.YtioncjcmfbndmaaW.PrintLast
set_option linter.unusedVariables false
set_option linter.unusedSimpArgs false
theorem slot_small (s b m : Int) (l : List Int) (k : ByteArray) (h : displacedB s b m l = true) (hk : k.size ≤ 1048576) : ∃ v : Int, impl_Displaced_slot.F s b m l k = some v ∧ spec_pfSlotOf.F s b m l k = some v ∧ -64 ≤ v ∧ v ≤ 64 := by
  obtain ⟨hs, hb, hm, hl, ha⟩ := displacedB_facts h
  have hp := placeP_bd s 0 k b hb.1
  rw [impl_Displaced_slot.F_eq, spec_pfSlotOf.F_eq, place_spec s 0 k b hs (by omega) hk (by omega), place_impl s 0 k b hs (by omega) hk (by omega), bsome, bsome, impl_shifted.F_eq, spec_pfSlot.F_eq, hash_spec s 1 k hs (by omega) hk, hash_spec s 2 k hs (by omega) hk, hash_impl s 1 k hs (by omega) hk, hash_impl s 2 k hs (by omega) hk]
  simp only [bsome, if_pos hp.1, show placeP s 0 k b < (l.length : Int) from by omega, if_true, show ¬ m = 0 from by omega, if_false]
  refine ⟨_, rfl, rfl, ?_, ?_⟩
  · have := Int.lt_tmod_of_pos (wrap64 (hashP s 1 k + wrap64 (rd l (placeP s 0 k b) * wrap64 (hashP s 2 k + 1)))) (b := m) (by omega); omega
  · have := Int.tmod_lt_of_pos (wrap64 (hashP s 1 k + wrap64 (rd l (placeP s 0 k b) * wrap64 (hashP s 2 k + 1)))) (b := m) (by omega); omega
theorem slots_L (s b m : Int) (l : List Int) (ks : List ByteArray) (ho : displacedB s b m l = true) (hl : ks.length ≤ 1048576) (hs : ∀ i, i < ks.length → (ks.getD i ByteArray.empty).size ≤ 1048576) :
    ∀ (d n : Nat) (acc : List Int), n + d = ks.length → acc.length ≤ n → ∃ vs : List Int, impl_Displaced_slots.L0 acc ks ks.length n s b m l = some (acc ++ vs) ∧ vs.length = d ∧ (∀ x ∈ vs, -64 ≤ x ∧ x ≤ 64) ∧ ∀ ac2 : List Int, ac2.length ≤ n → ∃ q, spec_pfSlots.L0 ac2 ks ks.length n s b m l = some (q, nd ac2 vs)
  | 0, n, acc, h, ha => by
    refine ⟨[], ?_, rfl, fun x hx => absurd hx (by simp), fun ac2 h2 => ⟨ac2, ?_⟩⟩
    · rw [impl_Displaced_slots.L0_eq, if_neg (by omega), List.append_nil]
    · rw [spec_pfSlots.L0_eq, if_neg (by omega)]; rfl
  | d + 1, n, acc, h, ha => by
    obtain ⟨v, h1, h2, h3⟩ := slot_small s b m l (ks.getD n ByteArray.empty) ho (hs n (by omega))
    obtain ⟨vs, r1, r2, r3, r4⟩ := slots_L s b m l ks ho hl hs d (n + 1) (acc ++ [v]) (by omega) (by simp; omega)
    refine ⟨v :: vs, ?_, by simp [r2], ?_, fun ac2 hc => ?_⟩
    · rw [impl_Displaced_slots.L0_eq, if_pos (by omega), if_pos (by omega), if_pos (by omega), rdOfn, h1, bsome, if_pos (by omega), wn (by omega), r1, List.append_assoc]; rfl
    · intro x hx
      rcases List.mem_cons.1 hx with rfl | hx
      · exact h3
      · exact r3 x hx
    · rw [spec_pfSlots.L0_eq, if_pos (by omega), if_pos (by omega), if_pos (by omega), rdOfn, h2, bsome, has_F ac2 v (by omega), bsome, wn (by omega), nd_cons]
      by_cases h4 : v ∈ ac2
      · rw [if_pos (by simpa using h4), if_pos h4]; exact ⟨_, rfl⟩
      · rw [if_neg (by simpa using h4), if_neg h4, if_pos (by omega)]
        exact r4 (ac2 ++ [v]) (by simp; omega)
theorem displacedFor_both (s b m : Int) (l : List Int) (ks : List ByteArray) (hl : l.length ≤ 1048576) (hk : ks.length ≤ 1048576) (hs : ∀ i, i < ks.length → (ks.getD i ByteArray.empty).size ≤ 1048576) : ∃ r, spec_IsDisplacedFor.F s b m l ks = some r ∧ impl_IsDisplacedFor.F s b m l ks = some r := by
  rw [spec_IsDisplacedFor.F_eq, impl_IsDisplacedFor.F_eq, displaced_spec' s b m l hl, displaced_impl s b m l hl, keys_spec ks hk hs, keys_impl ks hk hs]
  simp only [bsome, impl_IsDisplacedFor.J0_eq]
  by_cases h : displacedB s b m l = true
  · simp only [h, if_true]
    by_cases h3 : keysB ks = true
    · obtain ⟨vs, r1, r2, r3, r4⟩ := slots_L s b m l ks h hk hs ks.length 0 [] (by omega) (by simp)
      obtain ⟨q, r5⟩ := r4 [] (by simp)
      have r1' : impl_Displaced_slots.L0 [] ks ks.length 0 s b m l = some vs := r1
      have r5' : spec_pfSlots.L0 [] ks ks.length 0 s b m l = some (q, nd [] vs) := r5
      simp only [h3, Bool.not_true, Bool.false_eq_true, if_false, if_true, spec_pfSlots.F_eq, r5', impl_Displaced_slots.F_eq, r1', bsome, distinct_F vs (by omega) (fun x hx => wf64 (by have := r3 x hx; omega) (by have := r3 x hx; omega))]
      exact ⟨_, rfl, rfl⟩
    · simp only [Bool.eq_false_iff.mpr h3, Bool.not_false, if_true]; exact ⟨_, rfl, rfl⟩
  · simp only [Bool.eq_false_iff.mpr h]; exact ⟨_, rfl, rfl⟩
theorem FnExactIsDisplacedFor : X.laws_FnExactIsDisplacedFor.Pure := by
  intro s b m l ks w0 w1 w2 hw w4
  refine Sup.rounds (laws_FnExactIsDisplacedFor.F_sup s b m l ks) ?_
  rw [laws_FnExactIsDisplacedFor.F_eq]
  unfold laws_szDisplaced.f
  rcases szIntS_f l 1048576 hw.1 (by omega) (by omega) with h | ⟨h, hb⟩
  · rw [h, bsome]; rfl
  have hl : l.length ≤ 1048576 := by omega
  rw [h, bsome, if_neg (by omega), bsome, if_neg (by omega)]
  rcases szStringS_F ks (1048576 - l.length) w4.1 w4.2 (by omega) (by omega) with h | ⟨q, h, h1, h2, hk, hs⟩
  · rw [h, bsome]; rfl
  · obtain ⟨r, h1, h2⟩ := displacedFor_both s b m l ks hl hk hs
    rw [h, bsome, if_neg (by omega)]
    simp only [laws_toDisplaced.F_eq, toIntS_F l hl, toStringS_F ks hk, bsome, h1, h2]
    simp only [bne_self_eq_false, Bool.false_eq_true, if_false, laws_eqDisplaced.F_eq, if_true, eqIntS_F l (by omega), bsome, eqStringS_F ks (by omega)]
end Go.Proofs.Ytioncjcmfbndmaa.Pure
