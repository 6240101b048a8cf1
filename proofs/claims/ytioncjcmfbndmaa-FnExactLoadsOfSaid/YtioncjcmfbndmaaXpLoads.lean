/- How many keys each place has: the program's way and the reference's tell the same. -/
import Derived.Test.YtioncjcmfbndmaaXg10a
import Derived.Test.YtioncjcmfbndmaaXpBase
import Derived.Test.YtioncjcmfbndmaaXpHash
import Derived.Test.YtioncjcmfbndmaaXpKeyLists
import Derived.Test.YtioncjcmfbndmaaXpPlaces
import Derived.Test.YtioncjcmfbndmaaXpWithin
namespace Go.Proofs.Ytioncjcmfbndmaa.X
open Go.RowKit Go.Proofs.YtioncjcmfbndmaaW.PrintWords Go.Proofs.YtioncjcmfbndmaaW.PrintLast
set_option linter.unusedVariables false
set_option linter.unusedSimpArgs false
section
variable (a b : Int) (l : List ByteArray) (m : Int) (ha : 0 ≤ a ∧ a ≤ 9999) (hb : 0 ≤ b ∧ b ≤ 9) (hm : 1 ≤ m ∧ m ≤ 64) (hl : l.length ≤ 1048576) (hs : ∀ i, i < l.length → (l.getD i ByteArray.empty).size ≤ 1048576)
include ha hb hm hl hs
theorem loads_L : ∀ (d n : Nat) (acc : List Int), n + d = l.length → (acc.length : Int) = m → ∃ r, spec_LoadsOf.L0 acc (placesP a b l m) l.length n = some (r, true) ∧ impl_LoadsOf.L0 a b m acc l l.length n = some (r, true) ∧ (r.length : Int) = m
  | 0, n, acc, h, hc => by
    rw [spec_LoadsOf.L0_eq, impl_LoadsOf.L0_eq, if_neg (by omega), if_neg (by omega)]
    exact ⟨acc, rfl, rfl, hc⟩
  | d + 1, n, acc, h, hc => by
    have hp := placeP_bd a b (l.getD n ByteArray.empty) m hm.1
    have e1 : spec_LoadsOf.L0 acc (placesP a b l m) l.length n = spec_LoadsOf.L0 (acc.set (placeP a b (l.getD n ByteArray.empty) m).toNat (wrap64 (rd acc (placeP a b (l.getD n ByteArray.empty) m) + 1))) (placesP a b l m) l.length ((n + 1 : Nat) : Int) := by
      rw [spec_LoadsOf.L0_eq, if_pos (by omega), if_pos (by omega), if_pos (by rw [placesP_len]; omega), rdn, placesP_getD a b l m n (by omega), if_pos hp.1, if_pos (by omega), wn (by omega)]
    have e2 : impl_LoadsOf.L0 a b m acc l l.length n = impl_LoadsOf.L0 a b m (acc.set (placeP a b (l.getD n ByteArray.empty) m).toNat (wrap64 (rd acc (placeP a b (l.getD n ByteArray.empty) m) + 1))) l l.length ((n + 1 : Nat) : Int) := by
      rw [impl_LoadsOf.L0_eq, if_pos (by omega), if_pos (by omega), if_pos (by omega), rdOfn, place_impl a b _ m ha hb (hs n (by omega)) (by omega), bsome, if_pos hp.1, if_pos (by omega), wn (by omega)]
    rw [e1, e2]
    exact loads_L d (n + 1) _ (by omega) (by simpa using hc)
end
theorem loads_both (a b : Int) (l : List ByteArray) (m : Int) (hl : l.length ≤ 1048576) (hs : ∀ i, i < l.length → (l.getD i ByteArray.empty).size ≤ 1048576) : ∃ r : List Int × Bool, spec_LoadsOf.F a b l m = some r ∧ impl_LoadsOf.F a b l m = some r ∧ r.1.length ≤ 64 := by
  rw [spec_LoadsOf.F_eq, impl_LoadsOf.F_eq, impl_hashesOk.F_eq, biSeed_f, isSeed_f, in_f, keys_spec l hl hs, keys_impl l hl hs, l1In_f, in_f]
  simp only [bsome, spec_LoadsOf.J0_eq, impl_LoadsOf.J0_eq, if_true]
  by_cases ha : 0 ≤ a ∧ a ≤ 9999
  · by_cases hb : 0 ≤ b ∧ b ≤ 9
    · simp only [decide_eq_true ha, decide_eq_true hb, Bool.and_self, if_true, bsome]
      by_cases hk : keysB l = true
      · simp only [hk, if_true]
        by_cases hm : 1 ≤ m ∧ m ≤ 64
        · simp only [decide_eq_true hm, Bool.not_true, Bool.false_eq_true, if_false]
          rw [if_pos (by omega), if_pos (by omega), if_pos (by omega), if_pos (by omega), places_spec a b l m ha hb (by omega) hl hs, bsome, placesP_len]
          obtain ⟨r, h1, h2, h3⟩ := loads_L a b l m ha hb hm hl hs l.length 0 (List.replicate m.toNat 0) (by omega) (by simp; omega)
          exact ⟨_, h1, h2, by show r.length ≤ 64; omega⟩
        · simp only [decide_eq_false hm, Bool.not_false, if_true]
          exact ⟨_, rfl, rfl, by simp⟩
      · simp only [Bool.eq_false_iff.mpr hk]
        exact ⟨_, rfl, rfl, by simp⟩
    · simp only [decide_eq_true ha, decide_eq_false hb]
      exact ⟨_, rfl, rfl, by simp⟩
  · simp only [decide_eq_false ha]
    exact ⟨_, rfl, rfl, by simp⟩
end Go.Proofs.Ytioncjcmfbndmaa.X
