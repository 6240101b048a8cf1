/- The plain part of the law FnExactPlainSeed: the program's and the reference's answers are the same, and the keys stay, for all arguments. -/
import Derived.Test.YtioncjcmfbndmaaXg4a
import Derived.Test.YtioncjcmfbndmaaXpBase
import Derived.Test.YtioncjcmfbndmaaXpDistinct
import Derived.Test.YtioncjcmfbndmaaXpHasF
import Derived.Test.YtioncjcmfbndmaaXpHash
import Derived.Test.YtioncjcmfbndmaaXpKeyLists
import Derived.Test.YtioncjcmfbndmaaXpPlaces
import Derived.Test.YtioncjcmfbndmaaXpStrs
import Derived.Test.YtioncjcmfbndmaaXpWithin
namespace Go.Proofs.Ytioncjcmfbndmaa.Pure
open Go.RowKit Go.Proofs.Ytioncjcmfbndmaa.X Go.Proofs.YtioncjcmfbndmaaW.PrintWords Go.Proofs.YtioncjcmfbndmaaW.PrintLast
set_option linter.unusedVariables false
set_option linter.unusedSimpArgs false
theorem plain_spec_L (ps : List Int) (hl : ps.length ≤ 1048576) : ∀ d n : Nat, n + d = ps.length → spec_pfPlain.L0 ps ps ps.length n = some (nd (ps.take n) (ps.drop n))
  | 0, n, h => by rw [spec_pfPlain.L0_eq, if_neg (by omega), List.drop_eq_nil_of_le (by omega)]; rfl
  | d + 1, n, h => by
    rw [spec_pfPlain.L0_eq, if_pos (by omega), if_pos (by omega), if_pos (by omega), if_pos (by omega), rdn, wn (by omega), plain_spec_L ps hl d (n + 1) (by omega), cons_drop ps 0 n (by omega), nd_cons, take_succ_getD ps 0 n (by omega), Int.toNat_natCast, has_F _ _ (by rw [List.length_take]; omega), bsome]
    by_cases h1 : ps.getD n 0 ∈ ps.take n
    · rw [decide_eq_true h1, if_pos rfl, if_pos h1]
    · rw [decide_eq_false h1, if_neg (by simp), if_neg h1]
theorem plain_spec (s m : Int) (ks : List ByteArray) (hs : 0 ≤ s ∧ s ≤ 9999) (hm : 1 ≤ m ∧ m ≤ 4096) (hl : ks.length ≤ 1048576) (hz : ∀ i, i < ks.length → (ks.getD i ByteArray.empty).size ≤ 1048576) : spec_pfPlain.F s ks m = some (nd [] (placesP s 0 ks m)) := by
  rw [spec_pfPlain.F_eq, places_spec s 0 ks m hs (by omega) hm hl hz, bsome]
  exact plain_spec_L _ (by rw [placesP_len]; exact hl) (placesP s 0 ks m).length 0 (by omega)
theorem plain_impl_L (s m : Int) (ks : List ByteArray) (hs : 0 ≤ s ∧ s ≤ 9999) (hm : 1 ≤ m ∧ m ≤ 4096) (hl : ks.length ≤ 1048576) (hz : ∀ i, i < ks.length → (ks.getD i ByteArray.empty).size ≤ 1048576) : ∀ d n : Nat, n + d = ks.length → impl_PlainSeed_1.L0 s ((placesP s 0 ks m).take n) ks ks.length n m = some (nd [] (placesP s 0 ks m))
  | 0, n, h => by
    have hp := placesP_len s 0 ks m
    rw [impl_PlainSeed_1.L0_eq, if_neg (by omega), List.take_of_length_le (by omega), distinct_F _ (by omega) ?_, bsome]
    intro x hx
    obtain ⟨k, _, rfl⟩ := List.mem_map.1 hx
    have := placeP_bd s 0 k m hm.1
    exact wf64 (by omega) (by omega)
  | d + 1, n, h => by
    have hp := placesP_len s 0 ks m
    rw [impl_PlainSeed_1.L0_eq, if_pos (by omega), if_pos (by omega), if_pos (by omega), rdOfn, place_impl s 0 _ m hs (by omega) (hz n (by omega)) hm, bsome, if_pos (by rw [List.length_take]; omega), wn (by omega), ← placesP_getD s 0 ks m n (by omega), ← take_succ_getD _ 0 n (by omega)]
    exact plain_impl_L s m ks hs hm hl hz d (n + 1) (by omega)
theorem plain_impl (s m : Int) (ks : List ByteArray) (hs : 0 ≤ s ∧ s ≤ 9999) (hm : 1 ≤ m ∧ m ≤ 4096) (hl : ks.length ≤ 1048576) (hz : ∀ i, i < ks.length → (ks.getD i ByteArray.empty).size ≤ 1048576) : impl_PlainSeed_1.F s ks m = some (nd [] (placesP s 0 ks m)) := by
  rw [impl_PlainSeed_1.F_eq]
  exact plain_impl_L s m ks hs hm hl hz ks.length 0 (by omega)
theorem seeds_L (u m : Int) (ks : List ByteArray) (hu : u ≤ 10000) (hm : 1 ≤ m ∧ m ≤ 4096) (hl : ks.length ≤ 1048576) (hz : ∀ i, i < ks.length → (ks.getD i ByteArray.empty).size ≤ 1048576) : ∀ (d : Nat) (s : Int), 0 ≤ s → s + d = u → ∃ r : Int × Bool, impl_firstSeed_at_impl_PlainSeed_1.L0 u s ks m = some r ∧ spec_PlainSeed.L0 ks m u s = some r
  | 0, s, h0, h => by
    rw [impl_firstSeed_at_impl_PlainSeed_1.L0_eq, spec_PlainSeed.L0_eq, if_neg (by omega), if_neg (by omega)]
    exact ⟨_, rfl, rfl⟩
  | d + 1, s, h0, h => by
    have h1 : 0 ≤ s ∧ s ≤ 9999 := by omega
    have w1 : wrap64 (s + 1) = s + 1 := w64 (by omega) (by omega)
    obtain ⟨r, r1, r2⟩ := seeds_L u m ks hu hm hl hz d (s + 1) (by omega) (by omega)
    rw [impl_firstSeed_at_impl_PlainSeed_1.L0_eq, spec_PlainSeed.L0_eq, if_pos (by omega), if_pos (by omega), plain_impl s m ks h1 hm hl hz, plain_spec s m ks h1 hm hl hz, bsome, bsome, w1, r1, r2]
    by_cases h2 : nd [] (placesP s 0 ks m) = true
    · rw [if_pos h2]; exact ⟨_, rfl, rfl⟩
    · rw [if_neg h2]; exact ⟨_, rfl, rfl⟩
theorem plainSeed_both (m f u : Int) (ks : List ByteArray) (hl : ks.length ≤ 1048576) (hz : ∀ i, i < ks.length → (ks.getD i ByteArray.empty).size ≤ 1048576) : ∃ r : Int × Bool, impl_PlainSeed.F ks m f u = some r ∧ spec_PlainSeed.F ks m f u = some r := by
  have j0 : spec_PlainSeed.J0 ks m f u true = some (0, false) := by rw [spec_PlainSeed.J0_eq, if_pos rfl]
  have j1 : impl_firstSeed_at_impl_PlainSeed_1.J0 f u true ks m = some (0, false) := by rw [impl_firstSeed_at_impl_PlainSeed_1.J0_eq, if_pos rfl]
  rw [impl_PlainSeed.F_eq, spec_PlainSeed.F_eq, keys_spec ks hl hz, keys_impl ks hl hz, bsome, bsome]
  by_cases h1 : keysB ks = true
  · rw [if_pos h1, if_pos h1, in_f, l1In_f, bsome, bsome]
    by_cases h2 : 1 ≤ m ∧ m ≤ 4096
    · rw [decide_eq_true h2, if_pos rfl, if_pos rfl, impl_firstSeed_at_impl_PlainSeed_1.F_eq, j1, j0, l1In_f, bsome]
      by_cases h3 : 0 ≤ u ∧ u ≤ 10000
      · have w1 : wrap64 (u - 100) = u - 100 := w64 (by omega) (by omega)
        have w2 : 0 ≤ f → f ≤ u → wrap64 (f + 100) = f + 100 := fun a b => w64 (by omega) (by omega)
        have e1 : spec_l1Most.f 0 (u - 100) = some (if 0 > u - 100 then 0 else u - 100) := by unfold spec_l1Most.f; split <;> rfl
        rw [decide_eq_true h3, if_pos rfl, w1, e1, bsome, l1In_f, bsome]
        by_cases h4 : f < 0
        · rw [if_pos h4, decide_eq_false (by split <;> omega), bsome]
          exact ⟨_, rfl, j0⟩
        · by_cases h5 : f > u
          · rw [if_neg h4, if_pos h5, decide_eq_false (by split <;> omega), bsome]
            exact ⟨_, rfl, j0⟩
          · rw [if_neg h4, if_neg h5, if_neg (by omega), w2 (by omega) (by omega)]
            by_cases h6 : u > f + 100
            · rw [decide_eq_true h6, j1, bsome, decide_eq_false (by split <;> omega)]
              exact ⟨_, rfl, j0⟩
            · obtain ⟨r, r1, r2⟩ := seeds_L u m ks (by omega) h2 hl hz (u - f).toNat f (by omega) (by omega)
              rw [decide_eq_false h6, decide_eq_true (by split <;> omega), impl_firstSeed_at_impl_PlainSeed_1.J0_eq, if_neg (by simp), r1, bsome]
              refine ⟨_, rfl, ?_⟩
              rw [spec_PlainSeed.J0_eq, if_neg (by simp), r2]
      · rw [decide_eq_false h3, if_neg (show ¬ (false = true) by decide)]
        by_cases h4 : f < 0
        · rw [if_pos h4, bsome]; exact ⟨_, rfl, rfl⟩
        · by_cases h5 : f > u
          · rw [if_neg h4, if_pos h5, bsome]; exact ⟨_, rfl, rfl⟩
          · rw [if_neg h4, if_neg h5, if_pos (by omega), bsome]; exact ⟨_, rfl, rfl⟩
    · rw [decide_eq_false h2, if_neg (by simp), if_neg (by simp), j0]; exact ⟨_, rfl, rfl⟩
  · rw [if_neg h1, if_neg h1, j0]; exact ⟨_, rfl, rfl⟩
theorem FnExactPlainSeed : X.laws_FnExactPlainSeed.Pure := by
  intro l m f u w1 w2 w3 w4
  refine Sup.rounds (laws_FnExactPlainSeed.F_sup l m f u) ?_
  rw [laws_FnExactPlainSeed.F_eq]
  rcases szStringS_F l 1048576 w1.1 w1.2 (by omega) (by omega) with h | ⟨r, h, h1, h2, hl, hs⟩
  · rw [h, bsome]; rfl
  · obtain ⟨q, hq1, hq2⟩ := plainSeed_both m f u l hl hs
    rw [h, bsome, if_neg (by omega)]
    simp only [toStringS_F l hl, bsome, hq1, hq2, if_true, bne_self_eq_false, Bool.false_eq_true, if_false, eqStringS_F l (by omega)]
end Go.Proofs.Ytioncjcmfbndmaa.Pure
