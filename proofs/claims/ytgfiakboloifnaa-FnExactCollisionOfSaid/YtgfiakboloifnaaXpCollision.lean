/- The first two keys of one place: the program and the reference find the same. -/
import Derived.Test.YtgfiakboloifnaaXpBase
import Derived.Test.YtgfiakboloifnaaXpHash
import Derived.Test.YtgfiakboloifnaaXpKeyLists
import Derived.Test.YtgfiakboloifnaaXpWithin
import Derived.Test.YtgfiakboloifnaaXx10
import Derived.Test.YtgfiakboloifnaaXx11
namespace Go.Proofs.Ytgfiakboloifnaa.X
open Go.RowKit Go.Proofs.YtgfiakboloifnaaW.PrintWords Go.Proofs.YtgfiakboloifnaaW.PrintLast
set_option linter.unusedVariables false
set_option linter.unusedSimpArgs false
def placesP (a b : Int) (l : List ByteArray) (m : Int) : List Int := l.map fun s => placeP a b s m
theorem placesP_getD (a b : Int) (l : List ByteArray) (m : Int) (n : Nat) (h : n < l.length) : (placesP a b l m).getD n 0 = placeP a b (l.getD n ByteArray.empty) m := by
  unfold placesP
  simp [List.getD_eq_getElem?_getD, List.getElem?_eq_getElem h]
theorem placesP_len (a b : Int) (l : List ByteArray) (m : Int) : (placesP a b l m).length = l.length := by simp [placesP]
theorem places_spec_L (a b : Int) (l : List ByteArray) (m : Int) (ha : 0 ≤ a ∧ a ≤ 9999) (hb : 0 ≤ b ∧ b ≤ 9) (hm : 1 ≤ m ∧ m ≤ 4096) (hl : l.length ≤ 1048576) (hs : ∀ i, i < l.length → (l.getD i ByteArray.empty).size ≤ 1048576) : ∀ d n : Nat, n + d = l.length → spec_biPlaces.L0 a b m (placesP a b (l.take n) m) l l.length n = some (placesP a b l m)
  | 0, n, h => by
    rw [spec_biPlaces.L0_eq, if_neg (by omega), List.take_of_length_le (by omega)]
  | d + 1, n, h => by
    rw [spec_biPlaces.L0_eq, if_pos (by omega), if_pos (by omega), if_pos (by omega), rdOfn, place_spec a b _ m ha hb (hs n (by omega)) hm, bsome, if_pos (by rw [placesP_len, List.length_take]; omega), wn (by omega)]
    have e : placesP a b (l.take n) m ++ [placeP a b (l.getD n ByteArray.empty) m] = placesP a b (l.take (n + 1)) m := by
      rw [take_succ_getD l ByteArray.empty n (by omega)]
      simp [placesP]
    rw [e]
    exact places_spec_L a b l m ha hb hm hl hs d (n + 1) (by omega)
theorem places_spec (a b : Int) (l : List ByteArray) (m : Int) (ha : 0 ≤ a ∧ a ≤ 9999) (hb : 0 ≤ b ∧ b ≤ 9) (hm : 1 ≤ m ∧ m ≤ 4096) (hl : l.length ≤ 1048576) (hs : ∀ i, i < l.length → (l.getD i ByteArray.empty).size ≤ 1048576) : spec_biPlaces.F a b l m = some (placesP a b l m) := by
  rw [spec_biPlaces.F_eq]
  exact places_spec_L a b l m ha hb hm hl hs l.length 0 (by omega)
section
variable (a b : Int) (l : List ByteArray) (m : Int) (ha : 0 ≤ a ∧ a ≤ 9999) (hb : 0 ≤ b ∧ b ≤ 9) (hm : 1 ≤ m ∧ m ≤ 4096) (hl : l.length ≤ 1048576) (hs : ∀ i, i < l.length → (l.getD i ByteArray.empty).size ≤ 1048576)
include ha hb hm hl hs
theorem collision_in (i : Nat) (hi : i < l.length) (ho : ∃ r, spec_CollisionOf.L0 (placesP a b l m) (placesP a b l m) l.length ((i + 1 : Nat) : Int) = some r ∧ impl_CollisionOf.L0 a b l m l.length ((i + 1 : Nat) : Int) = some r) :
    ∀ d k : Nat, k + d = l.length → ∃ r, spec_CollisionOf.L1 (placesP a b l m) i (placeP a b (l.getD i ByteArray.empty) m) k (placesP a b l m) l.length i = some r ∧ impl_CollisionOf.L1 a b l m i k l.length i = some r
  | 0, k, h => by
    rw [spec_CollisionOf.L1_eq, impl_CollisionOf.L1_eq, placesP_len, if_neg (by omega), if_neg (by omega), wn (by omega)]
    exact ho
  | d + 1, k, h => by
    have e1 : spec_CollisionOf.L1 (placesP a b l m) i (placeP a b (l.getD i ByteArray.empty) m) k (placesP a b l m) l.length i = if placeP a b (l.getD k ByteArray.empty) m = placeP a b (l.getD i ByteArray.empty) m then some ((i : Int), (k : Int), true) else spec_CollisionOf.L1 (placesP a b l m) i (placeP a b (l.getD i ByteArray.empty) m) ((k + 1 : Nat) : Int) (placesP a b l m) l.length i := by
      rw [spec_CollisionOf.L1_eq, placesP_len, if_pos (by omega), if_pos (by omega), rdn, placesP_getD a b l m k (by omega), wn (by omega)]
    have e2 : impl_CollisionOf.L1 a b l m i k l.length i = if placeP a b (l.getD i ByteArray.empty) m = placeP a b (l.getD k ByteArray.empty) m then some ((i : Int), (k : Int), true) else impl_CollisionOf.L1 a b l m i ((k + 1 : Nat) : Int) l.length i := by
      rw [impl_CollisionOf.L1_eq, if_pos (by omega), if_pos (by omega), if_pos (by omega), rdOfn, place_impl a b _ m ha hb (hs i hi) hm, bsome, if_pos (by omega), rdOfn, place_impl a b _ m ha hb (hs k (by omega)) hm, bsome, wn (by omega)]
    rw [e1, e2]
    by_cases he : placeP a b (l.getD k ByteArray.empty) m = placeP a b (l.getD i ByteArray.empty) m
    · rw [if_pos he, if_pos he.symm]
      exact ⟨_, rfl, rfl⟩
    · rw [if_neg he, if_neg (fun h => he h.symm)]
      exact collision_in i hi ho d (k + 1) (by omega)
theorem collision_L : ∀ d i : Nat, i + d = l.length → ∃ r, spec_CollisionOf.L0 (placesP a b l m) (placesP a b l m) l.length i = some r ∧ impl_CollisionOf.L0 a b l m l.length i = some r
  | 0, i, h => by
    rw [spec_CollisionOf.L0_eq, impl_CollisionOf.L0_eq, if_neg (by omega), if_neg (by omega)]
    exact ⟨_, rfl, rfl⟩
  | d + 1, i, h => by
    have ho := collision_L d (i + 1) (by omega)
    have e1 : spec_CollisionOf.L0 (placesP a b l m) (placesP a b l m) l.length i = spec_CollisionOf.L1 (placesP a b l m) i (placeP a b (l.getD i ByteArray.empty) m) ((i + 1 : Nat) : Int) (placesP a b l m) l.length i := by
      rw [spec_CollisionOf.L0_eq, if_pos (by omega), if_pos (by omega), if_pos (by rw [placesP_len]; omega), rdn, placesP_getD a b l m i (by omega), wn (by omega)]
    have e2 : impl_CollisionOf.L0 a b l m l.length i = impl_CollisionOf.L1 a b l m i ((i + 1 : Nat) : Int) l.length i := by
      rw [impl_CollisionOf.L0_eq, if_pos (by omega), wn (by omega)]
    rw [e1, e2]
    exact collision_in a b l m ha hb hm hl hs i (by omega) ho d (i + 1) (by omega)
end
theorem collision_both (a b : Int) (l : List ByteArray) (m : Int) (hl : l.length ≤ 1048576) (hs : ∀ i, i < l.length → (l.getD i ByteArray.empty).size ≤ 1048576) : ∃ r, spec_CollisionOf.F a b l m = some r ∧ impl_CollisionOf.F a b l m = some r := by
  rw [spec_CollisionOf.F_eq, impl_CollisionOf.F_eq, impl_hashesOk.F_eq, biSeed_f, isSeed_f, in_f, keys_spec l hl hs, keys_impl l hl hs, l1In_f, in_f]
  simp only [bsome, spec_CollisionOf.J0_eq, impl_CollisionOf.J0_eq, if_true]
  by_cases ha : 0 ≤ a ∧ a ≤ 9999
  · by_cases hb : 0 ≤ b ∧ b ≤ 9
    · simp only [decide_eq_true ha, decide_eq_true hb, Bool.and_self, if_true, bsome]
      by_cases hk : keysB l = true
      · simp only [hk, if_true]
        by_cases hm : 1 ≤ m ∧ m ≤ 4096
        · simp only [decide_eq_true hm, Bool.not_true, Bool.false_eq_true, if_false]
          rw [places_spec a b l m ha hb hm hl hs, bsome, placesP_len]
          exact collision_L a b l m ha hb hm hl hs l.length 0 (by omega)
        · simp only [decide_eq_false hm, Bool.not_false, if_true]
          exact ⟨_, rfl, rfl⟩
      · simp only [Bool.eq_false_iff.mpr hk]
        exact ⟨_, rfl, rfl⟩
    · simp only [decide_eq_true ha, decide_eq_false hb]
      exact ⟨_, rfl, rfl⟩
  · simp only [decide_eq_false ha]
    exact ⟨_, rfl, rfl⟩
end Go.Proofs.Ytgfiakboloifnaa.X
