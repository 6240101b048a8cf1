/- The places of all keys: a list of whole numbers. -/
import Derived.Test.YtioncjcmfbndmaaXg14a
import Derived.Test.YtioncjcmfbndmaaXpBase
import Derived.Test.YtioncjcmfbndmaaXpHash
namespace Go.Proofs.Ytioncjcmfbndmaa.X
open Go.RowKit Go.Proofs.YtioncjcmfbndmaaW.PrintWords Go.Proofs.YtioncjcmfbndmaaW.PrintLast
set_option linter.unusedVariables false
set_option linter.unusedSimpArgs false
def placesP (a b : Int) (l : List ByteArray) (m : Int) : List Int := l.map fun s => placeP a b s m
theorem placesP_getD (a b : Int) (l : List ByteArray) (m : Int) (n : Nat) (h : n < l.length) : (placesP a b l m).getD n 0 = placeP a b (l.getD n ByteArray.empty) m := by
  unfold placesP
  simp [List.getD_eq_getElem?_getD, List.getElem?_eq_getElem h]
theorem placesP_len (a b : Int) (l : List ByteArray) (m : Int) : (placesP a b l m).length = l.length := by simp [placesP]
theorem places_spec_L (a b : Int) (l : List ByteArray) (m : Int) (ha : 0 ≤ a ∧ a ≤ 9999) (hb : 0 ≤ b ∧ b ≤ 9) (hm : 1 ≤ m ∧ m ≤ 4096) (hl : l.length ≤ 1048576) (hs : ∀ i, i < l.length → (l.getD i ByteArray.empty).size ≤ 1048576) : ∀ d n : Nat, n + d = l.length → spec_biPlaces.L0 a b m (placesP a b (l.take n) m) l l.length n = some (placesP a b l m)
  | 0, n, h => by
    rw [spec_biPlaces.L0_eq, if_neg (by omega), List.take_of_length_le (by omega)]
  | d + 1, n, h => by
    rw [spec_biPlaces.L0_eq, if_pos (by omega), if_pos (by omega), if_pos (by omega), rdOfn, place_spec a b _ m ha hb (hs n (by omega)) hm, bsome, if_pos (by rw [placesP_len, List.length_take]; omega), wn (by omega)]
    have e : placesP a b (l.take n) m ++ [placeP a b (l.getD n ByteArray.empty) m] = placesP a b (l.take (n + 1)) m := by
      rw [take_succ_getD l ByteArray.empty n (by omega)]
      simp [placesP]
    rw [e]
    exact places_spec_L a b l m ha hb hm hl hs d (n + 1) (by omega)
theorem places_spec (a b : Int) (l : List ByteArray) (m : Int) (ha : 0 ≤ a ∧ a ≤ 9999) (hb : 0 ≤ b ∧ b ≤ 9) (hm : 1 ≤ m ∧ m ≤ 4096) (hl : l.length ≤ 1048576) (hs : ∀ i, i < l.length → (l.getD i ByteArray.empty).size ≤ 1048576) : spec_biPlaces.F a b l m = some (placesP a b l m) := by
  rw [spec_biPlaces.F_eq]
  exact places_spec_L a b l m ha hb hm hl hs l.length 0 (by omega)
end Go.Proofs.Ytioncjcmfbndmaa.X
