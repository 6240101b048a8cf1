/- The three places of a key, and sums of values at them: the program's way and the reference's tell the same. -/
import Derived.Test.YtlcedciocmjggaaXg40a
import Derived.Test.YtlcedciocmjggaaXpBase
import Derived.Test.YtlcedciocmjggaaXpHash
import Derived.Test.YtlcedciocmjggaaXpWithin
namespace Go.Proofs.Ytlcedciocmjggaa.X
open Go.RowKit Go.Proofs.YtlcedciocmjggaaW.PrintWords Go.Proofs.YtlcedciocmjggaaW.PrintLast
set_option linter.unusedVariables false
set_option linter.unusedSimpArgs false
def tripleP (s : Int) (k : ByteArray) (g : Int) : List Int := [placeP s 0 k g, placeP s 1 k g + g, placeP s 2 k g + 2 * g]
theorem tripleP_bd (s : Int) (k : ByteArray) (g : Int) (hg : 1 ≤ g) : 0 ≤ placeP s 0 k g ∧ placeP s 0 k g < g ∧ g ≤ placeP s 1 k g + g ∧ placeP s 1 k g + g < 2 * g ∧ 2 * g ≤ placeP s 2 k g + 2 * g ∧ placeP s 2 k g + 2 * g < 3 * g := by
  have h0 := placeP_bd s 0 k g hg
  have h1 := placeP_bd s 1 k g hg
  have h2 := placeP_bd s 2 k g hg
  omega
theorem triple_spec (s : Int) (k : ByteArray) (g : Int) (hs : 0 ≤ s ∧ s ≤ 9999) (hk : k.size ≤ 1048576) (hg : 1 ≤ g ∧ g ≤ 24) : spec_peTriple.F s k g = some (tripleP s k g) := by
  have b := tripleP_bd s k g hg.1
  rw [spec_peTriple.F_eq, spec_peTriple.L0_eq, if_pos (by omega), place_spec s 0 k g hs (by omega) hk (by omega), bsome, if_pos (by simp), w64 (x := 0 + 1) (by omega) (by omega), show (0 + 1 : Int) = 1 from rfl]
  rw [spec_peTriple.L0_eq, if_pos (by omega), place_spec s 1 k g hs (by omega) hk (by omega), bsome, if_pos (by simp), w64 (x := 1 + 1) (by omega) (by omega), show (1 + 1 : Int) = 2 from rfl]
  rw [spec_peTriple.L0_eq, if_pos (by omega), place_spec s 2 k g hs (by omega) hk (by omega), bsome, if_pos (by simp), w64 (x := 2 + 1) (by omega) (by omega), show (2 + 1 : Int) = 3 from rfl]
  rw [spec_peTriple.L0_eq, if_neg (by omega), w64 (x := 0 * g) (by omega) (by omega), w64 (x := 1 * g) (by omega) (by omega), w64 (x := 2 * g) (by omega) (by omega), w64 (by omega) (by omega), w64 (by omega) (by omega), w64 (by omega) (by omega)]
  simp [tripleP]
theorem triple_impl (s : Int) (k : ByteArray) (g : Int) (hs : 0 ≤ s ∧ s ≤ 9999) (hk : k.size ≤ 1048576) (hg : 1 ≤ g ∧ g ≤ 24) : impl_threePlaces.F s k g = some (tripleP s k g) := by
  have b := tripleP_bd s k g hg.1
  rw [impl_threePlaces.F_eq, impl_threePlaces.L0_eq, if_pos (by omega), place_impl s 0 k g hs (by omega) hk (by omega), bsome, if_pos (by simp), w64 (x := 0 + 1) (by omega) (by omega), show (0 + 1 : Int) = 1 from rfl]
  rw [impl_threePlaces.L0_eq, if_pos (by omega), place_impl s 1 k g hs (by omega) hk (by omega), bsome, if_pos (by simp), w64 (x := 1 + 1) (by omega) (by omega), show (1 + 1 : Int) = 2 from rfl]
  rw [impl_threePlaces.L0_eq, if_pos (by omega), place_impl s 2 k g hs (by omega) hk (by omega), bsome, if_pos (by simp), w64 (x := 2 + 1) (by omega) (by omega), show (2 + 1 : Int) = 3 from rfl]
  rw [impl_threePlaces.L0_eq, if_neg (by omega), w64 (x := 0 * g) (by omega) (by omega), w64 (x := 1 * g) (by omega) (by omega), w64 (x := 2 * g) (by omega) (by omega), w64 (by omega) (by omega), w64 (by omega) (by omega), w64 (by omega) (by omega)]
  simp [tripleP]
theorem allIn_rd {l : List Int} {a b : Int} (h : allIn l a b = true) {i : Int} (h0 : 0 ≤ i) (h1 : i < l.length) : a ≤ rd l i ∧ rd l i ≤ b := by
  obtain ⟨n, rfl⟩ : ∃ n : Nat, i = n := ⟨i.toNat, by omega⟩
  rw [rdn]
  unfold allIn at h
  rw [List.all_eq_true] at h
  exact of_decide_eq_true (h _ (getD_mem l 0 n (by omega)))
end Go.Proofs.Ytlcedciocmjggaa.X
