/- A mark in a list of words, as the reference reads it. -/
import Derived.Test.YtknofkpmeobhbaaXg1a
import Derived.Test.YtknofkpmeobhbaaXpBase
import Derived.Test.YtknofkpmeobhbaaXpBitAt
import Derived.Test.YtknofkpmeobhbaaXpBitNat
set_option linter.unusedVariables false
set_option linter.unusedSimpArgs false
namespace Go.Proofs.Ytknofkpmeobhbaa.X
open Go.RowKit Go.Proofs.YtknofkpmeobhbaaW.PrintWords Go.Proofs.YtknofkpmeobhbaaW.PrintLast
theorem biAt_F (n : Int) (ws : List Int) (i : Nat) (hw : Words ws) (hi : i / 16 < ws.length) (hb : i < 4611686018427387904) : spec_biAt.f n ws i = some (bitAt ws i) := by
  obtain ⟨w1, w2⟩ := word_at i hb
  obtain ⟨m, hm⟩ := Int.eq_ofNat_of_zero_le (hw _ hi).1
  have := (hw _ hi).2
  unfold spec_biAt.f bitAt
  rw [w1, w2, if_pos (by omega), if_pos (by omega), if_pos (by omega), rdn, hm, Int.toNat_natCast, bit_of m _ (by omega) (by omega)]
end Go.Proofs.Ytknofkpmeobhbaa.X
