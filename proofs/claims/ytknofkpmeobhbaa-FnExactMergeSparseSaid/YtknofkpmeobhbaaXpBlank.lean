/- A vector of no marks. -/
import Derived.Test.YtknofkpmeobhbaaXg1c
import Derived.Test.YtknofkpmeobhbaaXpBase
set_option linter.unusedVariables false
set_option linter.unusedSimpArgs false
namespace Go.Proofs.Ytknofkpmeobhbaa.X
open Go.RowKit Go.Proofs.YtknofkpmeobhbaaW.PrintWords Go.Proofs.YtknofkpmeobhbaaW.PrintLast
theorem blank_F (n : Nat) (hn : n ≤ 4194304) : impl_blank.f (n : Int) = some ((n : Int), List.replicate ((n + 15) / 16) 0) := by
  unfold impl_blank.f impl_words.f
  rw [w64 (x := (n : Int) + 16) (by omega) (by omega), w64 (x := (n : Int) + 16 - 1) (by omega) (by omega), tdiv_nn (by omega), w64 (by omega) (by omega), bsome, if_pos (by omega), if_pos (by omega)]
  rw [show (((n : Int) + 16 - 1) / 16).toNat = (n + 15) / 16 from by omega]
end Go.Proofs.Ytknofkpmeobhbaa.X
