/- A mark in a list of words, as both sides read it. -/
import Derived.Test.YtknofkpmeobhbaaXx0
set_option linter.unusedVariables false
set_option linter.unusedSimpArgs false
namespace Go.Proofs.Ytknofkpmeobhbaa.X
open Go.RowKit Go.Proofs.YtknofkpmeobhbaaW.PrintWords Go.Proofs.YtknofkpmeobhbaaW.PrintLast
def bitAt (ws : List Int) (i : Nat) : Bool := (ws.getD (i / 16) 0).toNat.testBit (i % 16)
def Words (ws : List Int) : Prop := ∀ j, j < ws.length → 0 ≤ ws.getD j 0 ∧ ws.getD j 0 ≤ 65535
end Go.Proofs.Ytknofkpmeobhbaa.X
