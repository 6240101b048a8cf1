/- A mark in a list of words, as both sides read it. -/
import Derived.Test.YtcgakiihochafaaXx0
set_option linter.unusedVariables false
set_option linter.unusedSimpArgs false
namespace Go.Proofs.Ytcgakiihochafaa.X
open Go.RowKit Go.Proofs.YtcgakiihochafaaW.PrintWords Go.Proofs.YtcgakiihochafaaW.PrintLast
def bitAt (ws : List Int) (i : Nat) : Bool := (ws.getD (i / 16) 0).toNat.testBit (i % 16)
def Words (ws : List Int) : Prop := ∀ j, j < ws.length → 0 ≤ ws.getD j 0 ∧ ws.getD j 0 ≤ 65535
end Go.Proofs.Ytcgakiihochafaa.X
