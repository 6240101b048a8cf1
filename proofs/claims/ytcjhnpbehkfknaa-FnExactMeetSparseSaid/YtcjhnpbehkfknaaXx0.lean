/- Written by a program of this session: what functions of the given program compute, and that their calls do so. -/
import Derived.Test.YtcjhnpbehkfknaaProg
import Derived.Test.YtcjhnpbehkfknaaXc
import Derived.Below
import Derived.Deep.Draws
import Derived.Deep.AppendLies
import Derived.Maps.AppendAt
import Derived.OwnWalk
import Derived.Laws.BytesArg
import Derived.Laws.MakeOwn
import Derived.Laws.OwnMore
import Derived.Deep.OwnRows
import Derived.Tactics
import Derived.Lib.ConvBytes
import Derived.Laws.Slices
import Derived.WalkKit
import Derived.KernelRfl
import Derived.RowKit3
import Derived.Deep.LoopGhost
import Derived.Deep.QuietTactic
import Derived.BigQuiet
import Derived.WideLaws
import Derived.Deep.DeepCutAuto
import Derived.Deep.CutBlock
import Derived.Deep.RegionHeld3
import Derived.Laws.Rows
import Derived.Lib.AppendStr
import Derived.ArgAppend
import Derived.Laws.IdiomCopy
import Derived.OrdersHeld
import Derived.Laws.BitsLemmas
import Derived.RowKit
import Derived.WalkLawsBesides
import Derived.Lib.SliceRun
import Derived.Test.YtcjhnpbehkfknaaWWords
import Derived.Test.YtcjhnpbehkfknaaWLast
import Derived.Test.YtcjhnpbehkfknaaWTab
import Derived.Test.YtcjhnpbehkfknaaWFour
import Derived.Test.YtcjhnpbehkfknaaWQPut
import Derived.Test.YtcjhnpbehkfknaaWApart
import Derived.Test.YtcjhnpbehkfknaaWArr
import Derived.Test.YtcjhnpbehkfknaaWZeros
import Derived.Test.YtcjhnpbehkfknaaWFoot
import Derived.Test.YtcjhnpbehkfknaaWKept
import Derived.Test.YtcjhnpbehkfknaaWShare
import Derived.Test.YtcjhnpbehkfknaaWN
import Derived.Test.YtcjhnpbehkfknaaWFootNe
import Derived.Test.YtcjhnpbehkfknaaWAt
import Derived.Test.YtcjhnpbehkfknaaWEqStruct
import Derived.Test.YtcjhnpbehkfknaaWRepsOne
import Derived.Test.YtcjhnpbehkfknaaWInv
import Derived.Test.YtcjhnpbehkfknaaWInvWords
import Derived.Test.YtcjhnpbehkfknaaWGuard
import Derived.Test.YtcjhnpbehkfknaaWNEv
import Derived.Test.YtcjhnpbehkfknaaWMore
namespace Go.Proofs.Ytcjhnpbehkfknaa.X
open Go.RowKit Go.Proofs.YtcjhnpbehkfknaaW.PrintWords Go.Proofs.YtcjhnpbehkfknaaW.PrintLast Go.Proofs.YtcjhnpbehkfknaaW.PrintMore
attribute [local go_sem] max2_int min2_int max_two min_two max_three min_three max_four min_four   -- for this text's walks alone
set_option linter.unusedVariables false
set_option linter.unusedSimpArgs false



def errW : Option Int → Value
  | none => .nilIface
  | some c => .iface 0 (.int .i64 c)
theorem errW_none : errW none = .nilIface := rfl
theorem errW_some (c : Int) : errW (some c) = .iface 0 (.int .i64 c) := rfl

theorem info3 : (Try.prog.info? 3).map (fun i => (i.zero, i.size, i.bytes)) = some (some (.int .i64 0), 1, 8) := by kernel_rfl
theorem info4 : (Try.prog.info? 4).map (fun i => (i.zero, i.size, i.bytes)) = some (some (.bool false), 1, 1) := by kernel_rfl
-- the values' own types

end Go.Proofs.Ytcjhnpbehkfknaa.X
