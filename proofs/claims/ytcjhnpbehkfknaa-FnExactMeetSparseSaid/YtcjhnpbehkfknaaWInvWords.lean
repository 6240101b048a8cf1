-- PRINTED BY print.sh 35421559b90ae4d0a3588c463048766b98c2df88dd9212a6774a882060cdf62d: not written by this session
import Derived.Test.YtcjhnpbehkfknaaWInv
import Derived.Test.YtcjhnpbehkfknaaWFootNe
namespace Go.Proofs.YtcjhnpbehkfknaaW.PrintWords
open Go.RowKit
end Go.Proofs.YtcjhnpbehkfknaaW.PrintWords
namespace Go.Proofs.YtcjhnpbehkfknaaW.PrintLast
section
variable {ops : Array Oper} {a : Act} {o og : Oper} {g : Nat} {t : Tmp} {u : Bool}
end
end Go.Proofs.YtcjhnpbehkfknaaW.PrintLast
