/- Closed calls, each run once. -/
import Derived.Test.YteialbmhjmncmaaGreatDoorB2
namespace Go.Abs
open Go Go.RowKit Go.Proofs
set_option maxRecDepth 1000000
theorem Tryzmemo23 : closedRet (Tryzr1.call 337 [.v (.str [100, 99, 61, 98])] emptyH) (.tup [.v (.str [100, 99, 61, 98]), .v (.bool true)]) = true := by kernel_rfl

end Go.Abs
