/- The closed run. -/
import Derived.Test.YteialbmhjmncmaaGreatDoorB3
namespace Go.Abs
open Go Go.RowKit Go.Proofs
set_option maxRecDepth 1000000
theorem Tryzrun : closedRet (Tryzr2.call 8 [] emptyH) (.y (.v (.bool true))) = true := by kernel_rfl
end Go.Abs
