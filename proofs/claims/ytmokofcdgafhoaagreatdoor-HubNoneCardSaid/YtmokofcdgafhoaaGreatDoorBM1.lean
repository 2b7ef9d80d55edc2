/- Closed calls, each run once. -/
import Derived.Test.YtmokofcdgafhoaaGreatDoorB2
namespace Go.Abs
open Go Go.RowKit Go.Proofs
set_option maxRecDepth 1000000
theorem Tryzmemo21 : closedRet (Tryzr1.call 56 [.v (.str [99, 110, 61, 97]), .v (.str [])] emptyH) (.y (.v (.bool true))) = true := by kernel_rfl
theorem Tryzmemo22 : closedRet (Tryzr1.call 61 [.agg [.int .i64 (7), .str [99, 110], .str [], .str [], .nils, .str [], .nils]] emptyH) (.y (.v (.int .i64 (0)))) = true := by kernel_rfl

end Go.Abs
