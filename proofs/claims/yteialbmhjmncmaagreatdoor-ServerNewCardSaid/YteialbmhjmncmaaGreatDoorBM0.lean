/- Closed calls, each run once. -/
import Derived.Test.YteialbmhjmncmaaGreatDoorB2
namespace Go.Abs
open Go Go.RowKit Go.Proofs
set_option maxRecDepth 1000000
theorem Tryzmemo0 : closedRet (Tryzr1.call 27 [.v (.str [99, 110])] emptyH) (.y (.v (.str [99, 110]))) = true := by kernel_rfl
theorem Tryzmemo1 : closedRet (Tryzr1.call 27 [.v (.str [115, 110])] emptyH) (.y (.v (.str [115, 110]))) = true := by kernel_rfl
theorem Tryzmemo2 : closedRet (Tryzr1.call 27 [.v (.str [111, 117])] emptyH) (.y (.v (.str [111, 117]))) = true := by kernel_rfl
theorem Tryzmemo3 : closedRet (Tryzr1.call 27 [.v (.str [100, 99])] emptyH) (.y (.v (.str [100, 99]))) = true := by kernel_rfl
theorem Tryzmemo4 : closedRet (Tryzr1.call 27 [.v (.str [111])] emptyH) (.y (.v (.str [111]))) = true := by kernel_rfl
theorem Tryzmemo5 : closedRet (Tryzr1.call 27 [.v (.str [100, 101, 115, 99, 114, 105, 112, 116, 105, 111, 110])] emptyH) (.y (.v (.str [100, 101, 115, 99, 114, 105, 112, 116, 105, 111, 110]))) = true := by kernel_rfl
theorem Tryzmemo6 : closedRet (Tryzr1.call 27 [.v (.str [109, 97, 105, 108])] emptyH) (.y (.v (.str [109, 97, 105, 108]))) = true := by kernel_rfl
theorem Tryzmemo7 : closedRet (Tryzr1.call 27 [.v (.str [111, 98, 106, 101, 99, 116, 99, 108, 97, 115, 115])] emptyH) (.y (.v (.str [111, 98, 106, 101, 99, 116, 99, 108, 97, 115, 115]))) = true := by kernel_rfl
theorem Tryzmemo8 : closedRet (Tryzr1.call 27 [.v (.str [117, 115, 101, 114, 112, 97, 115, 115, 119, 111, 114, 100])] emptyH) (.y (.v (.str [117, 115, 101, 114, 112, 97, 115, 115, 119, 111, 114, 100]))) = true := by kernel_rfl
theorem Tryzmemo9 : closedRet (Tryzr1.call 27 [.v (.str [117, 105, 100])] emptyH) (.y (.v (.str [117, 105, 100]))) = true := by kernel_rfl
theorem Tryzmemo10 : closedRet (Tryzr1.call 27 [.v (.str [117, 105, 100, 110, 117, 109, 98, 101, 114])] emptyH) (.y (.v (.str [117, 105, 100, 110, 117, 109, 98, 101, 114]))) = true := by kernel_rfl
theorem Tryzmemo11 : closedRet (Tryzr1.call 27 [.v (.str [109, 101, 109, 98, 101, 114])] emptyH) (.y (.v (.str [109, 101, 109, 98, 101, 114]))) = true := by kernel_rfl
theorem Tryzmemo12 : closedRet (Tryzr1.call 27 [.v (.str [115, 101, 114, 105, 97, 108, 110, 117, 109, 98, 101, 114])] emptyH) (.y (.v (.str [115, 101, 114, 105, 97, 108, 110, 117, 109, 98, 101, 114]))) = true := by kernel_rfl
theorem Tryzmemo13 : closedRet (Tryzr1.call 27 [.v (.str [116, 111, 112])] emptyH) (.y (.v (.str [116, 111, 112]))) = true := by kernel_rfl
theorem Tryzmemo14 : closedRet (Tryzr1.call 27 [.v (.str [112, 101, 114, 115, 111, 110])] emptyH) (.y (.v (.str [112, 101, 114, 115, 111, 110]))) = true := by kernel_rfl
theorem Tryzmemo15 : closedRet (Tryzr1.call 27 [.v (.str [111, 114, 103, 97, 110, 105, 122, 97, 116, 105, 111, 110, 97, 108, 117, 110, 105, 116])] emptyH) (.y (.v (.str [111, 114, 103, 97, 110, 105, 122, 97, 116, 105, 111, 110, 97, 108, 117, 110, 105, 116]))) = true := by kernel_rfl
theorem Tryzmemo16 : closedRet (Tryzr1.call 27 [.v (.str [100, 111, 109, 97, 105, 110])] emptyH) (.y (.v (.str [100, 111, 109, 97, 105, 110]))) = true := by kernel_rfl
theorem Tryzmemo17 : closedRet (Tryzr1.call 27 [.v (.str [103, 114, 111, 117, 112])] emptyH) (.y (.v (.str [103, 114, 111, 117, 112]))) = true := by kernel_rfl
theorem Tryzmemo18 : closedRet (Tryzr1.call 27 [.v (.str [98])] emptyH) (.y (.v (.str [98]))) = true := by kernel_rfl
theorem Tryzmemo19 : closedRet (Tryzr1.call 23 [.v (.str [])] emptyH) (.y (.v (.bool true))) = true := by kernel_rfl
theorem Tryzmemo20 : closedRet (Tryzr1.call 247 [.v (.str [100, 99])] emptyH) (.y (.v (.bool true))) = true := by kernel_rfl
theorem Tryzmemo21 : closedRet (Tryzr1.call 268 [.v (.str [100, 99, 61, 98]), .v (.str [])] emptyH) (.y (.v (.bool true))) = true := by kernel_rfl
theorem Tryzmemo22 : closedRet (Tryzr1.call 329 [.v (.str [100, 99, 61, 98])] emptyH) (.tup [.v (.str []), .v (.bool true)]) = true := by kernel_rfl

end Go.Abs
