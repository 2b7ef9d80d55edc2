/- The calls that were run before. -/
import Derived.Test.YtadhbmnpokmgcaaGreatDoorBM0
import Derived.Test.YtadhbmnpokmgcaaGreatDoorBM1
namespace Go.Abs
open Go Go.RowKit Go.Proofs
set_option maxRecDepth 1000000
noncomputable def Tryztab62 : List (List Y × X) := [([.v (.str [99, 110])], .y (.v (.str [99, 110]))),
  ([.v (.str [115, 110])], .y (.v (.str [115, 110]))),
  ([.v (.str [111, 117])], .y (.v (.str [111, 117]))),
  ([.v (.str [100, 99])], .y (.v (.str [100, 99]))),
  ([.v (.str [111])], .y (.v (.str [111]))),
  ([.v (.str [100, 101, 115, 99, 114, 105, 112, 116, 105, 111, 110])], .y (.v (.str [100, 101, 115, 99, 114, 105, 112, 116, 105, 111, 110]))),
  ([.v (.str [109, 97, 105, 108])], .y (.v (.str [109, 97, 105, 108]))),
  ([.v (.str [111, 98, 106, 101, 99, 116, 99, 108, 97, 115, 115])], .y (.v (.str [111, 98, 106, 101, 99, 116, 99, 108, 97, 115, 115]))),
  ([.v (.str [117, 115, 101, 114, 112, 97, 115, 115, 119, 111, 114, 100])], .y (.v (.str [117, 115, 101, 114, 112, 97, 115, 115, 119, 111, 114, 100]))),
  ([.v (.str [117, 105, 100])], .y (.v (.str [117, 105, 100]))),
  ([.v (.str [117, 105, 100, 110, 117, 109, 98, 101, 114])], .y (.v (.str [117, 105, 100, 110, 117, 109, 98, 101, 114]))),
  ([.v (.str [109, 101, 109, 98, 101, 114])], .y (.v (.str [109, 101, 109, 98, 101, 114]))),
  ([.v (.str [115, 101, 114, 105, 97, 108, 110, 117, 109, 98, 101, 114])], .y (.v (.str [115, 101, 114, 105, 97, 108, 110, 117, 109, 98, 101, 114]))),
  ([.v (.str [116, 111, 112])], .y (.v (.str [116, 111, 112]))),
  ([.v (.str [112, 101, 114, 115, 111, 110])], .y (.v (.str [112, 101, 114, 115, 111, 110]))),
  ([.v (.str [111, 114, 103, 97, 110, 105, 122, 97, 116, 105, 111, 110, 97, 108, 117, 110, 105, 116])], .y (.v (.str [111, 114, 103, 97, 110, 105, 122, 97, 116, 105, 111, 110, 97, 108, 117, 110, 105, 116]))),
  ([.v (.str [100, 111, 109, 97, 105, 110])], .y (.v (.str [100, 111, 109, 97, 105, 110]))),
  ([.v (.str [103, 114, 111, 117, 112])], .y (.v (.str [103, 114, 111, 117, 112]))),
  ([.v (.str [98])], .y (.v (.str [98])))]
theorem TryztabOk62 : MemoOk (Tryzr1.call 62) Tryztab62 := by
  intro e he
  simp only [Tryztab62, List.mem_cons, List.not_mem_nil, or_false] at he
  rcases he with rfl | rfl | rfl | rfl | rfl | rfl | rfl | rfl | rfl | rfl | rfl | rfl | rfl | rfl | rfl | rfl | rfl | rfl | rfl
  · exact ⟨rfl, Tryzmemo0⟩
  · exact ⟨rfl, Tryzmemo1⟩
  · exact ⟨rfl, Tryzmemo2⟩
  · exact ⟨rfl, Tryzmemo3⟩
  · exact ⟨rfl, Tryzmemo4⟩
  · exact ⟨rfl, Tryzmemo5⟩
  · exact ⟨rfl, Tryzmemo6⟩
  · exact ⟨rfl, Tryzmemo7⟩
  · exact ⟨rfl, Tryzmemo8⟩
  · exact ⟨rfl, Tryzmemo9⟩
  · exact ⟨rfl, Tryzmemo10⟩
  · exact ⟨rfl, Tryzmemo11⟩
  · exact ⟨rfl, Tryzmemo12⟩
  · exact ⟨rfl, Tryzmemo13⟩
  · exact ⟨rfl, Tryzmemo14⟩
  · exact ⟨rfl, Tryzmemo15⟩
  · exact ⟨rfl, Tryzmemo16⟩
  · exact ⟨rfl, Tryzmemo17⟩
  · exact ⟨rfl, Tryzmemo18⟩
noncomputable def Tryztab58 : List (List Y × X) := [([.v (.str [])], .y (.v (.bool true)))]
theorem TryztabOk58 : MemoOk (Tryzr1.call 58) Tryztab58 := by
  intro e he
  simp only [Tryztab58, List.mem_cons, List.not_mem_nil, or_false] at he
  rcases he with rfl
  · exact ⟨rfl, Tryzmemo19⟩
noncomputable def Tryztab348 : List (List Y × X) := [([.v (.str [100, 99])], .y (.v (.bool true)))]
theorem TryztabOk348 : MemoOk (Tryzr1.call 348) Tryztab348 := by
  intro e he
  simp only [Tryztab348, List.mem_cons, List.not_mem_nil, or_false] at he
  rcases he with rfl
  · exact ⟨rfl, Tryzmemo20⟩
noncomputable def Tryztab257 : List (List Y × X) := [([.v (.str [100, 99, 61, 98]), .v (.str [])], .y (.v (.bool true)))]
theorem TryztabOk257 : MemoOk (Tryzr1.call 257) Tryztab257 := by
  intro e he
  simp only [Tryztab257, List.mem_cons, List.not_mem_nil, or_false] at he
  rcases he with rfl
  · exact ⟨rfl, Tryzmemo21⟩
noncomputable def Tryztab320 : List (List Y × X) := [([.v (.str [100, 99, 61, 98])], .tup [.v (.str []), .v (.bool true)])]
theorem TryztabOk320 : MemoOk (Tryzr1.call 320) Tryztab320 := by
  intro e he
  simp only [Tryztab320, List.mem_cons, List.not_mem_nil, or_false] at he
  rcases he with rfl
  · exact ⟨rfl, Tryzmemo22⟩
noncomputable def Tryztab328 : List (List Y × X) := [([.v (.str [100, 99, 61, 98])], .tup [.v (.str [100, 99, 61, 98]), .v (.bool true)])]
theorem TryztabOk328 : MemoOk (Tryzr1.call 328) Tryztab328 := by
  intro e he
  simp only [Tryztab328, List.mem_cons, List.not_mem_nil, or_false] at he
  rcases he with rfl
  · exact ⟨rfl, Tryzmemo23⟩

noncomputable def Tryzprim2 (f : FuncId) : Option (List Y → H → Res) := bif Nat.beq f 62 then some (memoP Tryztab62 (Tryzr1.call 62)) else bif Nat.beq f 58 then some (memoP Tryztab58 (Tryzr1.call 58)) else bif Nat.beq f 348 then some (memoP Tryztab348 (Tryzr1.call 348)) else bif Nat.beq f 257 then some (memoP Tryztab257 (Tryzr1.call 257)) else bif Nat.beq f 320 then some (memoP Tryztab320 (Tryzr1.call 320)) else bif Nat.beq f 328 then some (memoP Tryztab328 (Tryzr1.call 328)) else Tryzprim1 f
noncomputable def Tryzc2 : Ctx := { TryzcT with prim := Tryzprim2 }
noncomputable def Tryzr2 : Rec := recN Tryzc2 100000 1000

theorem Tryzprims2 (B : Nat) (w0 : World) : PrimOk (KOf TryzcT) B w0 Tryz.prog Tryzc2 := by
  intro g p hp
  have hp : Tryzprim2 g = some p := hp
  unfold Tryzprim2 at hp
  rcases prim_split hp with ⟨rfl, rfl⟩ | hp
  · exact memo_ok Tryzrec1 TryztabOk62 B w0
  rcases prim_split hp with ⟨rfl, rfl⟩ | hp
  · exact memo_ok Tryzrec1 TryztabOk58 B w0
  rcases prim_split hp with ⟨rfl, rfl⟩ | hp
  · exact memo_ok Tryzrec1 TryztabOk348 B w0
  rcases prim_split hp with ⟨rfl, rfl⟩ | hp
  · exact memo_ok Tryzrec1 TryztabOk257 B w0
  rcases prim_split hp with ⟨rfl, rfl⟩ | hp
  · exact memo_ok Tryzrec1 TryztabOk320 B w0
  rcases prim_split hp with ⟨rfl, rfl⟩ | hp
  · exact memo_ok Tryzrec1 TryztabOk328 B w0
  exact Tryzprims1 B w0 g p hp

theorem Tryzrec2 (B : Nat) (w0 : World) : RecSound (KOf TryzcT) B w0 Tryz.prog Tryzc2 Tryzr2 := recN_sound (c := Tryzc2) (TryzctxOk.prim _) Tryzmixed (TryzfiOk.prim _) (Tryzprims2 B w0) 1000

end Go.Abs
