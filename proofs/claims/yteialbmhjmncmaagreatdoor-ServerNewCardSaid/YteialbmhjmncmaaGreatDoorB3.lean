/- The calls that were run before. -/
import Derived.Test.YteialbmhjmncmaaGreatDoorBM0
import Derived.Test.YteialbmhjmncmaaGreatDoorBM1
namespace Go.Abs
open Go Go.RowKit Go.Proofs
set_option maxRecDepth 1000000
noncomputable def Tryztab27 : List (List Y × X) := [([.v (.str [99, 110])], .y (.v (.str [99, 110]))),
  ([.v (.str [115, 110])], .y (.v (.str [115, 110]))),
  ([.v (.str [111, 117])], .y (.v (.str [111, 117]))),
  ([.v (.str [100, 99])], .y (.v (.str [100, 99]))),
  ([.v (.str [111])], .y (.v (.str [111]))),
  ([.v (.str [100, 101, 115, 99, 114, 105, 112, 116, 105, 111, 110])], .y (.v (.str [100, 101, 115, 99, 114, 105, 112, 116, 105, 111, 110]))),
  ([.v (.str [109, 97, 105, 108])], .y (.v (.str [109, 97, 105, 108]))),
  ([.v (.str [111, 98, 106, 101, 99, 116, 99, 108, 97, 115, 115])], .y (.v (.str [111, 98, 106, 101, 99, 116, 99, 108, 97, 115, 115]))),
  ([.v (.str [117, 115, 101, 114, 112, 97, 115, 115, 119, 111, 114, 100])], .y (.v (.str [117, 115, 101, 114, 112, 97, 115, 115, 119, 111, 114, 100]))),
  ([.v (.str [117, 105, 100])], .y (.v (.str [117, 105, 100]))),
  ([.v (.str [117, 105, 100, 110, 117, 109, 98, 101, 114])], .y (.v (.str [117, 105, 100, 110, 117, 109, 98, 101, 114]))),
  ([.v (.str [109, 101, 109, 98, 101, 114])], .y (.v (.str [109, 101, 109, 98, 101, 114]))),
  ([.v (.str [115, 101, 114, 105, 97, 108, 110, 117, 109, 98, 101, 114])], .y (.v (.str [115, 101, 114, 105, 97, 108, 110, 117, 109, 98, 101, 114]))),
  ([.v (.str [116, 111, 112])], .y (.v (.str [116, 111, 112]))),
  ([.v (.str [112, 101, 114, 115, 111, 110])], .y (.v (.str [112, 101, 114, 115, 111, 110]))),
  ([.v (.str [111, 114, 103, 97, 110, 105, 122, 97, 116, 105, 111, 110, 97, 108, 117, 110, 105, 116])], .y (.v (.str [111, 114, 103, 97, 110, 105, 122, 97, 116, 105, 111, 110, 97, 108, 117, 110, 105, 116]))),
  ([.v (.str [100, 111, 109, 97, 105, 110])], .y (.v (.str [100, 111, 109, 97, 105, 110]))),
  ([.v (.str [103, 114, 111, 117, 112])], .y (.v (.str [103, 114, 111, 117, 112]))),
  ([.v (.str [98])], .y (.v (.str [98])))]
theorem TryztabOk27 : MemoOk (Tryzr1.call 27) Tryztab27 := by
  intro e he
  simp only [Tryztab27, List.mem_cons, List.not_mem_nil, or_false] at he
  rcases he with rfl | rfl | rfl | rfl | rfl | rfl | rfl | rfl | rfl | rfl | rfl | rfl | rfl | rfl | rfl | rfl | rfl | rfl | rfl
  · exact ⟨rfl, Tryzmemo0⟩
  · exact ⟨rfl, Tryzmemo1⟩
  · exact ⟨rfl, Tryzmemo2⟩
  · exact ⟨rfl, Tryzmemo3⟩
  · exact ⟨rfl, Tryzmemo4⟩
  · exact ⟨rfl, Tryzmemo5⟩
  · exact ⟨rfl, Tryzmemo6⟩
  · exact ⟨rfl, Tryzmemo7⟩
  · exact ⟨rfl, Tryzmemo8⟩
  · exact ⟨rfl, Tryzmemo9⟩
  · exact ⟨rfl, Tryzmemo10⟩
  · exact ⟨rfl, Tryzmemo11⟩
  · exact ⟨rfl, Tryzmemo12⟩
  · exact ⟨rfl, Tryzmemo13⟩
  · exact ⟨rfl, Tryzmemo14⟩
  · exact ⟨rfl, Tryzmemo15⟩
  · exact ⟨rfl, Tryzmemo16⟩
  · exact ⟨rfl, Tryzmemo17⟩
  · exact ⟨rfl, Tryzmemo18⟩
noncomputable def Tryztab23 : List (List Y × X) := [([.v (.str [])], .y (.v (.bool true)))]
theorem TryztabOk23 : MemoOk (Tryzr1.call 23) Tryztab23 := by
  intro e he
  simp only [Tryztab23, List.mem_cons, List.not_mem_nil, or_false] at he
  rcases he with rfl
  · exact ⟨rfl, Tryzmemo19⟩
noncomputable def Tryztab247 : List (List Y × X) := [([.v (.str [100, 99])], .y (.v (.bool true)))]
theorem TryztabOk247 : MemoOk (Tryzr1.call 247) Tryztab247 := by
  intro e he
  simp only [Tryztab247, List.mem_cons, List.not_mem_nil, or_false] at he
  rcases he with rfl
  · exact ⟨rfl, Tryzmemo20⟩
noncomputable def Tryztab268 : List (List Y × X) := [([.v (.str [100, 99, 61, 98]), .v (.str [])], .y (.v (.bool true)))]
theorem TryztabOk268 : MemoOk (Tryzr1.call 268) Tryztab268 := by
  intro e he
  simp only [Tryztab268, List.mem_cons, List.not_mem_nil, or_false] at he
  rcases he with rfl
  · exact ⟨rfl, Tryzmemo21⟩
noncomputable def Tryztab329 : List (List Y × X) := [([.v (.str [100, 99, 61, 98])], .tup [.v (.str []), .v (.bool true)])]
theorem TryztabOk329 : MemoOk (Tryzr1.call 329) Tryztab329 := by
  intro e he
  simp only [Tryztab329, List.mem_cons, List.not_mem_nil, or_false] at he
  rcases he with rfl
  · exact ⟨rfl, Tryzmemo22⟩
noncomputable def Tryztab337 : List (List Y × X) := [([.v (.str [100, 99, 61, 98])], .tup [.v (.str [100, 99, 61, 98]), .v (.bool true)])]
theorem TryztabOk337 : MemoOk (Tryzr1.call 337) Tryztab337 := by
  intro e he
  simp only [Tryztab337, List.mem_cons, List.not_mem_nil, or_false] at he
  rcases he with rfl
  · exact ⟨rfl, Tryzmemo23⟩

noncomputable def Tryzprim2 (f : FuncId) : Option (List Y → H → Res) := bif Nat.beq f 27 then some (memoP Tryztab27 (Tryzr1.call 27)) else bif Nat.beq f 23 then some (memoP Tryztab23 (Tryzr1.call 23)) else bif Nat.beq f 247 then some (memoP Tryztab247 (Tryzr1.call 247)) else bif Nat.beq f 268 then some (memoP Tryztab268 (Tryzr1.call 268)) else bif Nat.beq f 329 then some (memoP Tryztab329 (Tryzr1.call 329)) else bif Nat.beq f 337 then some (memoP Tryztab337 (Tryzr1.call 337)) else Tryzprim1 f
noncomputable def Tryzc2 : Ctx := { TryzcT with prim := Tryzprim2 }
noncomputable def Tryzr2 : Rec := recN Tryzc2 100000 1000

theorem Tryzprims2 (n : Nat) (w0 : World) : PrimOk (KOf TryzcT) ⟨n, false⟩ w0 Tryz.prog Tryzc2 := by
  intro g p hp
  have hp : Tryzprim2 g = some p := hp
  unfold Tryzprim2 at hp
  rcases prim_split hp with ⟨rfl, rfl⟩ | hp
  · exact memo_ok Tryzrec1 TryztabOk27 n w0
  rcases prim_split hp with ⟨rfl, rfl⟩ | hp
  · exact memo_ok Tryzrec1 TryztabOk23 n w0
  rcases prim_split hp with ⟨rfl, rfl⟩ | hp
  · exact memo_ok Tryzrec1 TryztabOk247 n w0
  rcases prim_split hp with ⟨rfl, rfl⟩ | hp
  · exact memo_ok Tryzrec1 TryztabOk268 n w0
  rcases prim_split hp with ⟨rfl, rfl⟩ | hp
  · exact memo_ok Tryzrec1 TryztabOk329 n w0
  rcases prim_split hp with ⟨rfl, rfl⟩ | hp
  · exact memo_ok Tryzrec1 TryztabOk337 n w0
  exact Tryzprims1 n w0 g p hp

theorem Tryzrec2 (n : Nat) (w0 : World) : RecSound (KOf TryzcT) ⟨n, false⟩ w0 Tryz.prog Tryzc2 Tryzr2 := recN_sound (c := Tryzc2) (TryzctxOk.prim _) Tryzmixed (TryzfiOk.prim _) (Tryzprims2 n w0) 1000

end Go.Abs
