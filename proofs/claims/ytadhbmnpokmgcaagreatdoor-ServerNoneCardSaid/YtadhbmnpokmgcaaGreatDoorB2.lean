/- The library's functions, by what they come to; calls, n deep. -/
import Derived.Test.YtadhbmnpokmgcaaGreatDoorB1
import Derived.Test.YtadhbmnpokmgcaaGreatDoorShelf
import Derived.Laws.Externs
namespace Go.Abs
open Go Go.RowKit Go.Proofs
set_option maxRecDepth 1000000
abbrev Tryzslt355 : TypeId := 64
abbrev Tryzslr355 : TypeId := 4
abbrev Tryzsle355 : TypeId := 128
abbrev Tryzslsz355 : Nat := 2
theorem Tryzslu355 : Tryz.prog.underlying 64 = some (.slice 128) := by kernel_rfl
theorem Tryzslz355 (w : World) : (Go.sizeOf 128).run Tryz.prog w = .ok 2 w := Tryz.sizeOf128 w
abbrev Tryzslt371 : TypeId := 69
abbrev Tryzslr371 : TypeId := 4
abbrev Tryzsle371 : TypeId := 9
abbrev Tryzslsz371 : Nat := 1
theorem Tryzslu371 : Tryz.prog.underlying 69 = some (.slice 9) := by kernel_rfl
theorem Tryzslz371 (w : World) : (Go.sizeOf 9).run Tryz.prog w = .ok 1 w := Tryz.sizeOf9 w

noncomputable def Tryzprim0 (f : FuncId) : Option (List Y → H → Res) := bif Nat.beq f 251 then some joinP else bif Nat.beq f 447 then some idxP else bif Nat.beq f 411 then some cntP else bif Nat.beq f 355 then some overlapsP else bif Nat.beq f 371 then some overlapsP else none
noncomputable def Tryzc0 : Ctx := { TryzcT with prim := Tryzprim0 }
noncomputable def Tryzr0 : Rec := recN Tryzc0 1000 100
noncomputable def Tryzprim1 (f : FuncId) : Option (List Y → H → Res) := bif Nat.beq f 309 then some (forkP (Tryzr0.call 309)) else bif Nat.beq f 324 then some (forkP (Tryzr0.call 324)) else Tryzprim0 f
noncomputable def Tryzc1 : Ctx := { TryzcT with prim := Tryzprim1 }
noncomputable def Tryzr1 : Rec := recN Tryzc1 100000 1000

theorem Tryzprims0 (B : Nat) (w0 : World) : PrimOk (KOf TryzcT) B w0 Tryz.prog Tryzc0 := by
  intro g p hp
  have hp : Tryzprim0 g = some p := hp
  unfold Tryzprim0 at hp
  rcases prim_split hp with ⟨rfl, rfl⟩ | hp
  · exact join_ok Tryz.func251 rfl (by kernel_rfl) Tryz.strings_Join_none Tryz.strings_Join
  rcases prim_split hp with ⟨rfl, rfl⟩ | hp
  · exact idx_ok (run_callFunc_extern Tryz.func447 (by kernel_rfl) (by kernel_rfl) (by kernel_rfl) (by kernel_rfl))
  rcases prim_split hp with ⟨rfl, rfl⟩ | hp
  · exact cnt_ok (run_callFunc_extern Tryz.func411 (by kernel_rfl) (by kernel_rfl) (by kernel_rfl) (by kernel_rfl))
  rcases prim_split hp with ⟨rfl, rfl⟩ | hp
  · exact overlaps_ok (tS := Tryzslt355) (tR := Tryzslr355) (e := Tryzsle355) (run_callFunc_extern Tryz.func355 (by kernel_rfl) (by kernel_rfl) (by kernel_rfl) (by kernel_rfl)) Tryzslu355 Tryzslsz355 Tryzslz355
  rcases prim_split hp with ⟨rfl, rfl⟩ | hp
  · exact overlaps_ok (tS := Tryzslt371) (tR := Tryzslr371) (e := Tryzsle371) (run_callFunc_extern Tryz.func371 (by kernel_rfl) (by kernel_rfl) (by kernel_rfl) (by kernel_rfl)) Tryzslu371 Tryzslsz371 Tryzslz371
  cases hp

theorem Tryzrec0 (B : Nat) (w0 : World) : RecSound (KOf TryzcT) B w0 Tryz.prog Tryzc0 Tryzr0 := recN_sound (c := Tryzc0) (TryzctxOk.prim _) Tryzmixed (TryzfiOk.prim _) (Tryzprims0 B w0) 100

theorem Tryzprims1 (B : Nat) (w0 : World) : PrimOk (KOf TryzcT) B w0 Tryz.prog Tryzc1 := by
  intro g p hp
  have hp : Tryzprim1 g = some p := hp
  unfold Tryzprim1 at hp
  rcases prim_split hp with ⟨rfl, rfl⟩ | hp
  · exact fork_ok ((Tryzrec0 B w0).one 309)
  rcases prim_split hp with ⟨rfl, rfl⟩ | hp
  · exact fork_ok ((Tryzrec0 B w0).one 324)
  exact Tryzprims0 B w0 g p hp

theorem Tryzrec1 (B : Nat) (w0 : World) : RecSound (KOf TryzcT) B w0 Tryz.prog Tryzc1 Tryzr1 := recN_sound (c := Tryzc1) (TryzctxOk.prim _) Tryzmixed (TryzfiOk.prim _) (Tryzprims1 B w0) 1000

end Go.Abs
