/- The library's functions, by what they come to; calls, n deep. -/
import Derived.Test.YtmokofcdgafhoaaGreatDoorB1
import Derived.Test.YtmokofcdgafhoaaGreatDoorShelf
import Derived.Laws.Externs
namespace Go.Abs
open Go Go.RowKit Go.Proofs
set_option maxRecDepth 1000000
abbrev Tryzslt153 : TypeId := 32
abbrev Tryzslr153 : TypeId := 4
abbrev Tryzsle153 : TypeId := 81
abbrev Tryzslsz153 : Nat := 2
theorem Tryzslu153 : Tryz.prog.underlying 32 = some (.slice 81) := by kernel_rfl
theorem Tryzslz153 (w : World) : (Go.sizeOf 81).run Tryz.prog w = .ok 2 w := Tryz.sizeOf81 w

noncomputable def Tryzprim0 (f : FuncId) : Option (List Y → H → Res) := bif Nat.beq f 81 then some joinP else bif Nat.beq f 240 then some idxP else bif Nat.beq f 236 then some cntP else bif Nat.beq f 153 then some overlapsP else none
noncomputable def Tryzc0 : Ctx := { TryzcT with prim := Tryzprim0 }
noncomputable def Tryzr0 : Rec := recN Tryzc0 1000 100
noncomputable def Tryzprim1 (f : FuncId) : Option (List Y → H → Res) := bif Nat.beq f 124 then some (forkP (Tryzr0.call 124)) else Tryzprim0 f
noncomputable def Tryzc1 : Ctx := { TryzcT with prim := Tryzprim1 }
noncomputable def Tryzr1 : Rec := recN Tryzc1 100000 1000

theorem Tryzprims0 (B : Nat) (w0 : World) : PrimOk (KOf TryzcT) B w0 Tryz.prog Tryzc0 := by
  intro g p hp
  have hp : Tryzprim0 g = some p := hp
  unfold Tryzprim0 at hp
  rcases prim_split hp with ⟨rfl, rfl⟩ | hp
  · exact join_ok Tryz.func81 rfl (by kernel_rfl) Tryz.strings_Join_none Tryz.strings_Join
  rcases prim_split hp with ⟨rfl, rfl⟩ | hp
  · exact idx_ok (run_callFunc_extern Tryz.func240 (by kernel_rfl) (by kernel_rfl) (by kernel_rfl) (by kernel_rfl))
  rcases prim_split hp with ⟨rfl, rfl⟩ | hp
  · exact cnt_ok (run_callFunc_extern Tryz.func236 (by kernel_rfl) (by kernel_rfl) (by kernel_rfl) (by kernel_rfl))
  rcases prim_split hp with ⟨rfl, rfl⟩ | hp
  · exact overlaps_ok (tS := Tryzslt153) (tR := Tryzslr153) (e := Tryzsle153) (run_callFunc_extern Tryz.func153 (by kernel_rfl) (by kernel_rfl) (by kernel_rfl) (by kernel_rfl)) Tryzslu153 Tryzslsz153 Tryzslz153
  cases hp

theorem Tryzrec0 (B : Nat) (w0 : World) : RecSound (KOf TryzcT) B w0 Tryz.prog Tryzc0 Tryzr0 := recN_sound (c := Tryzc0) (TryzctxOk.prim _) Tryzmixed (TryzfiOk.prim _) (Tryzprims0 B w0) 100

theorem Tryzprims1 (B : Nat) (w0 : World) : PrimOk (KOf TryzcT) B w0 Tryz.prog Tryzc1 := by
  intro g p hp
  have hp : Tryzprim1 g = some p := hp
  unfold Tryzprim1 at hp
  rcases prim_split hp with ⟨rfl, rfl⟩ | hp
  · exact fork_ok ((Tryzrec0 B w0).one 124)
  exact Tryzprims0 B w0 g p hp

theorem Tryzrec1 (B : Nat) (w0 : World) : RecSound (KOf TryzcT) B w0 Tryz.prog Tryzc1 Tryzr1 := recN_sound (c := Tryzc1) (TryzctxOk.prim _) Tryzmixed (TryzfiOk.prim _) (Tryzprims1 B w0) 1000

end Go.Abs
