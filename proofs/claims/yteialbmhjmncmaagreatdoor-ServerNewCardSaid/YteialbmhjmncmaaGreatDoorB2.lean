/- The library's functions, by what they come to; calls, n deep. -/
import Derived.Test.YteialbmhjmncmaaGreatDoorB1
import Derived.Test.YteialbmhjmncmaaGreatDoorShelf
import Derived.Laws.Externs
namespace Go.Abs
open Go Go.RowKit Go.Proofs
set_option maxRecDepth 1000000
abbrev Tryzslt370 : TypeId := 66
abbrev Tryzslr370 : TypeId := 4
abbrev Tryzsle370 : TypeId := 109
abbrev Tryzslsz370 : Nat := 2
theorem Tryzslu370 : Tryz.prog.underlying 66 = some (.slice 109) := by kernel_rfl
theorem Tryzslz370 (w : World) : (Go.sizeOf 109).run Tryz.prog w = .ok 2 w := Tryz.sizeOf109 w
abbrev Tryzslt383 : TypeId := 54
abbrev Tryzslr383 : TypeId := 4
abbrev Tryzsle383 : TypeId := 9
abbrev Tryzslsz383 : Nat := 1
theorem Tryzslu383 : Tryz.prog.underlying 54 = some (.slice 9) := by kernel_rfl
theorem Tryzslz383 (w : World) : (Go.sizeOf 9).run Tryz.prog w = .ok 1 w := Tryz.sizeOf9 w

noncomputable def Tryzprim0 (f : FuncId) : Option (List Y → H → Res) := bif Nat.beq f 142 then some joinP else bif Nat.beq f 434 then some idxP else bif Nat.beq f 404 then some cntP else bif Nat.beq f 370 then some overlapsP else bif Nat.beq f 383 then some overlapsP else none
noncomputable def Tryzc0 : Ctx := { TryzcT with prim := Tryzprim0 }
noncomputable def Tryzr0 : Rec := recN Tryzc0 1000 100
noncomputable def Tryzprim1 (f : FuncId) : Option (List Y → H → Res) := bif Nat.beq f 319 then some (forkP (Tryzr0.call 319)) else bif Nat.beq f 333 then some (forkP (Tryzr0.call 333)) else Tryzprim0 f
noncomputable def Tryzc1 : Ctx := { TryzcT with prim := Tryzprim1 }
noncomputable def Tryzr1 : Rec := recN Tryzc1 100000 1000

theorem Tryzprims0 (n : Nat) (w0 : World) : PrimOk (KOf TryzcT) ⟨n, false⟩ w0 Tryz.prog Tryzc0 := by
  intro g p hp
  have hp : Tryzprim0 g = some p := hp
  unfold Tryzprim0 at hp
  rcases prim_split hp with ⟨rfl, rfl⟩ | hp
  · exact join_ok rfl Tryz.func142 rfl (by kernel_rfl) Tryz.strings_Join_none Tryz.strings_Join
  rcases prim_split hp with ⟨rfl, rfl⟩ | hp
  · exact idx_ok (run_callFunc_extern Tryz.func434 (by kernel_rfl) (by kernel_rfl) (by kernel_rfl) (by kernel_rfl))
  rcases prim_split hp with ⟨rfl, rfl⟩ | hp
  · exact cnt_ok (run_callFunc_extern Tryz.func404 (by kernel_rfl) (by kernel_rfl) (by kernel_rfl) (by kernel_rfl))
  rcases prim_split hp with ⟨rfl, rfl⟩ | hp
  · exact overlaps_ok (tS := Tryzslt370) (tR := Tryzslr370) (e := Tryzsle370) (run_callFunc_extern Tryz.func370 (by kernel_rfl) (by kernel_rfl) (by kernel_rfl) (by kernel_rfl)) Tryzslu370 Tryzslsz370 Tryzslz370
  rcases prim_split hp with ⟨rfl, rfl⟩ | hp
  · exact overlaps_ok (tS := Tryzslt383) (tR := Tryzslr383) (e := Tryzsle383) (run_callFunc_extern Tryz.func383 (by kernel_rfl) (by kernel_rfl) (by kernel_rfl) (by kernel_rfl)) Tryzslu383 Tryzslsz383 Tryzslz383
  cases hp

theorem Tryzrec0 (n : Nat) (w0 : World) : RecSound (KOf TryzcT) ⟨n, false⟩ w0 Tryz.prog Tryzc0 Tryzr0 := recN_sound (c := Tryzc0) (TryzctxOk.prim _) Tryzmixed (TryzfiOk.prim _) (Tryzprims0 n w0) 100

theorem Tryzprims1 (n : Nat) (w0 : World) : PrimOk (KOf TryzcT) ⟨n, false⟩ w0 Tryz.prog Tryzc1 := by
  intro g p hp
  have hp : Tryzprim1 g = some p := hp
  unfold Tryzprim1 at hp
  rcases prim_split hp with ⟨rfl, rfl⟩ | hp
  · exact fork_ok ((Tryzrec0 n w0).one 319)
  rcases prim_split hp with ⟨rfl, rfl⟩ | hp
  · exact fork_ok ((Tryzrec0 n w0).one 333)
  exact Tryzprims0 n w0 g p hp

theorem Tryzrec1 (n : Nat) (w0 : World) : RecSound (KOf TryzcT) ⟨n, false⟩ w0 Tryz.prog Tryzc1 Tryzr1 := recN_sound (c := Tryzc1) (TryzctxOk.prim _) Tryzmixed (TryzfiOk.prim _) (Tryzprims1 n w0) 1000

end Go.Abs
