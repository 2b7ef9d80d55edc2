/- The tables of this translation are the program's: looked at by the kernel. -/
import Derived.Test.YteialbmhjmncmaaGreatDoorB0
import Derived.Test.YteialbmhjmncmaaGreatDoorP3
import Derived.KernelRfl
namespace Go.Abs
open Go Go.RowKit Go.Proofs
set_option maxRecDepth 1000000

theorem TryztiOk : tiCheck Tryz.prog Tryzti = true := by kernel_rfl
theorem TryzfiEq : Tryzfi = mapTr (fiAt Tryz.prog) Tryzfx 1 0 := by kernel_rfl
noncomputable def TryzcT : Ctx := { ti := Tryzti, fi := Tryzfi, prim := fun _ => none }
theorem Tryzcodes : trAll (fun _ fi => codeOk TryzcT fi.plans fi.body) TryzcT.fi 1 0 = true := by kernel_rfl
theorem TryzctxOk : CtxOk Tryz.prog TryzcT := ctxOk_of TryztiOk
theorem TryzfiOk : FiOk Tryz.prog TryzcT := fiOk_of TryzfiEq Tryzcodes
theorem Tryzmixed : Tryz.prog.follows .mixedOrders = true := by kernel_rfl

end Go.Abs
