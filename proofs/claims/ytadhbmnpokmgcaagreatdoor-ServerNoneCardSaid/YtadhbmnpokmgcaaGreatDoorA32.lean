/- Calls, as deep as asked. -/
import Derived.Test.YtadhbmnpokmgcaaGreatDoorA31
namespace Go.Abs
open Go Go.RowKit

/-- The table of functions tells the program's. -/
def FiOk (P : Program) (c : Ctx) : Prop :=
  ∀ (f : FuncId) (fi : FI), c.fi.get f = some fi → ∃ fn : Func, P.funcs[f]? = some fn ∧ fn.body = some fi.body ∧ fn.ntmps = fi.ntmps ∧ fn.results.toList = fi.results ∧ (fn.name == "runtime.NumGoroutine") = false ∧ codeOk c fi.plans fi.body = true

/-- The functions that are taken by what they come to. -/
def PrimOk (K : CodeP) (B : Nat) (w0 : World) (P : Program) (c : Ctx) : Prop :=
  ∀ g p, c.prim g = some p → ∀ m ν h w ys (vs : Array Value) (Q : X × H → Prop), HR K B w0 ν h w → LRel (YR ν) ys vs.toList → (p ys h).all Q →
    ((callFunc g vs).run P w = .ok (.enter g vs) w ∧ CallsIn Fence.wide m P g vs w (RetEnd K B w0 ν h w Q)) ∨
    ∃ v w', (callFunc g vs).run P w = .ok (.value v) w' ∧ RetEnd K B w0 ν h w Q (.returned v) w'

section
variable {B : Nat} {w0 : World} {P : Program} {c : Ctx} {r : Rec} {fuel : Nat}

theorem callFunc_enter {g : FuncId} {fn : Func} {code : Code} (hf : P.funcs[g]? = some fn) (hb : fn.body = some code) (hn : (fn.name == "runtime.NumGoroutine") = false) (vs : Array Value) (w : World) :
    (callFunc g vs).run P w = .ok (.enter g vs) w := by
  unfold callFunc
  rw [rb (s := program) (a := P) (w1 := w) rfl]
  simp only [hf, hn, Bool.false_eq_true, if_false, hb, Option.isNone_some]
  rfl

noncomputable def callTree (c : Ctx) (fuel : Nat) (r : Rec) (f : FuncId) (fi : FI) (args : List Y) (h : H) : Res :=
  (body c r fuel f fi.plans none fi.body (mkEnv fi.ntmps args) h).bind fun p =>
      match p.1 with
      | .exit _ => .fail
      | .goto _ => .fail
      | _ =>
        okO (resultsOf c p.2.1 p.2.2 fi.results) fun ys =>
        okO (shutMarks p.2.2 p.2.1.marks) fun h' => .ret (packR ys, h')

theorem tree_sound (hc : CtxOk P c) (hm : P.follows .mixedOrders = true) (hfi : FiOk P c) (hrec : RecSound (KOf c) B w0 P c r) {m : Nat} {ν : Ren} {h : H} {w : World} {g : FuncId} {fi : FI} (hg : c.fi.get g = some fi) {ys : List Y} {vs : Array Value} {Q : X × H → Prop}
    (hr : HR (KOf c) B w0 ν h w) (hv : LRel (YR ν) ys vs.toList) (hx : (callTree c fuel r g fi ys h).all Q) : CallsIn Fence.wide m P g vs w (RetEnd (KOf c) B w0 ν h w Q) := by
  obtain ⟨fn, hf, hb, hnt, hres, _, hok⟩ := hfi g fi hg
  refine callsIn_of_wp_marks hf hb trivial ?_
  unfold callTree at hx
  rw [T.all_bind] at hx
  have hF : FenceOk Fence.wide ν none := .inl ⟨rfl, rfl⟩
  have he := mkEnv_R hv fi.ntmps
  rw [← hnt] at he
  refine body_sound (fn := g) (rd := none) hc hm ⟨fi, hg, rfl⟩ (fun ν hF => opSound_of_rec hc hrec ν hF) hrec hok (mkEnv fi.ntmps ys) h ν w _ _ _ hx hr (by rw [hnt] at he ⊢; exact he) trivial hF ?_
  intro ex env' h' ν' a' w' q1 q2 q3 q4 q5
  have fin : (okO (resultsOf c env' h' fi.results) fun ys => okO (shutMarks h' env'.marks) fun h' => (.ret (packR ys, h') : Res)).all Q → LeavesInM Fence.wide m P fn a'.tmps (RetEnd (KOf c) B w0 ν h w Q) a'.defers .returning w' := by
    intro q1
    obtain ⟨zs, hz, q1⟩ := okO_some q1
    obtain ⟨h2, hs, hQ⟩ := okO_some q1
    refine leaves_sound (fn := fn) env'.marks a'.defers h' w' q5 q3 hs fun w2 k1 k2 => ?_
    have hz2 : resultsOf c env' h2 fn.results.toList = some zs := by rw [hres, results_shut hs]; exact hz
    obtain ⟨v, hrun, hxr⟩ := results_run hc k1 q2 hz2
    exact ⟨v, hrun, packR zs, h2, ν', hQ, hxr, k1, q4.trans hr.dom k2⟩
  cases ex with
  | normal => exact fin q1
  | ret => exact fin q1
  | exit id => exact q1.elim
  | goto l => exact q1.elim

theorem callF_plain (hc : CtxOk P c) (hm : P.follows .mixedOrders = true) (hfi : FiOk P c) (hrec : RecSound (KOf c) B w0 P c r) {m : Nat} {ν : Ren} {h : H} {w : World} {g : FuncId} {ys : List Y} {vs : Array Value} {Q : X × H → Prop}
    (hr : HR (KOf c) B w0 ν h w) (hv : LRel (YR ν) ys vs.toList) (hx : (callF c fuel r g ys h).all Q) (hp : c.prim g = none) :
    (callFunc g vs).run P w = .ok (.enter g vs) w ∧ CallsIn Fence.wide m P g vs w (RetEnd (KOf c) B w0 ν h w Q) := by
  have hx : (match c.prim g with
    | some p => p ys h
    | none => okO (c.fi.get g) fun fi => bif fi.join then joinRes (callTree c fuel r g fi ys h) else callTree c fuel r g fi ys h : Res).all Q := hx
  rw [hp] at hx
  obtain ⟨fi, hg, hx⟩ := okO_some hx
  obtain ⟨fn, hf, hb, _, _, hnm, _⟩ := hfi g fi hg
  refine ⟨callFunc_enter hf hb hnm vs w, ?_⟩
  rcases (bif_all _ _ _).1 hx with ⟨_, hx⟩ | ⟨_, hx⟩
  · exact (tree_sound hc hm hfi hrec hg hr hv (joinRes_all hx)).mono fun e w' hR => RetEnd.tells hR
  · exact tree_sound hc hm hfi hrec hg hr hv hx

theorem callF_prim (hpr : PrimOk (KOf c) B w0 P c) {ν : Ren} {h : H} {w : World} {g : FuncId} {ys : List Y} {vs : Array Value} {Q : X × H → Prop} {p : List Y → H → T (X × H)}
    (hr : HR (KOf c) B w0 ν h w) (hv : LRel (YR ν) ys vs.toList) (hx : (callF c fuel r g ys h).all Q) (hp : c.prim g = some p) (m : Nat) :
    ((callFunc g vs).run P w = .ok (.enter g vs) w ∧ CallsIn Fence.wide m P g vs w (RetEnd (KOf c) B w0 ν h w Q)) ∨
    ∃ v w', (callFunc g vs).run P w = .ok (.value v) w' ∧ RetEnd (KOf c) B w0 ν h w Q (.returned v) w' := by
  have hx : (match c.prim g with
    | some p => p ys h
    | none => okO (c.fi.get g) fun fi => bif fi.join then joinRes (callTree c fuel r g fi ys h) else callTree c fuel r g fi ys h : Res).all Q := hx
  rw [hp] at hx
  exact hpr g p hp m ν h w ys vs Q hr hv hx
end
end Go.Abs
