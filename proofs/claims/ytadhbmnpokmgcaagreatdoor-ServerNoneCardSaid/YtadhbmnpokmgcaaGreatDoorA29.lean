/- Bodies; operations that call. -/
import Derived.Test.YtadhbmnpokmgcaaGreatDoorA28
namespace Go.Abs
open Go Go.RowKit

section
variable {B : Nat} {w0 : World} {P : Program} {c : Ctx} {F : Fence} {nn : Nat} {r : Rec} {fuel : Nat} {fn : FuncId} {rd : Option Nat}

theorem scopeN_succ (plans : Tr Plan) (n : Nat) (whole code : Code) (env : Env) (h : H) :
    scopeN c r fuel fn plans rd (n + 1) whole code env h = ((runC c r fuel fn plans rd (scopeN c r fuel fn plans rd n) code env h).bind fun p =>
      match p.1 with
      | .goto l =>
        match findLabel whole l with
        | some rest => scopeN c r fuel fn plans rd n whole rest p.2.1 p.2.2
        | none => .ret p
      | _ => .ret p) := rfl

theorem scopeN_sound (hc : CtxOk P c) (hm : P.follows .mixedOrders = true) {plans : Tr Plan} (hfn : ∃ fi, c.fi.get fn = some fi ∧ fi.plans = plans) (hop : ∀ ν, FenceOk F ν rd → OpSound (KOf c) B w0 P c F nn r) (hrec : RecSound (KOf c) B w0 P c r) :
    ∀ (m : Nat) (whole rest : Code) (_ : Exit → Act → World → Prop), codeOk c plans rest = true → codeOk c plans whole = true → CodeSound B w0 P c F nn r fuel fn plans rd (scopeN c r fuel fn plans rd m whole rest) (fun a w Qx => jumpsIn F nn P whole Qx m rest a w) := by
  intro m
  induction m with
  | zero => intro whole rest _ _ _ env h ν w a Q Qx hx; exact hx.elim
  | succ m ih =>
    intro whole rest _ hrest hwhole env h ν w a Q Qx hx hr he hmk hF fin
    rw [scopeN_succ, T.all_bind] at hx
    refine run_sound_code hc hm hfn hop hrec _ m (fun wh rs Qx h1 h2 => ih wh rs Qx h1 h2) rest hrest env h ν w a _ _ hx hr he hmk hF fun ex env' h' ν' a' w' q1 q2 q3 q4 q5 => ?_
    cases ex with
    | normal => exact fin .normal env' h' ν' a' w' q1 q2 q3 q4 q5
    | exit id => exact fin (.exit id) env' h' ν' a' w' q1 q2 q3 q4 q5
    | ret => exact fin .ret env' h' ν' a' w' q1 q2 q3 q4 q5
    | goto l =>
      simp only [exitOf, jumpPost]
      simp only at q1
      cases hl : findLabel whole l with
      | none => rw [hl] at q1; exact fin (.goto l) env' h' ν' a' w' q1 q2 q3 q4 q5
      | some rest2 =>
        rw [hl] at q1
        exact ih whole rest2 Qx (codeOk_label whole l rest2 hwhole hl) hwhole env' h' ν' w' a' Q Qx q1 q3 q2 q5 (hF.mono q4.le) (fin.weak hr.dom q4)

theorem body_sound (hc : CtxOk P c) (hm : P.follows .mixedOrders = true) {plans : Tr Plan} (hfn : ∃ fi, c.fi.get fn = some fi ∧ fi.plans = plans) (hop : ∀ ν, FenceOk F ν rd → OpSound (KOf c) B w0 P c F nn r) (hrec : RecSound (KOf c) B w0 P c r)
    {code : Code} (hok : codeOk c plans code = true) : CodeSound B w0 P c F nn r fuel fn plans rd (body c r fuel fn plans rd code) (fun a w Qx => code.wpIn F nn P Qx a w) :=
  run_sound_code hc hm hfn hop hrec _ fuel (scopeN_sound hc hm hfn hop hrec fuel) code hok

/-! ### Operations that do something -/
theorem ptrs_R {ν : Ren} : ∀ {l : List (Nat × Nat)} {vs : List Value}, LRel (PtrR ν) l vs → LRel (YR ν) (ptrs l) vs
  | [], [], _ => trivial
  | _ :: _, _ :: _, h => ⟨h.1, ptrs_R h.2⟩
  | [], _ :: _, h => h.elim
  | _ :: _, [], h => h.elim

theorem FenceOk.round {K : CodeP} {ν : Ren} (hF : FenceOk F ν rd) {m l : Nat} {f : FuncId} {tmps : Array Value} {assign body : Code} {w : World} {R : Ending → World → Prop} (h : RoundIn Fence.wide m P l f tmps assign body w R) : RoundIn F m P l f tmps assign body w R := by
  rcases hF with ⟨_, rfl⟩ | ⟨b, l, _, _, rfl⟩ <;> exact h

theorem opSound_of_rec (hc : CtxOk P c) (hrec : RecSound (KOf c) B w0 P c r) (ν0 : Ren) (hF : FenceOk F ν0 rd) : OpSound (KOf c) B w0 P c F nn r := by
  intro ν h w env a o Q hr he hk hx next Qx hn
  have hnd := notDefer_kind (c := c) (o := o.op) (by rw [hk]; simp)
  cases hcall : isCall o.op with
  | false =>
    obtain ⟨x, h', n, ν', w', hQ, hrun, hnx, hr', he'⟩ := does_sound hc hr he hcall hx
    unfold Oper.wpIn
    refine ⟨fun f _ => hF.fn f, ?_⟩
    rw [Oper.semAt_plain F a.eval o hnd, hrun]
    cases n with
    | value v => exact hn x h' v ν' w' hQ hnx hr' he'
    | skip =>
      have hnx : x = undefX := hnx
      subst hnx
      exact hn undefX h' undef ν' w' hQ (undef_XR ν') hr' he'
    | _ => exact hnx.elim
  | true =>
    have ret : ∀ (Q' : X × H → Prop) (e : Ending) (w' : World), (∀ p, Q' p → Q p) → RetEnd (KOf c) B w0 ν h w Q' e w' → (match e with
      | .returned v => next (a.put o.dst v) w'
      | .panicked chain => Qx (.panic chain) a w'
      | .outgrown => LetsOut Qx) := by
      intro Q' e w' hQ hR
      cases e with
      | returned v =>
        obtain ⟨x, h', ν', h1, h2, h3, h4⟩ := hR
        exact hn x h' v ν' w' (hQ _ h1) h2 h3 h4
      | panicked ch => exact hR.elim
      | outgrown => exact hR.elim
    obtain ⟨dst, op, type, pos, after, guard⟩ := o
    simp only at he hx hcall hnd hk
    cases op with
    | call c' =>
      obtain ⟨callee, args, ats⟩ := c'
      cases callee with
      | builtin b => cases hcall
      | invoke f m => exact hx.elim
      | value f =>
        obtain ⟨ys, hys, hx⟩ := okO_some hx
        have hl := evArgs_R _ _ hys (fun x hx => he x (by simp [Op.operands, Call.operands]; exact .inr (by simpa using hx)))
        have hfr := he f (by simp [Op.operands, Call.operands])
        have hargs : (args.map a.eval).toList = args.toList.map a.eval := by simp
        unfold callV at hx
        split at hx
        · rename_i g first cap hev
          obtain ⟨F0, C0, hfe, hF0, hC0⟩ := hfr.v hev
          have hvs : LRel (YR ν) (ptrs first ++ ys ++ ptrs cap) ((F0 ++ args.map a.eval) ++ C0).toList := by
            rw [Array.toList_append, Array.toList_append, hargs]
            exact ((ptrs_R hF0).append hl).append (ptrs_R hC0)
          have hexec : (execOp a.eval ⟨dst, .call ⟨.value f, args, ats⟩, type, pos, after, guard⟩).run P w = (callFunc g ((F0 ++ args.map a.eval) ++ C0)).run P w := by
            show (do let d ← resolve a.eval ⟨.value f, args, ats⟩ type; invoke d.target d.args : Sem Next).run P w = _
            unfold resolve
            simp only [hfe]
            rfl
          unfold Oper.wpIn
          refine ⟨fun f _ => hF.fn f, ?_⟩
          rw [Oper.semAt_plain F a.eval _ hnd, hexec]
          cases hp : c.prim g with
          | none =>
            obtain ⟨h1, h2⟩ := hrec.plain (nn - 1) ν h w g _ _ Q hr hvs hx hp
            rw [h1]
            exact ⟨hF.depth, hF.calls (h2.mono fun e w' hR => by
              cases e with
              | returned v => exact ret Q (.returned v) w' (fun _ h => h) hR
              | panicked ch => exact hR.elim
              | outgrown => exact hR.elim)⟩
          | some p =>
            rcases hrec.prim ν h w g _ _ Q p hr hvs hx hp (nn - 1) with ⟨h1, h2⟩ | ⟨v, w', h1, h2⟩
            · rw [h1]
              exact ⟨hF.depth, hF.calls (h2.mono fun e w' hR => by
              cases e with
              | returned v => exact ret Q (.returned v) w' (fun _ h => h) hR
              | panicked ch => exact hR.elim
              | outgrown => exact hR.elim)⟩
            · rw [h1]
              exact ret Q (.returned v) w' (fun _ h => h) h2
        · rename_i b hev
          obtain ⟨l, hl0, hfe⟩ := hfr.v hev
          have hvs : LRel (YR ν) ys (args.map a.eval).toList := by rw [hargs]; exact hl
          obtain ⟨f', tmps, assign, body, h1, h2⟩ := hrec.round (nn - 1) ν h w b l ys (args.map a.eval) Q hr hl0 hvs hx
          have hexec : (execOp a.eval ⟨dst, .call ⟨.value f, args, ats⟩, type, pos, after, guard⟩).run P w = (Instr.yield l.blk (args.map a.eval)).run P w := by
            show (do let d ← resolve a.eval ⟨.value f, args, ats⟩ type; invoke d.target d.args : Sem Next).run P w = _
            unfold resolve
            simp only [hfe]
            show (invoke (.fn (.yield l.blk) #[]) (#[] ++ args.map a.eval)).run P w = _
            rw [Array.empty_append]
            rfl
          unfold Oper.wpIn
          refine ⟨fun f _ => hF.fn f, ?_⟩
          rw [Oper.semAt_plain F a.eval _ hnd, hexec, h1]
          exact ⟨hF.depth, (FenceOk.round (K := KOf c) hF h2).mono fun e w' hR => by
              cases e with
              | returned v => exact ret Q (.returned v) w' (fun _ h => h) hR
              | panicked ch => exact hR.elim
              | outgrown => exact hR.elim⟩
        · exact hx.elim
    | _ => cases hcall
end
end Go.Abs
