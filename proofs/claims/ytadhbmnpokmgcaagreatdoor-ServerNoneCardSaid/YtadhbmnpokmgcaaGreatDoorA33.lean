/- Rounds; calls n deep. -/
import Derived.Test.YtadhbmnpokmgcaaGreatDoorA32
namespace Go.Abs
open Go Go.RowKit

section
variable {B : Nat} {w0 : World} {P : Program} {c : Ctx} {r : Rec} {fuel : Nat}

theorem putParams_R {ν : Ren} : ∀ (ps : List Nat) (ys : List Y) (vs : List Value) (env env' : Env) (tmps : Array Value), putParams ps ys env = some env' → LRel (YR ν) ys vs → EnvR ν env.t env.n tmps →
    ps.length = vs.length ∧ EnvR ν env'.t env'.n ((ps.zip vs).foldl (fun tmps (p : Nat × Value) => tmps.setIfInBounds p.1 p.2) tmps) ∧ env'.marks = env.marks
  | [], [], [], env, env', tmps, h, _, he => by cases h; exact ⟨rfl, he, rfl⟩
  | p :: ps, y :: ys, v :: vs, env, env', tmps, h, hv, he => by
    have h : putParams ps ys (env.put p (.y y)) = some env' := h
    have he2 : EnvR ν (env.putD (some p) (.y y)).t (env.putD (some p) (.y y)).n (Act.put ⟨tmps, []⟩ (some p) v).tmps := EnvR.put (a := ⟨tmps, []⟩) he hv.1
    obtain ⟨h1, h2, h3⟩ := putParams_R ps ys vs _ env' _ h hv.2 he2
    exact ⟨by simp [h1], h2, by rw [h3]; exact Env.marks_put _ _ _⟩
  | [], [], _ :: _, _, _, _, _, hv, _ => hv.elim
  | _ :: _, _ :: _, [], _, _, _, _, hv, _ => hv.elim
  | [], _ :: _, _, _, _, _, h, _, _ => by cases h
  | _ :: _, [], _, _, _, _, h, _, _ => by cases h

theorem run_beginRound {w : World} {l : Nat} {r' : Loop} (h : w.heap[l]? = some (.loop r')) (hs : r'.state = .ready) : (Instr.beginRound l).run P w = .ok () { w with heap := w.heap.setIfInBounds l (.loop { r' with state := .busy }) } := by
  unfold Instr.beginRound
  rw [rb (run_getLoop h), rb (run_setObj h (by simp) _)]
  simp only [hs]
  rfl

theorem run_endRound {w : World} {l : Nat} {r' : Loop} (h : w.heap[l]? = some (.loop r')) (j : Option Code) : (Instr.endRound l j).run P w = .ok (.bool j.isNone) { w with heap := w.heap.setIfInBounds l (.loop { r' with state := if j.isNone then .ready else .done, pending := j }) } := by
  unfold Instr.endRound
  rw [rb (run_getLoop h), rb (run_setObj h (by simp) _)]
  rfl

theorem round_sound (hc : CtxOk P c) (hm : P.follows .mixedOrders = true) (hrec : RecSound (KOf c) B w0 P c r) (m : Nat) (ν : Ren) (h : H) (w : World) (b : Nat) (l : Loc) (ys : List Y) (vs : Array Value) (Q : X × H → Prop)
    (hr : HR (KOf c) B w0 ν h w) (hl : ν b = some l) (hv : LRel (YR ν) ys vs.toList) (hx : (roundF c fuel r b ys h).all Q) :
    ∃ f tmps assign body, (Instr.yield l.blk vs).run P w = .ok (.round l.blk f tmps assign body) w ∧ RoundIn Fence.wide m P l.blk f tmps assign body w (RetEnd (KOf c) B w0 ν h w Q) := by
  unfold roundF at hx
  cases hg : h.get b with
  | none => rw [hg] at hx; exact hx.elim
  | some o =>
    rw [hg] at hx
    cases o with
    | loop lr =>
      simp only at hx
      obtain ⟨fi, hfi, hx⟩ := okO_some hx
      obtain ⟨env, henv, hx⟩ := okO_some hx
      rw [T.all_bind] at hx
      obtain ⟨r', hh, hlr⟩ := hr.obj b _ l hg hl
      obtain ⟨hlen, henvR, hmk⟩ := putParams_R _ _ _ _ env r'.tmps henv hv hlr.env
      obtain ⟨fi1, hfi1, hoka⟩ := hlr.ka
      rw [hfi] at hfi1; cases hfi1
      obtain ⟨fi2, hfi2, hokb⟩ := hlr.kb
      rw [hfi] at hfi2; cases hfi2
      have hps : r'.params.size = vs.size := by
        rw [← hlr.params] at hlen
        simpa using hlen
      refine ⟨r'.fn, (r'.params.zip vs).foldl (fun tmps (t, a) => tmps.setIfInBounds t a) r'.tmps, r'.assign, r'.body, ?_, ?_⟩
      · unfold Instr.yield
        rw [rb (run_getLoop hh)]
        simp only [hps, ne_eq, not_true_eq_false, if_false]
        rfl
      · refine roundIn_of_wpIn trivial ?_
        have hF : FenceOk (Fence.wide.inRound l.blk) ν (some b) := .inr ⟨b, l, rfl, hl, rfl⟩
        rw [hlr.assign, hlr.body]
        have hzip : (r'.params.zip vs).foldl (fun tmps (t, a) => tmps.setIfInBounds t a) r'.tmps = (lr.params.zip vs.toList).foldl (fun tmps (p : Nat × Value) => tmps.setIfInBounds p.1 p.2) r'.tmps := by
          rw [← hlr.params, ← Array.foldl_toList, Array.toList_zip]
        rw [hzip]
        refine body_sound (fn := lr.fn) (rd := some b) hc hm ⟨fi, hfi, rfl⟩ (fun ν hF => opSound_of_rec hc hrec ν hF) hrec hoka env h ν w _ _ _ hx hr henvR (by rw [hmk]; trivial) hF ?_
        intro ex env1 h1 ν1 a1 w1 q1 q2 q3 q4 q5
        cases ex with
        | normal =>
          simp only at q1
          have hl1 := q4.le _ _ hl
          cases hg1 : h1.get b with
          | none => rw [hg1] at q1; exact q1.elim
          | some o1 =>
            rw [hg1] at q1
            cases o1 with
            | loop lr1 =>
              simp only at q1
              cases hst : lr1.state with
              | ready =>
                rw [hst] at q1
                simp only at q1
                rw [T.all_bind] at q1
                obtain ⟨r1, hh1, hlr1⟩ := q3.obj b _ l hg1 hl1
                have hlt1 := q3.lt hg1 hl1
                obtain ⟨k1, k2⟩ := q3.putObj (o' := .loop { lr1 with state := .busy }) hg1 hl1 rfl rfl (ob := .loop { r1 with state := .busy })
                  ⟨_, set_here hlt1 _, ⟨rfl, hlr1.pending, hlr1.env, hlr1.params, hlr1.assign, hlr1.body, hlr1.defers, hlr1.ka, hlr1.kb, hlr1.jump⟩⟩
                refine ⟨_, run_beginRound hh1 (by rw [hlr1.state]; exact hst), ?_⟩
                refine body_sound (fn := lr.fn) (rd := some b) hc hm ⟨fi, hfi, rfl⟩ (fun ν hF => opSound_of_rec hc hrec ν hF) hrec hokb env1 _ ν1 _ a1 _ _ q1 k1 q2 q5 (hF.mono q4.le) ?_
                intro ex2 env2 h2 ν2 a2 w2 p1 p2 p3 p4 p5
                simp only at p1
                have hl2 := p4.le _ _ hl1
                cases hg2 : h2.get b with
                | none => rw [hg2] at p1; exact p1.elim
                | some o2 =>
                  rw [hg2] at p1
                  cases o2 with
                  | loop lr2 =>
                    obtain ⟨r2, hh2, hlr2⟩ := p3.obj b _ l hg2 hl2
                    have hlt2 := p3.lt hg2 hl2
                    obtain ⟨s1, s2⟩ := p3.putObj (o' := .loop { lr2 with state := bif (jumpOf ex2).isNone then .ready else .done, pending := jumpOf ex2 }) hg2 hl2 rfl rfl
                      (ob := .loop { r2 with state := if (jumpOf ex2).isNone then .ready else .done, pending := jumpOf ex2 })
                      ⟨_, set_here hlt2 _, ⟨by cases (jumpOf ex2).isNone <;> rfl, rfl, hlr2.env, hlr2.params, hlr2.assign, hlr2.body, hlr2.defers, hlr2.ka, hlr2.kb, fun j hj => by
                        have hj : jumpOf ex2 = some j := hj
                        cases ex2 <;> cases hj <;> exact ⟨_, rfl⟩⟩⟩
                    have hret : RetEnd (KOf c) B w0 ν h w Q (.returned (.bool (jumpOf ex2).isNone)) { w2 with heap := w2.heap.setIfInBounds l.blk (.loop { r2 with state := if (jumpOf ex2).isNone then .ready else .done, pending := jumpOf ex2 }) } :=
                      ⟨_, _, ν2, p1, rfl, s1, ((q4.trans hr.dom k2).trans hr.dom p4).trans hr.dom s2⟩
                    cases ex2 with
                    | normal => exact ⟨_, _, run_endRound hh2 none, hret⟩
                    | ret => exact ⟨_, _, run_endRound hh2 (some .ret), hret⟩
                    | exit id => exact ⟨_, _, run_endRound hh2 (some (.exit id)), hret⟩
                    | goto t => exact ⟨_, _, run_endRound hh2 (some (.goto t)), hret⟩
                  | _ => exact p1.elim
              | _ => rw [hst] at q1; exact q1.elim
            | _ => exact q1.elim
        | exit id => exact q1.elim
        | goto t => exact q1.elim
        | ret => exact q1.elim
    | _ => exact hx.elim

/-- **Calls, n deep at most, are as the interpreter says.** -/
theorem recN_sound (hc : CtxOk P c) (hm : P.follows .mixedOrders = true) (hfi : FiOk P c) (hpr : PrimOk (KOf c) B w0 P c) : ∀ n, RecSound (KOf c) B w0 P c (recN c fuel n)
  | 0 => ⟨fun _ _ _ _ _ _ _ _ _ _ hx => hx.elim, fun _ _ _ _ _ _ _ _ _ _ hx => hx.elim, fun _ _ _ _ _ _ _ _ _ _ _ _ hx => hx.elim⟩
  | n + 1 => by
    have ih := recN_sound hc hm hfi hpr n
    exact ⟨fun m ν h w g ys vs Q hr hv hx hp => callF_plain hc hm hfi ih hr hv hx hp, fun ν h w g ys vs Q p hr hv hx hp m => callF_prim hpr hr hv hx hp m,
      fun m ν h w b l ys vs Q hr hl hv hx => round_sound hc hm ih m ν h w b l ys vs Q hr hl hv hx⟩
end
end Go.Abs
