/- Code. -/
import Derived.Test.YtadhbmnpokmgcaaGreatDoorA27
namespace Go.Abs
open Go Go.RowKit

def MarksR (ν : Ren) (marks : List Nat) (ds : List Deferred) : Prop := LRel (fun b d => ∃ l, ν b = some l ∧ d = ({ target := .collected l.blk, args := #[] } : Deferred)) marks ds

theorem MarksR.mono {ν ν' : Ren} (hle : ν.le ν') {marks : List Nat} {ds : List Deferred} (h : MarksR ν marks ds) : MarksR ν' marks ds :=
  LRel.mono (fun _ _ ⟨l, h1, h2⟩ => ⟨l, hle _ _ h1, h2⟩) h

def exitOf : Ex → Exit
  | .normal => .normal
  | .exit id => .exit id
  | .goto l => .goto l
  | .ret => .ret

/-- What is shown of the end of code. -/
def CodeEnd (K : CodeP) (B : Nat) (w0 : World) (ν : Ren) (h : H) (w : World) (Q : Ex × Env × H → Prop) (Qx : Exit → Act → World → Prop) : Prop :=
  ∀ ex env' h' ν' a' w', Q (ex, env', h') → EnvR ν' env'.t env'.n a'.tmps → HR K B w0 ν' h' w' → Ext ν h w ν' h' w' → MarksR ν' env'.marks a'.defers → Qx (exitOf ex) a' w'

/-- What is shown of a call's end. -/
def RetEnd (K : CodeP) (B : Nat) (w0 : World) (ν : Ren) (h : H) (w : World) (Q : X × H → Prop) : Ending → World → Prop
  | .returned v, w' => ∃ x h' ν', Q (x, h') ∧ XR ν' x v ∧ HR K B w0 ν' h' w' ∧ Ext ν h w ν' h' w'
  | _, _ => False

structure RecSound (K : CodeP) (B : Nat) (w0 : World) (P : Program) (c : Ctx) (r : Rec) : Prop where
  plain : ∀ m ν h w g ys (vs : Array Value) Q, HR K B w0 ν h w → LRel (YR ν) ys vs.toList → (r.call g ys h).all Q → c.prim g = none →
    (callFunc g vs).run P w = .ok (.enter g vs) w ∧ CallsIn Fence.wide m P g vs w (RetEnd K B w0 ν h w Q)
  prim : ∀ ν h w g ys (vs : Array Value) Q p, HR K B w0 ν h w → LRel (YR ν) ys vs.toList → (r.call g ys h).all Q → c.prim g = some p → ∀ m,
    ((callFunc g vs).run P w = .ok (.enter g vs) w ∧ CallsIn Fence.wide m P g vs w (RetEnd K B w0 ν h w Q)) ∨
    ∃ v w', (callFunc g vs).run P w = .ok (.value v) w' ∧ RetEnd K B w0 ν h w Q (.returned v) w'
  round : ∀ m ν h w b l ys (vs : Array Value) Q, HR K B w0 ν h w → ν b = some l → LRel (YR ν) ys vs.toList → (r.round b ys h).all Q →
    ∃ f tmps assign body, (Instr.yield l.blk vs).run P w = .ok (.round l.blk f tmps assign body) w ∧ RoundIn Fence.wide m P l.blk f tmps assign body w (RetEnd K B w0 ν h w Q)

/-- The fence within which code runs: a function's, or a round's. -/
def FenceOk (F : Fence) (ν : Ren) (rd : Option Nat) : Prop :=
  (rd = none ∧ F = Fence.wide) ∨ ∃ b l, rd = some b ∧ ν b = some l ∧ F = Fence.wide.inRound l.blk

theorem FenceOk.mono {F : Fence} {ν ν' : Ren} (hle : ν.le ν') {rd : Option Nat} (h : FenceOk F ν rd) : FenceOk F ν' rd := by
  rcases h with h | ⟨b, l, h1, h2, h3⟩
  · exact .inl h
  · exact .inr ⟨b, l, h1, hle _ _ h2, h3⟩

theorem FenceOk.fn {F : Fence} {ν : Ren} {rd : Option Nat} (h : FenceOk F ν rd) : ∀ f, F.fn f := by
  intro f
  rcases h with ⟨_, rfl⟩ | ⟨b, l, _, _, rfl⟩ <;> exact trivial

theorem FenceOk.calls {F : Fence} {ν : Ren} {rd : Option Nat} (hF : FenceOk F ν rd) {m : Nat} {P : Program} {f : FuncId} {args : Array Value} {w : World} {R : Ending → World → Prop} (h : CallsIn Fence.wide m P f args w R) : CallsIn F m P f args w R := by
  rcases hF with ⟨_, rfl⟩ | ⟨b, l, _, _, rfl⟩ <;> exact h

theorem FenceOk.depth {F : Fence} {ν : Ren} {rd : Option Nat} (hF : FenceOk F ν rd) {m : Nat} : F.depth.isSome = true → 1 ≤ m := by
  rcases hF with ⟨_, rfl⟩ | ⟨b, l, _, _, rfl⟩ <;> (intro h; cases h)

section
variable {B : Nat} {w0 : World} {P : Program} {c : Ctx} {F : Fence} {nn : Nat} {r : Rec} {fuel : Nat} {fn : FuncId} {rd : Option Nat}

theorem CodeEnd.weak {ν ν1 : Ren} {h h1 : H} {w w1 : World} {Q : Ex × Env × H → Prop} {Qx : Exit → Act → World → Prop} {K : CodeP} (hdom : ∀ b l, ν b = some l → b < h.next) (he : Ext ν h w ν1 h1 w1) (fin : CodeEnd K B w0 ν h w Q Qx) : CodeEnd K B w0 ν1 h1 w1 Q Qx :=
  fun ex env' h' ν' a' w' q1 q2 q3 q4 q5 => fin ex env' h' ν' a' w' q1 q2 q3 (he.trans hdom q4) q5

/-- The statement about code, at one text. -/
def CodeSound (B : Nat) (w0 : World) (P : Program) (c : Ctx) (F : Fence) (nn : Nat) (r : Rec) (fuel : Nat) (fn : FuncId) (plans : Tr Plan) (rd : Option Nat) (run : Env → H → CRes) (good : (Act → World → (Exit → Act → World → Prop) → Prop)) : Prop :=
  ∀ (env : Env) (h : H) (ν : Ren) (w : World) (a : Act) (Q : Ex × Env × H → Prop) (Qx : Exit → Act → World → Prop), (run env h).all Q → HR (KOf c) B w0 ν h w → EnvR ν env.t env.n a.tmps → MarksR ν env.marks a.defers → FenceOk F ν rd →
    CodeEnd (KOf c) B w0 ν h w Q Qx → good a w Qx

theorem run_getLoop {w : World} {l : Nat} {r' : Loop} (h : w.heap[l]? = some (.loop r')) : (Instr.getLoop l).run P w = .ok r' w := by
  unfold Instr.getLoop
  rw [rb (run_getObj h (by simp))]
  rfl

/-- A loop over a function begins. -/
theorem enter_sound {K : CodeP} {ν : Ren} {h : H} {w : World} {env : Env} {a : Act} {params : Array Tmp} {assign body : Code} {T : Nat × Env × H → Prop} (hr : HR K B w0 ν h w) (he : EnvR ν env.t env.n a.tmps) (hmk : MarksR ν env.marks a.defers) (hF : FenceOk F ν rd)
    (ka : K fn assign) (kb : K fn body) (hx : (enterC rd env fn params.toList assign body h).all T) (fn' : FuncId) :
    ∃ q l ν2 w2 mark, T q ∧ (Instr.enterLoop fn' a.tmps params assign body F.round).run P w = .ok (l.blk, mark) w2 ∧ ν2 q.1 = some l ∧ HR K B w0 ν2 q.2.2 w2 ∧ Ext ν h w ν2 q.2.2 w2 ∧
      q.2.1.t = env.t ∧ q.2.1.n = env.n ∧ MarksR ν2 q.2.1.marks (mark ++ a.defers) := by
  rcases hF with ⟨rfl, rfl⟩ | ⟨b0, l0, rfl, hl0, rfl⟩
  · obtain ⟨_, r1, e1⟩ := hr.newObj (P := P) (o := .defer) (.deferred (some [])) (fun w' hw => hw)
    obtain ⟨_, r2, e2⟩ := r1.newObj (P := P) (o := .loop ⟨.ready, none, env.t, env.n, params.toList, assign, body, h.next, fn⟩)
      (.loop { state := .ready, pending := none, fn := fn', tmps := a.tmps, params, assign, body, defers := w.heap.size }) (fun w' hw =>
        ⟨_, hw, ⟨rfl, rfl, (he.mono e1.le).mono (ren_le r1.free), rfl, rfl, rfl, ⟨⟨w.heap.size, 0, 0⟩, ren_le r1.free _ _ (ren_self _ _ _), rfl⟩, ka, kb, fun j hj => by cases hj⟩⟩)
    refine ⟨_, _, _, _, [{ target := .collected w.heap.size, args := #[] }], hx, ?_, ren_self _ _ _, r2, e1.trans hr.dom e2, rfl, rfl, ?_⟩
    · rfl
    · exact ⟨⟨⟨w.heap.size, 0, 0⟩, ren_le r1.free _ _ (ren_self _ _ _), rfl⟩, (hmk.mono e1.le).mono (ren_le r1.free)⟩
  · unfold enterC at hx
    simp only at hx
    cases hg : h.get b0 with
    | none => rw [hg] at hx; exact hx.elim
    | some o0 =>
      cases o0 with
      | loop r0 =>
        rw [hg] at hx
        simp only at hx
        obtain ⟨r', hh, hlr⟩ := hr.obj b0 _ l0 hg hl0
        obtain ⟨ld, hld, hdf⟩ := hlr.defers
        obtain ⟨_, r2, e2⟩ := hr.newObj (P := P) (o := .loop ⟨.ready, none, env.t, env.n, params.toList, assign, body, r0.defers, fn⟩)
          (.loop { state := .ready, pending := none, fn := fn', tmps := a.tmps, params, assign, body, defers := r'.defers }) (fun w' hw =>
            ⟨_, hw, ⟨rfl, rfl, he.mono (ren_le hr.free), rfl, rfl, rfl, ⟨ld, ren_le hr.free _ _ hld, hdf⟩, ka, kb, fun j hj => by cases hj⟩⟩)
        refine ⟨_, _, _, _, [], hx, ?_, ren_self _ _ _, r2, e2, rfl, rfl, hmk.mono (ren_le hr.free)⟩
        unfold Instr.enterLoop
        simp only [Fence.inRound_round]
        simp only [Sem.run_bind, run_getLoop hh, Result.andThen_ok, Sem.run_pure]
        rfl
      | _ => rw [hg] at hx; exact hx.elim

theorem run_sound_code (hc : CtxOk P c) (hm : P.follows .mixedOrders = true) {plans : Tr Plan} (hfn : ∃ fi, c.fi.get fn = some fi ∧ fi.plans = plans) (hop : ∀ ν, FenceOk F ν rd → OpSound (KOf c) B w0 P c F nn r) (hrec : RecSound (KOf c) B w0 P c r)
    (go : Code → Code → Env → H → CRes)
    (m : Nat) (hgo : ∀ (whole rest : Code) (Qx : Exit → Act → World → Prop), codeOk c plans rest = true → codeOk c plans whole = true → CodeSound B w0 P c F nn r fuel fn plans rd (go whole rest) (fun a w Qx => jumpsIn F nn P whole Qx m rest a w)) :
    ∀ code : Code, codeOk c plans code = true → CodeSound B w0 P c F nn r fuel fn plans rd (runC c r fuel fn plans rd go code) (fun a w Qx => code.wpIn F nn P Qx a w) := by
  intro code
  induction code with
  | skip => exact fun _ env h ν w a Q Qx hx hr he hmk hF fin => wpIn_skip (fin .normal env h ν a w hx he hr (Ext.refl _ _ _) hmk)
  | label l => exact fun _ env h ν w a Q Qx hx hr he hmk hF fin => wpIn_label (fin .normal env h ν a w hx he hr (Ext.refl _ _ _) hmk)
  | exit id => exact fun _ env h ν w a Q Qx hx hr he hmk hF fin => wpIn_exit (fin (.exit id) env h ν a w hx he hr (Ext.refl _ _ _) hmk)
  | goto l => exact fun _ env h ν w a Q Qx hx hr he hmk hF fin => wpIn_goto (fin (.goto l) env h ν a w hx he hr (Ext.refl _ _ _) hmk)
  | ret => exact fun _ env h ν w a Q Qx hx hr he hmk hF fin => wpIn_ret (fin .ret env h ν a w hx he hr (Ext.refl _ _ _) hmk)
  | refuse u => exact fun _ env h ν w a Q Qx hx => hx.elim
  | region id ops draw =>
    intro hok env h ν w a Q Qx hx hr he hmk hF fin
    have hop := hop ν hF
    cases draw with
    | true =>
      obtain ⟨p, hp, hx⟩ := okO_some (x := plans.get id) hx
      obtain ⟨q, hq, hQ⟩ := okO_some hx
      have hreg : regionOk c p ops.toList = true := by
        have : (match plans.get id with | some p => regionOk c p ops.toList | none => true) = true := hok
        rw [hp] at this; exact this
      refine draw_sound hc hm hF.fn hop hreg hq hr he (fun env' h' ν' a' w' e q1 q2 q3 q4 q5 => ?_) id
      subst e
      exact fin .normal env' h' ν' a' w' hQ q1 q2 q3 (by rw [q5, q4]; exact hmk.mono q3.le)
    | false =>
      have hx : ((runOps c r ops.toList ops.toList env h).bind fun p => .ret (.normal, p.1, p.2) : CRes).all Q := hx
      rw [T.all_bind] at hx
      have hops : (ops.toList.all fun o => o.op.operands.toList.all operOk) = true := hok
      refine wpIn_region_list ?_
      have := list_sound hc hF.fn hop (ops := ops.toList) (Q := fun p => Q (.normal, p.1, p.2)) (Qx := Qx) ops.toList env h ν w a (fun o ho => List.all_eq_true.1 hops o ho) hx hr he
        (fun env' h' ν' a' w' e q1 q2 q3 q4 q5 => fin .normal env' h' ν' a' w' e q1 q2 q3 (by rw [q5, q4]; exact hmk.mono q3.le))
      exact this
  | seq x y ihx ihy =>
    intro hok env h ν w a Q Qx hx hr he hmk hF fin
    have hok : (codeOk c plans x && codeOk c plans y) = true := hok
    rw [Bool.and_eq_true] at hok
    have hx : ((runC c r fuel fn plans rd go x env h).bind fun p => match p.1 with | .normal => runC c r fuel fn plans rd go y p.2.1 p.2.2 | _ => .ret p : CRes).all Q := hx
    rw [T.all_bind] at hx
    refine wpIn_seq (ihx hok.1 env h ν w a _ _ hx hr he hmk hF fun ex env' h' ν' a' w' q1 q2 q3 q4 q5 => ?_)
    cases ex with
    | normal => exact ihy hok.2 env' h' ν' w' a' Q Qx q1 q3 q2 q5 (hF.mono q4.le) (fin.weak hr.dom q4)
    | exit id => exact fin (.exit id) env' h' ν' a' w' q1 q2 q3 q4 q5
    | goto l => exact fin (.goto l) env' h' ν' a' w' q1 q2 q3 q4 q5
    | ret => exact fin .ret env' h' ν' a' w' q1 q2 q3 q4 q5
  | cond x y z ihy ihz =>
    intro hok env h ν w a Q Qx hx hr he hmk hF fin
    have hok : (operOk x && codeOk c plans y && codeOk c plans z) = true := hok
    simp only [Bool.and_eq_true] at hok
    have hxr := ev_XR he hok.1.1
    have hx : (match env.ev x with | .y (.v (.bool true)) => runC c r fuel fn plans rd go y env h | .y (.v (.bool false)) => runC c r fuel fn plans rd go z env h | _ => .fail : CRes).all Q := hx
    split at hx
    · rename_i e
      exact wpIn_cond_true (hxr.v e) (ihy hok.1.2 env h ν w a Q Qx hx hr he hmk hF fin)
    · rename_i e
      exact wpIn_cond_false (hxr.v e) (ihz hok.2 env h ν w a Q Qx hx hr he hmk hF fin)
    · exact hx.elim
  | block id x ih =>
    intro hok env h ν w a Q Qx hx hr he hmk hF fin
    have hx : ((runC c r fuel fn plans rd go x env h).bind fun p => match p.1 with | .exit id' => bif Nat.beq id' id then .ret (.normal, p.2) else .ret p | _ => .ret p : CRes).all Q := hx
    rw [T.all_bind] at hx
    refine wpIn_block (ih hok env h ν w a _ _ hx hr he hmk hF fun ex env' h' ν' a' w' q1 q2 q3 q4 q5 => ?_)
    cases ex with
    | normal => exact fin .normal env' h' ν' a' w' q1 q2 q3 q4 q5
    | exit id' =>
      show (if id' = id then Qx .normal a' w' else Qx (.exit id') a' w')
      rcases (bif_all _ _ _).1 q1 with ⟨hb, q1⟩ | ⟨hb, q1⟩
      · rw [if_pos (Nat.eq_of_beq_eq_true hb)]
        exact fin .normal env' h' ν' a' w' q1 q2 q3 q4 q5
      · rw [if_neg (fun e => by subst e; rw [Nat.beq_refl] at hb; cases hb)]
        exact fin (.exit id') env' h' ν' a' w' q1 q2 q3 q4 q5
    | goto l => exact fin (.goto l) env' h' ν' a' w' q1 q2 q3 q4 q5
    | ret => exact fin .ret env' h' ν' a' w' q1 q2 q3 q4 q5
  | loop x ih =>
    intro hok env h ν w a Q Qx hx hr he hmk hF fin
    refine wpIn_loop_rounds fuel ?_
    have hx : (loopC (runC c r fuel fn plans rd go x) fuel env h).all Q := hx
    have key : ∀ (k : Nat) (env : Env) (h : H) (ν : Ren) (w : World) (a : Act), (loopC (runC c r fuel fn plans rd go x) k env h).all Q → HR (KOf c) B w0 ν h w → EnvR ν env.t env.n a.tmps → MarksR ν env.marks a.defers → FenceOk F ν rd →
        CodeEnd (KOf c) B w0 ν h w Q Qx → Code.roundsIn F nn P x Qx k a w := by
      intro k
      induction k with
      | zero => intro env h ν w a hx; exact hx.elim
      | succ k ihk =>
        intro env h ν w a hx hr he hmk hF fin
        have hx : ((runC c r fuel fn plans rd go x env h).bind fun p => match p.1 with | .normal => loopC (runC c r fuel fn plans rd go x) k p.2.1 p.2.2 | _ => .ret p : CRes).all Q := hx
        rw [T.all_bind] at hx
        refine ih hok env h ν w a _ _ hx hr he hmk hF fun ex env' h' ν' a' w' q1 q2 q3 q4 q5 => ?_
        cases ex with
        | normal => exact ihk env' h' ν' w' a' q1 q3 q2 q5 (hF.mono q4.le) (fin.weak hr.dom q4)
        | exit id => exact fin (.exit id) env' h' ν' a' w' q1 q2 q3 q4 q5
        | goto l => exact fin (.goto l) env' h' ν' a' w' q1 q2 q3 q4 q5
        | ret => exact fin .ret env' h' ν' a' w' q1 q2 q3 q4 q5
    exact key fuel env h ν w a hx hr he hmk hF fin
  | scope x ih =>
    intro hok env h ν w a Q Qx hx hr he hmk hF fin
    have hx : ((runC c r fuel fn plans rd go x env h).bind fun p => match p.1 with
      | .goto l => (match findLabel x l with
        | some rest => go x rest p.2.1 p.2.2
        | none => .ret p)
      | _ => .ret p : CRes).all Q := hx
    rw [T.all_bind] at hx
    refine wpIn_scope m (ih hok env h ν w a _ _ hx hr he hmk hF fun ex env' h' ν' a' w' q1 q2 q3 q4 q5 => ?_)
    cases ex with
    | normal => exact fin .normal env' h' ν' a' w' q1 q2 q3 q4 q5
    | exit id => exact fin (.exit id) env' h' ν' a' w' q1 q2 q3 q4 q5
    | ret => exact fin .ret env' h' ν' a' w' q1 q2 q3 q4 q5
    | goto l =>
      simp only [exitOf, jumpPost]
      simp only at q1
      cases hl : findLabel x l with
      | none =>
        rw [hl] at q1
        exact fin (.goto l) env' h' ν' a' w' q1 q2 q3 q4 q5
      | some rest =>
        rw [hl] at q1
        exact hgo x rest Qx (codeOk_label x l rest hok hl) hok env' h' ν' w' a' Q Qx q1 q3 q2 q5 (hF.mono q4.le) (fin.weak hr.dom q4)
  | rangeFunc f params assign body iha ihb =>
    intro hok env h ν w a Q Qx hx hr he hmk hF fin
    have hok : (operOk f && codeOk c plans assign && codeOk c plans body) = true := hok
    simp only [Bool.and_eq_true] at hok
    obtain ⟨fi, hfi, hpl⟩ := hfn
    subst hpl
    obtain ⟨hfp, hx⟩ := (guardT_all _ _).1 hx
    have hxr := ev_XR he hok.1.1
    unfold fnPlain at hfp
    split at hfp
    · rename_i g first cap hev
      have hprim : c.prim g = none := by
        cases hp : c.prim g with
        | none => rfl
        | some p => rw [hp] at hfp; cases hfp
      rw [T.all_bind] at hx
      refine wpIn_rangeFunc fun fn' _ => ?_
      obtain ⟨q, l, ν2, w2, mark, hT, hen, hl, hr2, hext2, ht, hn, hmk2⟩ := enter_sound (K := KOf c) (P := P) hr he hmk hF ⟨fi, hfi, hok.1.2⟩ ⟨fi, hfi, hok.2⟩ hx fn'
      obtain ⟨F0, C0, hfe, hF0, hC0⟩ := hxr.v hev
      rw [hev] at hT
      have hT : ((r.call g (ptrs first ++ [.v (.yield q.1)] ++ ptrs cap) q.2.2).bind _ : CRes).all Q := hT
      rw [T.all_bind] at hT
      have ptrsR : ∀ (l : List (Nat × Nat)) (vs : List Value), LRel (PtrR ν) l vs → LRel (YR ν2) (ptrs l) vs := by
        intro l
        induction l with
        | nil => intro vs hv; cases vs with
          | nil => trivial
          | cons _ _ => exact hv.elim
        | cons p l ih => intro vs hv; cases vs with
          | nil => exact hv.elim
          | cons v vs => exact ⟨PtrR.mono hext2.le hv.1, ih vs hv.2⟩
      have hargs : LRel (YR ν2) (ptrs first ++ [.v (.yield q.1)] ++ ptrs cap) ((F0 ++ #[Value.func (.yield l.blk) #[] #[]]) ++ C0).toList := by
        rw [Array.toList_append, Array.toList_append]
        have hy : LRel (YR ν2) [.v (.yield q.1)] (#[Value.func (.yield l.blk) #[] #[]] : Array Value).toList := ⟨⟨l, hl, rfl⟩, trivial⟩
        exact ((ptrsR _ _ hF0).append hy).append (ptrsR _ _ hC0)
      obtain ⟨hcf, hcalls⟩ := hrec.plain (nn - 1) ν2 q.2.2 w2 g _ _ _ hr2 hargs hT hprim
      refine ⟨l.blk, mark, w2, { target := .fn (.func g) C0, args := F0 ++ #[Value.func (.yield l.blk) #[] #[]] }, w2, g, _, w2, hen, ?_, fun f' _ => hF.fn f', hcf, hF.depth, hF.calls (hcalls.mono fun e w3 hR => ?_)⟩
      · unfold resolve
        have hmap : (#[Operand.const (.func (.yield l.blk) #[] #[])] : Array Operand).map a.eval = #[Value.func (.yield l.blk) #[] #[]] := by simp [Act.eval]
        simp only [hfe, hmap]
        rfl
      · cases e with
        | panicked ch => exact hR.elim
        | outgrown => exact hR.elim
        | returned v =>
          obtain ⟨x, h3, ν3, hQ3, _, hr3, hext3⟩ := hR
          simp only at hQ3
          cases hg3 : h3.get q.1 with
          | none => rw [hg3] at hQ3; exact hQ3.elim
          | some o3 =>
            rw [hg3] at hQ3
            cases o3 with
            | loop lr =>
              obtain ⟨hnb, hQ3⟩ := (guardT_all _ _).1 hQ3
              have hnb : lr.state ≠ .busy := of_decide_eq_true hnb
              have hl3 := hext3.le _ _ hl
              obtain ⟨r', hh, hlr⟩ := hr3.obj q.1 _ l hg3 hl3
              have hlt := hr3.lt hg3 hl3
              have hend : (Instr.endLoop l.blk).run P w3 = .ok lr.pending { w3 with heap := w3.heap.setIfInBounds l.blk (.loop { r' with state := .exhausted }) } := by
                unfold Instr.endLoop
                rw [rb (run_getLoop hh)]
                have hbz : (r'.state == .busy) = false := by
                  rw [hlr.state]
                  cases hs : lr.state with
                  | busy => exact absurd hs hnb
                  | _ => rfl
                simp only [hbz, Bool.false_eq_true, if_false]
                rw [rb (run_setObj hh (by simp) _), hlr.pending]
                rfl
              obtain ⟨hr4, hext4⟩ := hr3.putObj (o' := .loop { lr with state := .exhausted }) hg3 hl3 rfl rfl (ob := .loop { r' with state := .exhausted })
                ⟨_, set_here hlt _, ⟨rfl, hlr.pending, hlr.env, hlr.params, hlr.assign, hlr.body, hlr.defers, hlr.ka, hlr.kb, hlr.jump⟩⟩
              have hextA := (hext2.trans hr.dom hext3).trans hr.dom hext4
              have heA : EnvR ν3 q.2.1.t q.2.1.n a.tmps := by rw [ht, hn]; exact he.mono (Ren.le_trans hext2.le hext3.le)
              have hmkA : MarksR ν3 q.2.1.marks (mark ++ a.defers) := hmk2.mono hext3.le
              refine ⟨lr.pending, _, hend, ?_⟩
              cases hp : lr.pending with
              | none =>
                simp only [hp] at hQ3 hr4 hextA
                exact fin .normal _ _ ν3 { a with defers := mark ++ a.defers } _ hQ3 heA hr4 hextA hmkA
              | some j =>
                simp only [hp] at hQ3 hr4 hextA
                obtain ⟨ex, hj, hQ3⟩ := okO_some hQ3
                cases j with
                | ret => cases hj; exact wpIn_ret (fin .ret _ _ ν3 { a with defers := mark ++ a.defers } _ hQ3 heA hr4 hextA hmkA)
                | exit id => cases hj; exact wpIn_exit (fin (.exit id) _ _ ν3 { a with defers := mark ++ a.defers } _ hQ3 heA hr4 hextA hmkA)
                | goto t => cases hj; exact wpIn_goto (fin (.goto t) _ _ ν3 { a with defers := mark ++ a.defers } _ hQ3 heA hr4 hextA hmkA)
                | _ => cases hj
            | _ => exact hQ3.elim
    · cases hfp
end
end Go.Abs
