/- Regions: both kinds. -/
import Derived.Test.YtadhbmnpokmgcaaGreatDoorA25
import Derived.TacticsIn
namespace Go.Abs
open Go Go.RowKit

theorem envF_marks {E0 : Env} {D : Nat → Option Tmp} {x : Nat → X} (p : Nat → Bool) : ∀ k, (envF E0 D x p k).marks = E0.marks
  | 0 => rfl
  | k + 1 => by
    unfold envF
    cases p k with
    | true => rw [cond_true, Env.marks_putD, envF_marks p k]
    | false => rw [cond_false, envF_marks p k]

section
variable {K : CodeP} {B : Nat} {w0 : World} {P : Program} {c : Ctx} {F : Fence} {nn : Nat} {r : Rec}

/-- What is shown of a region's end. -/
def RegEnd (K : CodeP) (B : Nat) (w0 : World) (ν : Ren) (h : H) (w : World) (env : Env) (a : Act) (Q : Env × H → Prop) (Qx : Exit → Act → World → Prop) : Prop :=
  ∀ env' h' ν' a' w', Q (env', h') → EnvR ν' env'.t env'.n a'.tmps → HR K B w0 ν' h' w' → Ext ν h w ν' h' w' → a'.defers = a.defers → env'.marks = env.marks → Qx .normal a' w'

theorem draw_sound (hc : CtxOk P c) (hm : P.follows .mixedOrders = true) (hF : ∀ f, F.fn f) (hop : OpSound K B w0 P c F nn r) {p : Plan} {ops : Array Oper} (hreg : regionOk c p ops.toList = true)
    {env : Env} {h : H} {q : Env × H} (hx : drawRegion c r p ops.toList env h = some q) {ν : Ren} {w : World} {a : Act} (hr : HR K B w0 ν h w) (he : EnvR ν env.t env.n a.tmps)
    {Qx : Exit → Act → World → Prop} (fin : RegEnd K B w0 ν h w env a (· = q) Qx) (id : Nat) : (Code.region id ops true).wpIn F nn P Qx a w := by
  unfold drawRegion at hx
  simp only [Option.bind_eq_some_iff] at hx
  obtain ⟨s, hs, hx⟩ := hx
  cases hst : stable c p ops.toList s.1 (snapsOf c s.1 0 s.2.2) h.next s.1 0 with
  | false => rw [hst] at hx; cases hx
  | true =>
    rw [hst] at hx
    cases hx
    obtain ⟨Hh, xs, htr, hlen, hend, hall⟩ := trace_of hs
    let R : RegCtx := { K, B, w0, P, c, r, p, ops := ops.toList, base := h.next, E0 := env, Hh, xs, anc := ancGo ops.toList [], ds := doesOf c ops.toList 0, ν0 := ν, h00 := h, ws := w, defers := a.defers }
    have hH0 : Hh 0 = { h with next := h.next + ops.toList.length } := htr.zero
    have ok : R.Ok := ⟨hc, regionOk_facts hreg, htr.step, rfl, hr.dom⟩
    rw [hend] at hst
    have hw1 : ({ w with drawn := w.drawn + 1 } : World).heap = w.heap := rfl
    have hr1 : HR K B w0 ν { h with next := h.next + ops.toList.length } { w with drawn := w.drawn + 1 } := (hr.same hw1 ⟨rfl, rfl, rfl⟩).reserve _
    have hex : Ext ν h w ν { h with next := h.next + ops.toList.length } { w with drawn := w.drawn + 1 } := (Ext.same (h := h) hw1).reserve _
    have h00 : ∀ b, ({ h with next := h.next + ops.toList.length } : H).get b = h.get b := fun _ => rfl
    have hdone : ∀ k, RegCtx.doneOf (Array.replicate ops.size false) k = false := fun k => by
      unfold RegCtx.doneOf
      simp only [Array.getD_eq_getD_getElem?, Array.getElem?_replicate]
      split <;> rfl
    have henv0 : ∀ m, envF env (dstOf ops.toList) xs (RegCtx.doneOf (Array.replicate ops.size false)) m = env := by
      intro m
      induction m with
      | zero => rfl
      | succ m ih => rw [envF, hdone, cond_false, ih]
    have v0 : R.Inv 0 (RegCtx.doneOf (Array.replicate ops.size false)) ν { h with next := h.next + ops.toList.length } a { w with drawn := w.drawn + 1 } := {
      qn := Nat.zero_le _
      lo := fun i hi => by omega
      hi := fun i _ _ => hdone i
      closed := fun j o _ hs => by rw [hdone] at hs; cases hs
      hr := hr1
      gnext := by show _ = (Hh 0).next; rw [hH0]
      geq := fun b _ => by show _ = (Hh 0).get b; rw [hH0]
      gearly := fun i _ hs => by rw [hdone] at hs; cases hs
      hnone := fun i _ _ => by
        show (Hh 0).get (h.next + i) = none
        rw [hH0, h00]
        cases hg : h.get (h.next + i) with
        | none => rfl
        | some o => have := hr.wf _ _ hg; omega
      nun := fun i _ _ => by
        show ν (h.next + i) = none
        cases hg : ν (h.next + i) with
        | none => rfl
        | some l => have := hr.dom _ _ hg; omega
      late := fun i hi => by omega
      env := by
        show EnvR ν (envF env (dstOf ops.toList) xs _ _).t (envF env (dstOf ops.toList) xs _ _).n a.tmps
        rw [henv0]; exact he
      ext := by show Ext ν h w ν (Hh 0) _; rw [hH0]; exact hex
      room := by show h.next + ops.toList.length ≤ (Hh 0).next; rw [hH0]; exact Nat.le_refl _
      defers := rfl }
    refine wpIn_region_any hm ?_
    obtain ⟨q2, g2, v2, hq2⟩ := RegCtx.settle ok (ops.toList.length - 0) 0 _ (Nat.le_refl _) v0
    have hsize : (Array.replicate ops.size false).size = R.ops.length := by simp [R]
    have hfuel : cnt (RegCtx.doneOf (Array.replicate ops.size false)) R.ops.length ≤ ops.size := by
      have : ∀ (S : Nat → Bool) (m : Nat), cnt S m ≤ m := by
        intro S m
        induction m with
        | zero => exact Nat.le_refl _
        | succ m ih => unfold cnt; split <;> omega
      have h1 := this (RegCtx.doneOf (Array.replicate ops.size false)) R.ops.length
      have h2 : R.ops.length = ops.size := by simp [R]
      omega
    have main := RegCtx.any_sound ok (nn := nn) hF hop (all := s.1) hall hlen hst (Q := Qx) (fun a' w' ν' e1 e2 e3 e4 => by
      refine fin _ _ ν' a' w' hend.symm e1 e2 e3 e4 ?_
      rw [envF_marks]) ops.size (Array.replicate ops.size false) q2 ν g2 a _ hsize hfuel v2 hq2
    exact main

/-- Any operation, once those that do something are shown. -/
theorem op_sound (hc : CtxOk P c) (hF : ∀ f, F.fn f) (hop : OpSound K B w0 P c F nn r) {ν : Ren} {h : H} {w : World} {env : Env} {a : Act} {o : Oper} {Q : X × H → Prop} (hr : HR K B w0 ν h w) (he : EvR ν env a o.op.operands.toList)
    (hx : (runOp c r env h o.op).all Q) {next : Act → World → Prop} {Qx : Exit → Act → World → Prop}
    (hn : ∀ x h' v ν' w', Q (x, h') → XR ν' x v → HR K B w0 ν' h' w' → Ext ν h w ν' h' w' → next (a.put o.dst v) w') : o.wpIn F nn P a w next Qx := by
  unfold runOp at hx
  cases hk : kindOf c o.op with
  | calm =>
    rw [hk] at hx
    rw [T.all_bind] at hx
    have hd : ∀ d, o.op ≠ .defer d := by
      intro d e
      rw [e] at hx
      exact hx
    obtain ⟨x, v, hQ, hrun, hxr⟩ := calm_sound (w := w) hc he hx
    exact wpIn_value hF hd hrun (hn _ _ _ _ _ hQ hxr hr (Ext.refl _ _ _))
  | reads =>
    rw [hk] at hx
    obtain ⟨x, hx, hQ⟩ := okO_some hx
    obtain ⟨y, v, e, hrun, hxr⟩ := read_sound hc hr he hx
    subst e
    exact wpIn_value hF (notDefer_kind (c := c) (by rw [hk]; simp)) hrun (hn _ _ _ _ _ hQ hxr hr (Ext.refl _ _ _))
  | lays =>
    rw [hk] at hx
    rw [T.all_bind] at hx
    obtain ⟨x, v, w', tot, hQ, h1, h2⟩ := lays_sound (K := K) (w := w) hc he hx
    obtain ⟨h3, h4, h5⟩ := h2.lay hr
    exact wpIn_value hF (notDefer_kind (c := c) (by rw [hk]; simp)) h1 (hn _ _ _ _ _ hQ h3 h4 h5)
  | does =>
    rw [hk] at hx
    exact hop ν h w env a o Q hr he hk hx next Qx hn

theorem runOps_cons (ops : List Oper) (o : Oper) (l : List Oper) (env : Env) (h : H) :
    runOps c r ops (o :: l) env h = okO (wantedV ops env o) fun b => bif b then (runOp c r env h o.op).bind fun p => runOps c r ops l (env.putD o.dst p.1) p.2 else runOps c r ops l (env.putD o.dst undefX) h := rfl

theorem list_sound (hc : CtxOk P c) (hF : ∀ f, F.fn f) (hop : OpSound K B w0 P c F nn r) {ops : List Oper} {Q : Env × H → Prop} {Qx : Exit → Act → World → Prop} :
    ∀ (l : List Oper) (env : Env) (h : H) (ν : Ren) (w : World) (a : Act), (∀ o ∈ l, o.op.operands.toList.all operOk = true) → (runOps c r ops l env h).all Q → HR K B w0 ν h w → EnvR ν env.t env.n a.tmps →
      RegEnd K B w0 ν h w env a Q Qx → wpListIn F nn P ops.toArray Qx l a w
  | [], env, h, ν, w, a, _, hx, hr, he, fin => fin env h ν a w hx he hr (Ext.refl _ _ _) rfl rfl
  | o :: l, env, h, ν, w, a, hops, hx, hr, he, fin => by
    rw [runOps_cons] at hx
    obtain ⟨b, hb, hx⟩ := okO_some hx
    have hwant := wanted_run (a := a) (fun g w' d oj _ _ _ => he.get d) hb
    unfold wpListIn
    rw [hwant]
    have hev : EvR ν env a o.op.operands.toList := EvR.of he (hops o (by simp))
    have tail : ∀ (x : X) (h' : H) (v : Value) (ν' : Ren) (w' : World), (runOps c r ops l (env.putD o.dst x) h').all Q → XR ν' x v → HR K B w0 ν' h' w' → Ext ν h w ν' h' w' → wpListIn F nn P ops.toArray Qx l (a.put o.dst v) w' := by
      intro x h' v ν' w' hx' hxr hr' hext
      refine list_sound hc hF hop l _ h' ν' w' _ (fun o' ho' => hops o' (by simp [ho'])) hx' hr' ((he.mono hext.le).put hxr) ?_
      intro env2 h2 ν2 a2 w2 q1 q2 q3 q4 q5 q6
      exact fin env2 h2 ν2 a2 w2 q1 q2 q3 (hext.trans hr.dom q4) (by rw [q5, RegCtx.put_defers]) (by rw [q6, Env.marks_putD])
    cases b with
    | true =>
      rw [if_pos rfl]
      simp only [cond_true] at hx
      rw [T.all_bind] at hx
      exact op_sound hc hF hop hr hev hx fun x h' v ν' w' q1 q2 q3 q4 => tail x h' v ν' w' q1 q2 q3 q4
    | false =>
      rw [if_neg (by simp)]
      simp only [cond_false] at hx
      exact ⟨fun f _ => hF f, tail undefX h undef ν w hx (undef_XR ν) hr (Ext.refl _ _ _)⟩
end
end Go.Abs
