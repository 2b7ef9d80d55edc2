/- The abstract interpreter, its soundness, and symbolic runs: part 3 of 3. -/
import Derived.Test.YteialbmhjmncmaaGreatDoorP2
import Derived.OwnWalkIn
import Derived.TacticsIn
import Derived.LoopNIn
import Derived.RangeFuncLeaves
import Derived.Lib.Bytealg
import Derived.Lib.Join
import GoSem.ClaimWide
import GoSem.ClaimGoes
/- Regions: whatever the order. -/
namespace Go.Abs
open Go Go.RowKit

/-- What is asked of operations that do something: calls of functions among them. -/
def OpSound (K : CodeP) (B : Base) (w0 : World) (P : Program) (c : Ctx) (F : Fence) (nn : Nat) (r : Rec) : Prop :=
  ∀ (ν : Ren) (h : H) (w : World) (env : Env) (a : Act) (o : Oper) (Q : X × H → Prop), HR K B w0 ν h w → EvR ν env a o.op.operands.toList → kindOf c o.op = .does → (doesOp c r env h o.op).all Q →
    ∀ (next : Act → World → Prop) (Qx : Exit → Act → World → Prop), (∀ x h' v ν' w', Q (x, h') → XR ν' x v → HR K B w0 ν' h' w' → Ext ν h w ν' h' w' → next (a.put o.dst v) w') → o.wpIn F nn P a w next Qx

section
variable {F : Fence} {nn : Nat} {P : Program} {c : Ctx}

theorem notDefer_calm {env : Env} {o : Op} {x : X} (h : calmOp c env o = .ret x) : ∀ d, o ≠ .defer d := by
  rintro d rfl; cases h
theorem notDefer_kind {o : Op} (h : kindOf c o ≠ .calm) : ∀ d, o ≠ .defer d := by
  rintro d rfl; exact h rfl

theorem wpIn_value (hF : ∀ f, F.fn f) {o : Oper} {a : Act} {w w' : World} {v : Value} {next : Act → World → Prop} {Qx : Exit → Act → World → Prop} (hd : ∀ d, o.op ≠ .defer d)
    (hr : (execOp a.eval o).run P w = .ok (.value v) w') (hn : next (a.put o.dst v) w') : o.wpIn F nn P a w next Qx := by
  unfold Oper.wpIn
  refine ⟨fun f _ => hF f, ?_⟩
  rw [Oper.semAt_plain F a.eval o hd, hr]
  exact hn
end

def cnt (p : Nat → Bool) : Nat → Nat
  | 0 => 0
  | n + 1 => cnt p n + (if p n = true then 0 else 1)

theorem cnt_add {S : Nat → Bool} {i : Nat} (hS : S i = false) : ∀ n, i < n → cnt (RegCtx.add S i) n + 1 = cnt S n
  | 0, h => by omega
  | n + 1, h => by
    unfold cnt
    by_cases hn : n = i
    · subst hn
      have same : ∀ m, m ≤ n → cnt (RegCtx.add S n) m = cnt S m := by
        intro m
        induction m with
        | zero => intro _; rfl
        | succ m ih =>
          intro hm
          unfold cnt
          rw [ih (by omega), RegCtx.add_ne (by omega)]
      rw [same n (Nat.le_refl _), RegCtx.add_self, hS]
      simp
    · have := cnt_add hS n (by omega)
      rw [RegCtx.add_ne hn]
      omega

theorem cnt_zero {S : Nat → Bool} : ∀ n, cnt S n = 0 → ∀ i, i < n → S i = true
  | 0, _, i, h => by omega
  | n + 1, hc, i, h => by
    unfold cnt at hc
    by_cases hn : i = n
    · subst hn
      cases hS : S i with
      | true => rfl
      | false => rw [hS] at hc; simp at hc
    · exact cnt_zero n (by omega) i (by omega)

namespace RegCtx
section
variable {R : RegCtx} (ok : R.Ok) {F : Fence} {nn : Nat}

def doneOf (listed : Array Bool) : Nat → Bool := fun k => listed.getD k false

theorem doneOf_set {listed : Array Bool} {i : Nat} (h : i < listed.size) : doneOf (listed.setIfInBounds i true) = add (doneOf listed) i := by
  funext k
  unfold doneOf
  by_cases hk : k = i
  · subst hk
    rw [add_self]
    simp [Array.getD_eq_getD_getElem?, h]
  · rw [add_ne hk]
    have hki : i ≠ k := fun e => hk e.symm
    simp [Array.getD_eq_getD_getElem?, Array.getElem?_setIfInBounds, hki]

theorem mem_ready {listed : Array Bool} (hs : listed.size = R.ops.length) {i : Nat} :
    i ∈ Region.ready .any R.ops.toArray listed ↔ ∃ o : Oper, R.ops[i]? = some o ∧ doneOf listed i = false ∧ R.Ready (doneOf listed) o := by
  unfold Region.ready
  simp only [List.mem_filter, List.mem_range, List.size_toArray, Bool.and_eq_true, Bool.not_eq_true', List.getElem?_toArray]
  constructor
  · rintro ⟨hlt, h1, h2⟩
    have ho := List.getElem?_eq_getElem hlt
    rw [ho] at h2
    simp only [Option.map_some, Option.getD_some] at h2
    refine ⟨_, ho, ?_, fun e he hb => ?_⟩
    · have hlt2 : i < listed.size := by omega
      unfold doneOf
      simp only [Array.getD_eq_getD_getElem?, Array.getElem?_eq_getElem hlt2, Option.getD_some] at h1 ⊢
      exact h1
    · rw [Array.all_eq_true_iff_forall_mem] at h2
      have := h2 e (Array.mem_toList_iff.1 he)
      rw [hb] at this
      unfold doneOf
      simpa using this
  · rintro ⟨o, ho, h1, h2⟩
    have hlt := (List.getElem?_eq_some_iff.1 ho).1
    refine ⟨hlt, ?_, ?_⟩
    · have hlt2 : i < listed.size := by omega
      unfold doneOf at h1
      simp only [Array.getD_eq_getD_getElem?, Array.getElem?_eq_getElem hlt2, Option.getD_some] at h1 ⊢
      exact h1
    · rw [ho]
      simp only [Option.map_some, Option.getD_some]
      rw [Array.all_eq_true_iff_forall_mem]
      intro e he
      cases hb : Region.binds .any e with
      | false => rfl
      | true =>
        have := h2 e (Array.mem_toList_iff.2 he) hb
        unfold doneOf at this
        simpa using this

include ok in
theorem all_done {listed : Array Bool} (hs : listed.size = R.ops.length) (hr : Region.ready .any R.ops.toArray listed = []) : ∀ i, i < R.ops.length → doneOf listed i = true := by
  intro i
  induction i using Nat.strongRecOn with
  | ind i ih =>
    intro hi
    cases hd : doneOf listed i with
    | true => rfl
    | false =>
      have ho := List.getElem?_eq_getElem hi
      have : i ∈ Region.ready .any R.ops.toArray listed := (mem_ready hs).2 ⟨_, ho, hd, fun e he hb => by
        have := ok.facts.edges i _ ho e he hb
        exact ih _ this (by omega)⟩
      rw [hr] at this
      cases this

theorem envF_all {S : Nat → Bool} : ∀ m, (∀ i, i < m → S i = true) → envF R.E0 (dstOf R.ops) R.xs S m = R.E m
  | 0, _ => rfl
  | m + 1, h => by
    have ih := envF_all m (fun i hi => h i (by omega))
    unfold E at ih ⊢
    rw [envF, h m (by omega), ih, envF]

theorem finish {q : Nat} {S : Nat → Bool} {ν : Ren} {g : H} {a : Act} {w : World} (v : Inv R q S ν g a w) (hq : q < R.ops.length → R.isDoes q) (hall : ∀ i, i < R.ops.length → S i = true) :
    EnvR ν (R.E R.ops.length).t (R.E R.ops.length).n a.tmps ∧ HR R.K R.B R.w0 ν (R.Hh R.ops.length) w ∧ Ext R.ν0 R.h00 R.ws ν (R.Hh R.ops.length) w ∧ a.defers = R.defers := by
  have hqn : q = R.ops.length := by
    have := v.qn
    refine Classical.byContradiction fun hne => ?_
    have hlt : q < R.ops.length := by omega
    have := v.hi q (Nat.le_refl _) (hq hlt)
    rw [hall q hlt] at this
    cases this
  subst hqn
  have he := v.env
  rw [envF_all _ hall] at he
  exact ⟨he, v.hr.sub v.sub v.gnext.symm, v.ext, v.defers⟩

include ok in
theorem any_sound (hF : ∀ f, F.fn f) (hop : OpSound R.K R.B R.w0 R.P R.c F nn R.r) {all : List Step}
    (hall : ∀ (i : Nat) (o : Oper), R.ops[i]? = some o → all[i]? = some ⟨o, R.E i, R.Hh i, R.xs i, R.Hh (i + 1)⟩) (hlen : all.length = R.ops.length)
    (hst : stable R.c R.p R.ops all (snapsOf R.c all 0 (R.Hh R.ops.length)) R.base all 0 = true) {Q : Exit → Act → World → Prop}
    (fin : ∀ a' w' ν', EnvR ν' (R.E R.ops.length).t (R.E R.ops.length).n a'.tmps → HR R.K R.B R.w0 ν' (R.Hh R.ops.length) w' → Ext R.ν0 R.h00 R.ws ν' (R.Hh R.ops.length) w' → a'.defers = R.defers → Q .normal a' w') :
    ∀ (fuel : Nat) (listed : Array Bool) (q : Nat) (ν : Ren) (g : H) (a : Act) (w : World), listed.size = R.ops.length → cnt (doneOf listed) R.ops.length ≤ fuel → Inv R q (doneOf listed) ν g a w → (q < R.ops.length → R.isDoes q) →
      wpAnyIn F nn R.P .any R.ops.toArray Q fuel listed a w := by
  intro fuel
  induction fuel with
  | zero =>
    intro listed q ν g a w hs hcnt v hq
    have hd := cnt_zero _ (Nat.le_zero.1 hcnt)
    obtain ⟨h1, h2, h3, h4⟩ := finish v hq hd
    refine ⟨?_, fin a w ν h1 h2 h3 h4⟩
    refine List.eq_nil_iff_forall_not_mem.2 fun i hi => ?_
    obtain ⟨o, ho, h5, _⟩ := (mem_ready hs).1 hi
    rw [hd i (List.getElem?_eq_some_iff.1 ho).1] at h5
    cases h5
  | succ fuel ih =>
    intro listed q ν g a w hs hcnt v hq
    refine ⟨fun hr => ?_, fun i hi => ?_⟩
    · obtain ⟨h1, h2, h3, h4⟩ := finish v hq (all_done ok hs hr)
      exact fin a w ν h1 h2 h3 h4
    · obtain ⟨o, ho, hS, hrd⟩ := (mem_ready hs).1 hi
      have hlt := (List.getElem?_eq_some_iff.1 ho).1
      have hs' : (listed.setIfInBounds i true).size = R.ops.length := by simpa using hs
      have hset := doneOf_set (listed := listed) (i := i) (by omega)
      have hcnt' : cnt (doneOf (listed.setIfInBounds i true)) R.ops.length ≤ fuel := by
        rw [hset]
        have := cnt_add hS R.ops.length hlt
        omega
      have go : ∀ (q' : Nat) (ν' : Ren) (g' : H) (a' : Act) (w' : World), Inv R q' (add (doneOf listed) i) ν' g' a' w' → wpAnyIn F nn R.P .any R.ops.toArray Q fuel (listed.setIfInBounds i true) a' w' := by
        intro q' ν' g' a' w' v'
        rw [← hset] at v'
        obtain ⟨q2, g2, v2, hq2⟩ := settle ok (R.ops.length - q') q' g' (Nat.le_refl _) v'
        exact ih _ q2 ν' g2 a' w' hs' hcnt' v2 hq2
      have hst1 := ok.step i o ho
      obtain ⟨b, hb⟩ := drawStep_wanted hst1
      have hwant := wants ok v ho hS hrd hb
      have hiq : kindOf R.c o.op = .does → i = q := fun hk => by
        have hdi : R.isDoes i := ⟨o, ho, hk⟩
        have hqi : q ≤ i := by
          refine Nat.le_of_not_lt fun h => ?_
          have := v.lo i h hdi
          rw [hS] at this; cases this
        refine Nat.le_antisymm (Nat.le_of_not_lt fun hlt2 => ?_) hqi
        have hqlt : q < R.ops.length := by omega
        obtain ⟨oq, hoq, hkq⟩ := hq hqlt
        have := before ok v.closed ho hrd hoq hlt2 (bound_does hkq hk)
        rw [v.hi q (Nat.le_refl _) ⟨oq, hoq, hkq⟩] at this
        cases this
      unfold wpOpIn
      rw [List.getElem?_toArray, ho]
      simp only
      rw [hwant]
      cases b with
      | false =>
        rw [if_neg (by simp)]
        refine ⟨fun f _ => hF f, ?_⟩
        obtain ⟨hx, hH⟩ := drawStep_unwanted hst1 hb
        have hu : XR ν (R.xs i) undef := by rw [hx]; exact undef_XR ν
        by_cases hk : kindOf R.c o.op = .does
        · have := hiq hk
          subst this
          obtain ⟨g', v'⟩ := afterDoes ok v ho hk hrd (ν' := ν) (w' := w) (by rw [hH]; exact v.hr.sub v.sub v.gnext.symm) (by rw [hH]; exact Ext.refl _ _ _) hu
          exact go _ _ _ _ _ v'
        · refine go _ _ _ _ _ (stepStill ok v ho hS hrd (fun h => ?_) (fun h => ?_) hu)
          · obtain ⟨o', ho', hk'⟩ := h
            rw [ho] at ho'; cases ho'
            exact hk hk'
          · obtain ⟨o', ho', _, hw'⟩ := h
            rw [ho] at ho'; cases ho'
            rw [hb] at hw'; cases hw'
      | true =>
        rw [if_pos rfl]
        have hev := evR ok v ho hS hrd
        cases hk : kindOf R.c o.op with
        | does =>
          have := hiq hk
          subst this
          have hret := drawStep_does hst1 hb hk
          refine hop ν (R.Hh i) w (R.E i) a o (· = (R.xs i, R.Hh (i + 1))) (v.hr.sub v.sub v.gnext.symm) hev hk (by rw [hret]; exact rfl) _ _ ?_
          intro x h' u ν' w' he hxr hr' hext
          cases he
          obtain ⟨g', v'⟩ := afterDoes ok v ho hk hrd hr' hext hxr
          exact go _ _ _ _ _ v'
        | lays =>
          obtain ⟨u, w', ν', g', hrun, v'⟩ := stepLay ok v ho hS hrd hk hb
          exact wpIn_value hF (notDefer_kind (c := R.c) (by rw [hk]; simp)) hrun (go _ _ _ _ _ v')
        | calm =>
          obtain ⟨hc, hH⟩ := drawStep_calm hst1 hb hk
          obtain ⟨x, u, hQ, hrun, hxr⟩ := calm_sound (w := w) (P := R.P) ok.hc (Q := (· = R.xs i)) hev (by rw [hc]; exact rfl)
          subst hQ
          refine wpIn_value hF (notDefer_calm hc) hrun (go _ _ _ _ _ (stepStill ok v ho hS hrd (fun h => ?_) (fun h => ?_) hxr))
          · obtain ⟨o', ho', hk'⟩ := h
            rw [ho] at ho'; cases ho'
            rw [hk] at hk'; cases hk'
          · obtain ⟨o', ho', hk', _⟩ := h
            rw [ho] at ho'; cases ho'
            rw [hk] at hk'; cases hk'
        | reads =>
          have hrd2 := readHere ok v hq hall hlen hst ho hS hrd hk hb
          obtain ⟨x, u, hQ, hrun, hxr⟩ := read_sound (P := R.P) ok.hc v.hr hev hrd2
          subst hQ
          refine wpIn_value hF (notDefer_kind (c := R.c) (by rw [hk]; simp)) hrun (go _ _ _ _ _ (stepStill ok v ho hS hrd (fun h => ?_) (fun h => ?_) hxr))
          · obtain ⟨o', ho', hk'⟩ := h
            rw [ho] at ho'; cases ho'
            rw [hk] at hk'; cases hk'
          · obtain ⟨o', ho', hk', _⟩ := h
            rw [ho] at ho'; cases ho'
            rw [hk] at hk'; cases hk'
end
end RegCtx
end Go.Abs

/- Regions: both kinds. -/
namespace Go.Abs
open Go Go.RowKit

theorem envF_marks {E0 : Env} {D : Nat → Option Tmp} {x : Nat → X} (p : Nat → Bool) : ∀ k, (envF E0 D x p k).marks = E0.marks
  | 0 => rfl
  | k + 1 => by
    unfold envF
    cases p k with
    | true => rw [cond_true, Env.marks_putD, envF_marks p k]
    | false => rw [cond_false, envF_marks p k]

section
variable {K : CodeP} {B : Base} {w0 : World} {P : Program} {c : Ctx} {F : Fence} {nn : Nat} {r : Rec}

/-- What is shown of a region's end. -/
def RegEnd (K : CodeP) (B : Base) (w0 : World) (ν : Ren) (h : H) (w : World) (env : Env) (a : Act) (Q : Env × H → Prop) (Qx : Exit → Act → World → Prop) : Prop :=
  ∀ env' h' ν' a' w', Q (env', h') → EnvR ν' env'.t env'.n a'.tmps → HR K B w0 ν' h' w' → Ext ν h w ν' h' w' → a'.defers = a.defers → env'.marks = env.marks → Qx .normal a' w'

theorem draw_sound (hc : CtxOk P c) (hm : P.follows .mixedOrders = true) (hF : ∀ f, F.fn f) (hop : OpSound K B w0 P c F nn r) {p : Plan} {ops : Array Oper} (hreg : regionOk c p ops.toList = true)
    {env : Env} {h : H} {q : Env × H} (hx : drawRegion c r p ops.toList env h = some q) {ν : Ren} {w : World} {a : Act} (hr : HR K B w0 ν h w) (he : EnvR ν env.t env.n a.tmps)
    {Qx : Exit → Act → World → Prop} (fin : RegEnd K B w0 ν h w env a (· = q) Qx) (id : Nat) : (Code.region id ops true).wpIn F nn P Qx a w := by
  unfold drawRegion at hx
  simp only [Option.bind_eq_some_iff] at hx
  obtain ⟨s, hs, hx⟩ := hx
  cases hst : stable c p ops.toList s.1 (snapsOf c s.1 0 s.2.2) h.next s.1 0 with
  | false => rw [hst] at hx; cases hx
  | true =>
    rw [hst] at hx
    cases hx
    obtain ⟨Hh, xs, htr, hlen, hend, hall⟩ := trace_of hs
    let R : RegCtx := { K, B, w0, P, c, r, p, ops := ops.toList, base := h.next, E0 := env, Hh, xs, anc := ancGo ops.toList [], ds := doesOf c ops.toList 0, ν0 := ν, h00 := h, ws := w, defers := a.defers }
    have hH0 : Hh 0 = { h with next := h.next + ops.toList.length } := htr.zero
    have ok : R.Ok := ⟨hc, regionOk_facts hreg, htr.step, rfl, hr.dom⟩
    rw [hend] at hst
    have hw1 : ({ w with drawn := w.drawn + 1 } : World).heap = w.heap := rfl
    have hr1 : HR K B w0 ν { h with next := h.next + ops.toList.length } { w with drawn := w.drawn + 1 } := (hr.same hw1 ⟨rfl, rfl, rfl, by first | exact Nat.le_refl _ | exact Nat.le_succ _⟩).reserve _
    have hex : Ext ν h w ν { h with next := h.next + ops.toList.length } { w with drawn := w.drawn + 1 } := (Ext.same (h := h) hw1).reserve _
    have h00 : ∀ b, ({ h with next := h.next + ops.toList.length } : H).get b = h.get b := fun _ => rfl
    have hdone : ∀ k, RegCtx.doneOf (Array.replicate ops.size false) k = false := fun k => by
      unfold RegCtx.doneOf
      simp only [Array.getD_eq_getD_getElem?, Array.getElem?_replicate]
      split <;> rfl
    have henv0 : ∀ m, envF env (dstOf ops.toList) xs (RegCtx.doneOf (Array.replicate ops.size false)) m = env := by
      intro m
      induction m with
      | zero => rfl
      | succ m ih => rw [envF, hdone, cond_false, ih]
    have v0 : R.Inv 0 (RegCtx.doneOf (Array.replicate ops.size false)) ν { h with next := h.next + ops.toList.length } a { w with drawn := w.drawn + 1 } := {
      qn := Nat.zero_le _
      lo := fun i hi => by omega
      hi := fun i _ _ => hdone i
      closed := fun j o _ hs => by rw [hdone] at hs; cases hs
      hr := hr1
      gnext := by show _ = (Hh 0).next; rw [hH0]
      geq := fun b _ => by show _ = (Hh 0).get b; rw [hH0]
      gearly := fun i _ hs => by rw [hdone] at hs; cases hs
      hnone := fun i _ _ => by
        show (Hh 0).get (h.next + i) = none
        rw [hH0, h00]
        cases hg : h.get (h.next + i) with
        | none => rfl
        | some o => have := hr.wf _ _ hg; omega
      nun := fun i _ _ => by
        show ν (h.next + i) = none
        cases hg : ν (h.next + i) with
        | none => rfl
        | some l => have := hr.dom _ _ hg; omega
      late := fun i hi => by omega
      env := by
        show EnvR ν (envF env (dstOf ops.toList) xs _ _).t (envF env (dstOf ops.toList) xs _ _).n a.tmps
        rw [henv0]; exact he
      ext := by show Ext ν h w ν (Hh 0) _; rw [hH0]; exact hex
      room := by show h.next + ops.toList.length ≤ (Hh 0).next; rw [hH0]; exact Nat.le_refl _
      defers := rfl }
    refine wpIn_region_any hm ?_
    obtain ⟨q2, g2, v2, hq2⟩ := RegCtx.settle ok (ops.toList.length - 0) 0 _ (Nat.le_refl _) v0
    have hsize : (Array.replicate ops.size false).size = R.ops.length := by simp [R]
    have hfuel : cnt (RegCtx.doneOf (Array.replicate ops.size false)) R.ops.length ≤ ops.size := by
      have : ∀ (S : Nat → Bool) (m : Nat), cnt S m ≤ m := by
        intro S m
        induction m with
        | zero => exact Nat.le_refl _
        | succ m ih => unfold cnt; split <;> omega
      have h1 := this (RegCtx.doneOf (Array.replicate ops.size false)) R.ops.length
      have h2 : R.ops.length = ops.size := by simp [R]
      omega
    have main := RegCtx.any_sound ok (nn := nn) hF hop (all := s.1) hall hlen hst (Q := Qx) (fun a' w' ν' e1 e2 e3 e4 => by
      refine fin _ _ ν' a' w' hend.symm e1 e2 e3 e4 ?_
      rw [envF_marks]) ops.size (Array.replicate ops.size false) q2 ν g2 a _ hsize hfuel v2 hq2
    exact main

/-- Any operation, once those that do something are shown. -/
theorem op_sound (hc : CtxOk P c) (hF : ∀ f, F.fn f) (hop : OpSound K B w0 P c F nn r) {ν : Ren} {h : H} {w : World} {env : Env} {a : Act} {o : Oper} {Q : X × H → Prop} (hr : HR K B w0 ν h w) (he : EvR ν env a o.op.operands.toList)
    (hx : (runOp c r env h o.op).all Q) {next : Act → World → Prop} {Qx : Exit → Act → World → Prop}
    (hn : ∀ x h' v ν' w', Q (x, h') → XR ν' x v → HR K B w0 ν' h' w' → Ext ν h w ν' h' w' → next (a.put o.dst v) w') : o.wpIn F nn P a w next Qx := by
  unfold runOp at hx
  cases hk : kindOf c o.op with
  | calm =>
    rw [hk] at hx
    rw [T.all_bind] at hx
    have hd : ∀ d, o.op ≠ .defer d := by
      intro d e
      rw [e] at hx
      exact hx
    obtain ⟨x, v, hQ, hrun, hxr⟩ := calm_sound (w := w) hc he hx
    exact wpIn_value hF hd hrun (hn _ _ _ _ _ hQ hxr hr (Ext.refl _ _ _))
  | reads =>
    rw [hk] at hx
    obtain ⟨x, hx, hQ⟩ := okO_some hx
    obtain ⟨y, v, e, hrun, hxr⟩ := read_sound hc hr he hx
    subst e
    exact wpIn_value hF (notDefer_kind (c := c) (by rw [hk]; simp)) hrun (hn _ _ _ _ _ hQ hxr hr (Ext.refl _ _ _))
  | lays =>
    rw [hk] at hx
    rw [T.all_bind] at hx
    obtain ⟨x, v, w', tot, hQ, h1, h2⟩ := lays_sound (K := K) (w := w) hc he hx
    obtain ⟨h3, h4, h5⟩ := h2.lay hr
    exact wpIn_value hF (notDefer_kind (c := c) (by rw [hk]; simp)) h1 (hn _ _ _ _ _ hQ h3 h4 h5)
  | does =>
    rw [hk] at hx
    exact hop ν h w env a o Q hr he hk hx next Qx hn

theorem runOps_cons (ops : List Oper) (o : Oper) (l : List Oper) (env : Env) (h : H) :
    runOps c r ops (o :: l) env h = okO (wantedV ops env o) fun b => bif b then (runOp c r env h o.op).bind fun p => runOps c r ops l (env.putD o.dst p.1) p.2 else runOps c r ops l (env.putD o.dst undefX) h := rfl

theorem list_sound (hc : CtxOk P c) (hF : ∀ f, F.fn f) (hop : OpSound K B w0 P c F nn r) {ops : List Oper} {Q : Env × H → Prop} {Qx : Exit → Act → World → Prop} :
    ∀ (l : List Oper) (env : Env) (h : H) (ν : Ren) (w : World) (a : Act), (∀ o ∈ l, o.op.operands.toList.all operOk = true) → (runOps c r ops l env h).all Q → HR K B w0 ν h w → EnvR ν env.t env.n a.tmps →
      RegEnd K B w0 ν h w env a Q Qx → wpListIn F nn P ops.toArray Qx l a w
  | [], env, h, ν, w, a, _, hx, hr, he, fin => fin env h ν a w hx he hr (Ext.refl _ _ _) rfl rfl
  | o :: l, env, h, ν, w, a, hops, hx, hr, he, fin => by
    rw [runOps_cons] at hx
    obtain ⟨b, hb, hx⟩ := okO_some hx
    have hwant := wanted_run (a := a) (fun g w' d oj _ _ _ => he.get d) hb
    unfold wpListIn
    rw [hwant]
    have hev : EvR ν env a o.op.operands.toList := EvR.of he (hops o (by simp))
    have tail : ∀ (x : X) (h' : H) (v : Value) (ν' : Ren) (w' : World), (runOps c r ops l (env.putD o.dst x) h').all Q → XR ν' x v → HR K B w0 ν' h' w' → Ext ν h w ν' h' w' → wpListIn F nn P ops.toArray Qx l (a.put o.dst v) w' := by
      intro x h' v ν' w' hx' hxr hr' hext
      refine list_sound hc hF hop l _ h' ν' w' _ (fun o' ho' => hops o' (by simp [ho'])) hx' hr' ((he.mono hext.le).put hxr) ?_
      intro env2 h2 ν2 a2 w2 q1 q2 q3 q4 q5 q6
      exact fin env2 h2 ν2 a2 w2 q1 q2 q3 (hext.trans hr.dom q4) (by rw [q5, RegCtx.put_defers]) (by rw [q6, Env.marks_putD])
    cases b with
    | true =>
      rw [if_pos rfl]
      simp only [cond_true] at hx
      rw [T.all_bind] at hx
      exact op_sound hc hF hop hr hev hx fun x h' v ν' w' q1 q2 q3 q4 => tail x h' v ν' w' q1 q2 q3 q4
    | false =>
      rw [if_neg (by simp)]
      simp only [cond_false] at hx
      exact ⟨fun f _ => hF f, tail undefX h undef ν w hx (undef_XR ν) hr (Ext.refl _ _ _)⟩
end
end Go.Abs

/- Scopes whose jumps go back into them; what is looked at ahead of a proof, of code. -/
namespace Go.Abs
open Go Go.RowKit

section scope
variable {F : Fence} {n : Nat} {P : Program}

def jumpPost (next : Code → Act → World → Prop) (whole : Code) (Q : Exit → Act → World → Prop) : Exit → Act → World → Prop
  | .goto l, a, w => match findLabel whole l with
    | some rest => next rest a w
    | none => Q (.goto l) a w
  | e, a, w => Q e a w

def jumpsIn (F : Fence) (n : Nat) (P : Program) (whole : Code) (Q : Exit → Act → World → Prop) : Nat → Code → Act → World → Prop
  | 0, _, _, _ => False
  | m + 1, code, a, w => code.wpIn F n P (jumpPost (jumpsIn F n P whole Q m) whole Q) a w

theorem stepR_scope {b : Frame} {a : Act} {k : List Item} {cs : List Frame} {w : World} {c : Code} : step P (lone (b.atR a (.code (.scope c) :: k)) cs w) = .next (lone (b.atR a (.code c :: .inScope c :: k)) cs w) :=
  step_lone_go (by simp [stepG, stepG.exec, Frame.atR])
theorem stepR_inScope {b : Frame} {a : Act} {k : List Item} {cs : List Frame} {w : World} {c : Code} : step P (lone (b.atR a (.inScope c :: k)) cs w) = .next (lone (b.atR a k) cs w) :=
  step_lone_go (by simp [stepG, stepG.exec, Frame.atR])

theorem wpIn_scope {c : Code} {Q : Exit → Act → World → Prop} {a : Act} {w : World} (m : Nat) (h : c.wpIn F n P (jumpPost (jumpsIn F n P c Q m) c Q) a w) : (Code.scope c).wpIn F n P Q a w := by
  intro b k cs hro hb hr
  have key : ∀ (m : Nat) (code : Code) (a : Act) (w : World), code.wpIn F n P (jumpPost (jumpsIn F n P c Q m) c Q) a w →
      ∃ e a' w', Q e a' w' ∧ ArrivesIn (Machine.fenced P F) P (lone (b.atR a (.code code :: .inScope c :: k)) cs w) b k cs e a' w' := by
    intro m
    induction m with
    | zero =>
      intro code a w h
      obtain ⟨e, a₁, w₁, hq, harr⟩ := h b (.inScope c :: k) cs hro hb hr
      cases e with
      | normal => exact ⟨.normal, a₁, w₁, hq, StepsIn.trans harr (.one (fenced_calm hb hr rfl) stepR_inScope)⟩
      | exit id => exact ⟨.exit id, a₁, w₁, hq, fun k' hk => harr.1 k' (by simp [exitTo, hk]), fun h1 h2 => harr.2 h1 (by simp [exitTo, h2])⟩
      | goto l =>
        simp only [jumpPost] at hq
        cases hl : findLabel c l with
        | some rest => rw [hl] at hq; exact hq.elim
        | none =>
          rw [hl] at hq
          have hg : gotoIn l (.inScope c :: k) = gotoIn l k := by simp [gotoIn, hl]
          exact ⟨.goto l, a₁, w₁, hq, fun k' hk => harr.1 k' (by rw [hg]; exact hk), fun h1 h2 => harr.2 h1 (by rw [hg]; exact h2)⟩
      | ret => exact ⟨_, a₁, w₁, hq, harr⟩
      | panic ch => exact ⟨_, a₁, w₁, hq, harr⟩
      | outgrown => exact ⟨_, a₁, w₁, hq, harr⟩
    | succ m ih =>
      intro code a w h
      obtain ⟨e, a₁, w₁, hq, harr⟩ := h b (.inScope c :: k) cs hro hb hr
      cases e with
      | normal => exact ⟨.normal, a₁, w₁, hq, StepsIn.trans harr (.one (fenced_calm hb hr rfl) stepR_inScope)⟩
      | exit id => exact ⟨.exit id, a₁, w₁, hq, fun k' hk => harr.1 k' (by simp [exitTo, hk]), fun h1 h2 => harr.2 h1 (by simp [exitTo, h2])⟩
      | goto l =>
        simp only [jumpPost] at hq
        cases hl : findLabel c l with
        | some rest =>
          rw [hl] at hq
          have hg : gotoIn l (.inScope c :: k) = some (.code rest :: .inScope c :: k) := by simp [gotoIn, hl]
          obtain ⟨e₂, a₂, w₂, hq₂, harr₂⟩ := ih rest a₁ w₁ hq
          exact ⟨e₂, a₂, w₂, hq₂, .of_steps (harr.1 _ hg) harr₂⟩
        | none =>
          rw [hl] at hq
          have hg : gotoIn l (.inScope c :: k) = gotoIn l k := by simp [gotoIn, hl]
          exact ⟨.goto l, a₁, w₁, hq, fun k' hk => harr.1 k' (by rw [hg]; exact hk), fun h1 h2 => harr.2 h1 (by rw [hg]; exact h2)⟩
      | ret => exact ⟨_, a₁, w₁, hq, harr⟩
      | panic ch => exact ⟨_, a₁, w₁, hq, harr⟩
      | outgrown => exact ⟨_, a₁, w₁, hq, harr⟩
  obtain ⟨e, a', w', hq, harr⟩ := key m c a w h
  exact ⟨e, a', w', hq, .of_steps (.one (fenced_calm hb hr rfl) stepR_scope) harr⟩
end scope

/-! ### Code, looked at ahead -/
noncomputable def codeOk (c : Ctx) (plans : Tr Plan) (code : Code) : Bool :=
  Code.rec (motive := fun _ => Bool)
    (skip := true)
    (region := fun id ops draw =>
      bif draw then (match plans.get id with | some p => regionOk c p ops.toList | none => true)
      else ops.toList.all fun o => o.op.operands.toList.all operOk)
    (seq := fun _ _ iha ihb => iha && ihb)
    (cond := fun x _ _ iha ihb => operOk x && iha && ihb)
    (block := fun _ _ ih => ih)
    (loop := fun _ ih => ih)
    (rangeFunc := fun f _ _ _ iha ihb => operOk f && iha && ihb)
    (exit := fun _ => true)
    (scope := fun _ ih => ih)
    (label := fun _ => true)
    (goto := fun _ => true)
    (ret := true)
    (refuse := fun _ => true)
    code

theorem codeOk_label {c : Ctx} {plans : Tr Plan} : ∀ (code : Code) (l : Nat) (rest : Code), codeOk c plans code = true → findLabel code l = some rest → codeOk c plans rest = true := by
  intro code
  induction code with
  | seq a b iha ihb =>
    intro l rest h hf
    have h : (codeOk c plans a && codeOk c plans b) = true := h
    rw [Bool.and_eq_true] at h
    unfold findLabel at hf
    cases hl : findLabel a l with
    | some r =>
      rw [hl] at hf
      cases hf
      show (codeOk c plans r && codeOk c plans b) = true
      rw [Bool.and_eq_true]
      exact ⟨iha l r h.1 hl, h.2⟩
    | none =>
      rw [hl] at hf
      exact ihb l rest h.2 hf
  | label l' =>
    intro l rest h hf
    unfold findLabel at hf
    split at hf
    · cases hf; rfl
    · cases hf
  | _ => intro l rest h hf; simp [findLabel] at hf

/-- The code of a function of the table. -/
def KOf (c : Ctx) : CodeP := fun fn code => ∃ fi, c.fi.get fn = some fi ∧ codeOk c fi.plans code = true
end Go.Abs

/- Code. -/
namespace Go.Abs
open Go Go.RowKit

def MarksR (ν : Ren) (marks : List Nat) (ds : List Deferred) : Prop := LRel (fun b d => ∃ l, ν b = some l ∧ d = ({ target := .collected l.blk, args := #[] } : Deferred)) marks ds

theorem MarksR.mono {ν ν' : Ren} (hle : ν.le ν') {marks : List Nat} {ds : List Deferred} (h : MarksR ν marks ds) : MarksR ν' marks ds :=
  LRel.mono (fun _ _ ⟨l, h1, h2⟩ => ⟨l, hle _ _ h1, h2⟩) h

def exitOf : Ex → Exit
  | .normal => .normal
  | .exit id => .exit id
  | .goto l => .goto l
  | .ret => .ret

/-- What is shown of the end of code. -/
def CodeEnd (K : CodeP) (B : Base) (w0 : World) (ν : Ren) (h : H) (w : World) (Q : Ex × Env × H → Prop) (Qx : Exit → Act → World → Prop) : Prop :=
  ∀ ex env' h' ν' a' w', Q (ex, env', h') → EnvR ν' env'.t env'.n a'.tmps → HR K B w0 ν' h' w' → Ext ν h w ν' h' w' → MarksR ν' env'.marks a'.defers → Qx (exitOf ex) a' w'

/-- What is shown of a call's end. -/
def RetEnd (K : CodeP) (B : Base) (w0 : World) (ν : Ren) (h : H) (w : World) (Q : X × H → Prop) : Ending → World → Prop
  | .returned v, w' => ∃ x h' ν', Q (x, h') ∧ XR ν' x v ∧ HR K B w0 ν' h' w' ∧ Ext ν h w ν' h' w'
  | _, _ => False

structure RecSound (K : CodeP) (B : Base) (w0 : World) (P : Program) (c : Ctx) (r : Rec) : Prop where
  plain : ∀ m ν h w g ys (vs : Array Value) Q, HR K B w0 ν h w → LRel (YR ν) ys vs.toList → (r.call g ys h).all Q → c.prim g = none →
    (callFunc g vs).run P w = .ok (.enter g vs) w ∧ CallsIn Fence.wide m P g vs w (RetEnd K B w0 ν h w Q)
  prim : ∀ ν h w g ys (vs : Array Value) Q p, HR K B w0 ν h w → LRel (YR ν) ys vs.toList → (r.call g ys h).all Q → c.prim g = some p → ∀ m,
    ((callFunc g vs).run P w = .ok (.enter g vs) w ∧ CallsIn Fence.wide m P g vs w (RetEnd K B w0 ν h w Q)) ∨
    ∃ v w', (callFunc g vs).run P w = .ok (.value v) w' ∧ RetEnd K B w0 ν h w Q (.returned v) w'
  round : ∀ m ν h w b l ys (vs : Array Value) Q, HR K B w0 ν h w → ν b = some l → LRel (YR ν) ys vs.toList → (r.round b ys h).all Q →
    ∃ f tmps assign body, (Instr.yield l.blk vs).run P w = .ok (.round l.blk f tmps assign body) w ∧ RoundIn Fence.wide m P l.blk f tmps assign body w (RetEnd K B w0 ν h w Q)

/-- The fence within which code runs: a function's, or a round's. -/
def FenceOk (F : Fence) (ν : Ren) (rd : Option Nat) : Prop :=
  (rd = none ∧ F = Fence.wide) ∨ ∃ b l, rd = some b ∧ ν b = some l ∧ F = Fence.wide.inRound l.blk

theorem FenceOk.mono {F : Fence} {ν ν' : Ren} (hle : ν.le ν') {rd : Option Nat} (h : FenceOk F ν rd) : FenceOk F ν' rd := by
  rcases h with h | ⟨b, l, h1, h2, h3⟩
  · exact .inl h
  · exact .inr ⟨b, l, h1, hle _ _ h2, h3⟩

theorem FenceOk.fn {F : Fence} {ν : Ren} {rd : Option Nat} (h : FenceOk F ν rd) : ∀ f, F.fn f := by
  intro f
  rcases h with ⟨_, rfl⟩ | ⟨b, l, _, _, rfl⟩ <;> exact trivial

theorem FenceOk.calls {F : Fence} {ν : Ren} {rd : Option Nat} (hF : FenceOk F ν rd) {m : Nat} {P : Program} {f : FuncId} {args : Array Value} {w : World} {R : Ending → World → Prop} (h : CallsIn Fence.wide m P f args w R) : CallsIn F m P f args w R := by
  rcases hF with ⟨_, rfl⟩ | ⟨b, l, _, _, rfl⟩ <;> exact h

theorem FenceOk.depth {F : Fence} {ν : Ren} {rd : Option Nat} (hF : FenceOk F ν rd) {m : Nat} : F.depth.isSome = true → 1 ≤ m := by
  rcases hF with ⟨_, rfl⟩ | ⟨b, l, _, _, rfl⟩ <;> (intro h; cases h)

section
variable {B : Base} {w0 : World} {P : Program} {c : Ctx} {F : Fence} {nn : Nat} {r : Rec} {fuel : Nat} {fn : FuncId} {rd : Option Nat}

theorem CodeEnd.weak {ν ν1 : Ren} {h h1 : H} {w w1 : World} {Q : Ex × Env × H → Prop} {Qx : Exit → Act → World → Prop} {K : CodeP} (hdom : ∀ b l, ν b = some l → b < h.next) (he : Ext ν h w ν1 h1 w1) (fin : CodeEnd K B w0 ν h w Q Qx) : CodeEnd K B w0 ν1 h1 w1 Q Qx :=
  fun ex env' h' ν' a' w' q1 q2 q3 q4 q5 => fin ex env' h' ν' a' w' q1 q2 q3 (he.trans hdom q4) q5

/-- The statement about code, at one text. -/
def CodeSound (B : Base) (w0 : World) (P : Program) (c : Ctx) (F : Fence) (nn : Nat) (r : Rec) (fuel : Nat) (fn : FuncId) (plans : Tr Plan) (rd : Option Nat) (run : Env → H → CRes) (good : (Act → World → (Exit → Act → World → Prop) → Prop)) : Prop :=
  ∀ (env : Env) (h : H) (ν : Ren) (w : World) (a : Act) (Q : Ex × Env × H → Prop) (Qx : Exit → Act → World → Prop), (run env h).all Q → HR (KOf c) B w0 ν h w → EnvR ν env.t env.n a.tmps → MarksR ν env.marks a.defers → FenceOk F ν rd →
    CodeEnd (KOf c) B w0 ν h w Q Qx → good a w Qx

theorem run_getLoop {w : World} {l : Nat} {r' : Loop} (h : w.heap[l]? = some (.loop r')) : (Instr.getLoop l).run P w = .ok r' w := by
  unfold Instr.getLoop
  rw [rb (run_getObj h (by simp))]
  rfl

/-- A loop over a function begins. -/
theorem enter_sound {K : CodeP} {ν : Ren} {h : H} {w : World} {env : Env} {a : Act} {params : Array Tmp} {assign body : Code} {T : Nat × Env × H → Prop} (hr : HR K B w0 ν h w) (he : EnvR ν env.t env.n a.tmps) (hmk : MarksR ν env.marks a.defers) (hF : FenceOk F ν rd)
    (ka : K fn assign) (kb : K fn body) (hx : (enterC rd env fn params.toList assign body h).all T) (fn' : FuncId) :
    ∃ q l ν2 w2 mark, T q ∧ (Instr.enterLoop fn' a.tmps params assign body F.round).run P w = .ok (l.blk, mark) w2 ∧ ν2 q.1 = some l ∧ HR K B w0 ν2 q.2.2 w2 ∧ Ext ν h w ν2 q.2.2 w2 ∧
      q.2.1.t = env.t ∧ q.2.1.n = env.n ∧ MarksR ν2 q.2.1.marks (mark ++ a.defers) := by
  rcases hF with ⟨rfl, rfl⟩ | ⟨b0, l0, rfl, hl0, rfl⟩
  · obtain ⟨_, r1, e1⟩ := hr.newObj (P := P) (o := .defer) (.deferred (some [])) (fun w' hw => hw)
    obtain ⟨_, r2, e2⟩ := r1.newObj (P := P) (o := .loop ⟨.ready, none, env.t, env.n, params.toList, assign, body, h.next, fn⟩)
      (.loop { state := .ready, pending := none, fn := fn', tmps := a.tmps, params, assign, body, defers := w.heap.size }) (fun w' hw =>
        ⟨_, hw, ⟨rfl, rfl, (he.mono e1.le).mono (ren_le r1.free), rfl, rfl, rfl, ⟨⟨w.heap.size, 0, 0⟩, ren_le r1.free _ _ (ren_self _ _ _), rfl⟩, ka, kb, fun j hj => by cases hj⟩⟩)
    refine ⟨_, _, _, _, [{ target := .collected w.heap.size, args := #[] }], hx, ?_, ren_self _ _ _, r2, e1.trans hr.dom e2, rfl, rfl, ?_⟩
    · rfl
    · exact ⟨⟨⟨w.heap.size, 0, 0⟩, ren_le r1.free _ _ (ren_self _ _ _), rfl⟩, (hmk.mono e1.le).mono (ren_le r1.free)⟩
  · unfold enterC at hx
    simp only at hx
    cases hg : h.get b0 with
    | none => rw [hg] at hx; exact hx.elim
    | some o0 =>
      cases o0 with
      | loop r0 =>
        rw [hg] at hx
        simp only at hx
        obtain ⟨r', hh, hlr⟩ := hr.obj b0 _ l0 hg hl0
        obtain ⟨ld, hld, hdf⟩ := hlr.defers
        obtain ⟨_, r2, e2⟩ := hr.newObj (P := P) (o := .loop ⟨.ready, none, env.t, env.n, params.toList, assign, body, r0.defers, fn⟩)
          (.loop { state := .ready, pending := none, fn := fn', tmps := a.tmps, params, assign, body, defers := r'.defers }) (fun w' hw =>
            ⟨_, hw, ⟨rfl, rfl, he.mono (ren_le hr.free), rfl, rfl, rfl, ⟨ld, ren_le hr.free _ _ hld, hdf⟩, ka, kb, fun j hj => by cases hj⟩⟩)
        refine ⟨_, _, _, _, [], hx, ?_, ren_self _ _ _, r2, e2, rfl, rfl, hmk.mono (ren_le hr.free)⟩
        unfold Instr.enterLoop
        simp only [Fence.inRound_round]
        simp only [Sem.run_bind, run_getLoop hh, Result.andThen_ok, Sem.run_pure]
        rfl
      | _ => rw [hg] at hx; exact hx.elim

theorem run_sound_code (hc : CtxOk P c) (hm : P.follows .mixedOrders = true) {plans : Tr Plan} (hfn : ∃ fi, c.fi.get fn = some fi ∧ fi.plans = plans) (hop : ∀ ν, FenceOk F ν rd → OpSound (KOf c) B w0 P c F nn r) (hrec : RecSound (KOf c) B w0 P c r)
    (go : Code → Code → Env → H → CRes)
    (m : Nat) (hgo : ∀ (whole rest : Code) (Qx : Exit → Act → World → Prop), codeOk c plans rest = true → codeOk c plans whole = true → CodeSound B w0 P c F nn r fuel fn plans rd (go whole rest) (fun a w Qx => jumpsIn F nn P whole Qx m rest a w)) :
    ∀ code : Code, codeOk c plans code = true → CodeSound B w0 P c F nn r fuel fn plans rd (runC c r fuel fn plans rd go code) (fun a w Qx => code.wpIn F nn P Qx a w) := by
  intro code
  induction code with
  | skip => exact fun _ env h ν w a Q Qx hx hr he hmk hF fin => wpIn_skip (fin .normal env h ν a w hx he hr (Ext.refl _ _ _) hmk)
  | label l => exact fun _ env h ν w a Q Qx hx hr he hmk hF fin => wpIn_label (fin .normal env h ν a w hx he hr (Ext.refl _ _ _) hmk)
  | exit id => exact fun _ env h ν w a Q Qx hx hr he hmk hF fin => wpIn_exit (fin (.exit id) env h ν a w hx he hr (Ext.refl _ _ _) hmk)
  | goto l => exact fun _ env h ν w a Q Qx hx hr he hmk hF fin => wpIn_goto (fin (.goto l) env h ν a w hx he hr (Ext.refl _ _ _) hmk)
  | ret => exact fun _ env h ν w a Q Qx hx hr he hmk hF fin => wpIn_ret (fin .ret env h ν a w hx he hr (Ext.refl _ _ _) hmk)
  | refuse u => exact fun _ env h ν w a Q Qx hx => hx.elim
  | region id ops draw =>
    intro hok env h ν w a Q Qx hx hr he hmk hF fin
    have hop := hop ν hF
    cases draw with
    | true =>
      obtain ⟨p, hp, hx⟩ := okO_some (x := plans.get id) hx
      obtain ⟨q, hq, hQ⟩ := okO_some hx
      have hreg : regionOk c p ops.toList = true := by
        have : (match plans.get id with | some p => regionOk c p ops.toList | none => true) = true := hok
        rw [hp] at this; exact this
      refine draw_sound hc hm hF.fn hop hreg hq hr he (fun env' h' ν' a' w' e q1 q2 q3 q4 q5 => ?_) id
      subst e
      exact fin .normal env' h' ν' a' w' hQ q1 q2 q3 (by rw [q5, q4]; exact hmk.mono q3.le)
    | false =>
      have hx : ((runOps c r ops.toList ops.toList env h).bind fun p => .ret (.normal, p.1, p.2) : CRes).all Q := hx
      rw [T.all_bind] at hx
      have hops : (ops.toList.all fun o => o.op.operands.toList.all operOk) = true := hok
      refine wpIn_region_list ?_
      have := list_sound hc hF.fn hop (ops := ops.toList) (Q := fun p => Q (.normal, p.1, p.2)) (Qx := Qx) ops.toList env h ν w a (fun o ho => List.all_eq_true.1 hops o ho) hx hr he
        (fun env' h' ν' a' w' e q1 q2 q3 q4 q5 => fin .normal env' h' ν' a' w' e q1 q2 q3 (by rw [q5, q4]; exact hmk.mono q3.le))
      exact this
  | seq x y ihx ihy =>
    intro hok env h ν w a Q Qx hx hr he hmk hF fin
    have hok : (codeOk c plans x && codeOk c plans y) = true := hok
    rw [Bool.and_eq_true] at hok
    have hx : ((runC c r fuel fn plans rd go x env h).bind fun p => match p.1 with | .normal => runC c r fuel fn plans rd go y p.2.1 p.2.2 | _ => .ret p : CRes).all Q := hx
    rw [T.all_bind] at hx
    refine wpIn_seq (ihx hok.1 env h ν w a _ _ hx hr he hmk hF fun ex env' h' ν' a' w' q1 q2 q3 q4 q5 => ?_)
    cases ex with
    | normal => exact ihy hok.2 env' h' ν' w' a' Q Qx q1 q3 q2 q5 (hF.mono q4.le) (fin.weak hr.dom q4)
    | exit id => exact fin (.exit id) env' h' ν' a' w' q1 q2 q3 q4 q5
    | goto l => exact fin (.goto l) env' h' ν' a' w' q1 q2 q3 q4 q5
    | ret => exact fin .ret env' h' ν' a' w' q1 q2 q3 q4 q5
  | cond x y z ihy ihz =>
    intro hok env h ν w a Q Qx hx hr he hmk hF fin
    have hok : (operOk x && codeOk c plans y && codeOk c plans z) = true := hok
    simp only [Bool.and_eq_true] at hok
    have hxr := ev_XR he hok.1.1
    have hx : (match env.ev x with | .y (.v (.bool true)) => runC c r fuel fn plans rd go y env h | .y (.v (.bool false)) => runC c r fuel fn plans rd go z env h | _ => .fail : CRes).all Q := hx
    split at hx
    · rename_i e
      exact wpIn_cond_true (hxr.v e) (ihy hok.1.2 env h ν w a Q Qx hx hr he hmk hF fin)
    · rename_i e
      exact wpIn_cond_false (hxr.v e) (ihz hok.2 env h ν w a Q Qx hx hr he hmk hF fin)
    · exact hx.elim
  | block id x ih =>
    intro hok env h ν w a Q Qx hx hr he hmk hF fin
    have hx : ((runC c r fuel fn plans rd go x env h).bind fun p => match p.1 with | .exit id' => bif Nat.beq id' id then .ret (.normal, p.2) else .ret p | _ => .ret p : CRes).all Q := hx
    rw [T.all_bind] at hx
    refine wpIn_block (ih hok env h ν w a _ _ hx hr he hmk hF fun ex env' h' ν' a' w' q1 q2 q3 q4 q5 => ?_)
    cases ex with
    | normal => exact fin .normal env' h' ν' a' w' q1 q2 q3 q4 q5
    | exit id' =>
      show (if id' = id then Qx .normal a' w' else Qx (.exit id') a' w')
      rcases (bif_all _ _ _).1 q1 with ⟨hb, q1⟩ | ⟨hb, q1⟩
      · rw [if_pos (Nat.eq_of_beq_eq_true hb)]
        exact fin .normal env' h' ν' a' w' q1 q2 q3 q4 q5
      · rw [if_neg (fun e => by subst e; rw [Nat.beq_refl] at hb; cases hb)]
        exact fin (.exit id') env' h' ν' a' w' q1 q2 q3 q4 q5
    | goto l => exact fin (.goto l) env' h' ν' a' w' q1 q2 q3 q4 q5
    | ret => exact fin .ret env' h' ν' a' w' q1 q2 q3 q4 q5
  | loop x ih =>
    intro hok env h ν w a Q Qx hx hr he hmk hF fin
    refine wpIn_loop_rounds fuel ?_
    have hx : (loopC (runC c r fuel fn plans rd go x) fuel env h).all Q := hx
    have key : ∀ (k : Nat) (env : Env) (h : H) (ν : Ren) (w : World) (a : Act), (loopC (runC c r fuel fn plans rd go x) k env h).all Q → HR (KOf c) B w0 ν h w → EnvR ν env.t env.n a.tmps → MarksR ν env.marks a.defers → FenceOk F ν rd →
        CodeEnd (KOf c) B w0 ν h w Q Qx → Code.roundsIn F nn P x Qx k a w := by
      intro k
      induction k with
      | zero => intro env h ν w a hx; exact hx.elim
      | succ k ihk =>
        intro env h ν w a hx hr he hmk hF fin
        have hx : ((runC c r fuel fn plans rd go x env h).bind fun p => match p.1 with | .normal => loopC (runC c r fuel fn plans rd go x) k p.2.1 p.2.2 | _ => .ret p : CRes).all Q := hx
        rw [T.all_bind] at hx
        refine ih hok env h ν w a _ _ hx hr he hmk hF fun ex env' h' ν' a' w' q1 q2 q3 q4 q5 => ?_
        cases ex with
        | normal => exact ihk env' h' ν' w' a' q1 q3 q2 q5 (hF.mono q4.le) (fin.weak hr.dom q4)
        | exit id => exact fin (.exit id) env' h' ν' a' w' q1 q2 q3 q4 q5
        | goto l => exact fin (.goto l) env' h' ν' a' w' q1 q2 q3 q4 q5
        | ret => exact fin .ret env' h' ν' a' w' q1 q2 q3 q4 q5
    exact key fuel env h ν w a hx hr he hmk hF fin
  | scope x ih =>
    intro hok env h ν w a Q Qx hx hr he hmk hF fin
    have hx : ((runC c r fuel fn plans rd go x env h).bind fun p => match p.1 with
      | .goto l => (match findLabel x l with
        | some rest => go x rest p.2.1 p.2.2
        | none => .ret p)
      | _ => .ret p : CRes).all Q := hx
    rw [T.all_bind] at hx
    refine wpIn_scope m (ih hok env h ν w a _ _ hx hr he hmk hF fun ex env' h' ν' a' w' q1 q2 q3 q4 q5 => ?_)
    cases ex with
    | normal => exact fin .normal env' h' ν' a' w' q1 q2 q3 q4 q5
    | exit id => exact fin (.exit id) env' h' ν' a' w' q1 q2 q3 q4 q5
    | ret => exact fin .ret env' h' ν' a' w' q1 q2 q3 q4 q5
    | goto l =>
      simp only [exitOf, jumpPost]
      simp only at q1
      cases hl : findLabel x l with
      | none =>
        rw [hl] at q1
        exact fin (.goto l) env' h' ν' a' w' q1 q2 q3 q4 q5
      | some rest =>
        rw [hl] at q1
        exact hgo x rest Qx (codeOk_label x l rest hok hl) hok env' h' ν' w' a' Q Qx q1 q3 q2 q5 (hF.mono q4.le) (fin.weak hr.dom q4)
  | rangeFunc f params assign body iha ihb =>
    intro hok env h ν w a Q Qx hx hr he hmk hF fin
    have hok : (operOk f && codeOk c plans assign && codeOk c plans body) = true := hok
    simp only [Bool.and_eq_true] at hok
    obtain ⟨fi, hfi, hpl⟩ := hfn
    subst hpl
    obtain ⟨hfp, hx⟩ := (guardT_all _ _).1 hx
    have hxr := ev_XR he hok.1.1
    unfold fnPlain at hfp
    split at hfp
    · rename_i g first cap hev
      have hprim : c.prim g = none := by
        cases hp : c.prim g with
        | none => rfl
        | some p => rw [hp] at hfp; cases hfp
      rw [T.all_bind] at hx
      refine wpIn_rangeFunc fun fn' _ => ?_
      obtain ⟨q, l, ν2, w2, mark, hT, hen, hl, hr2, hext2, ht, hn, hmk2⟩ := enter_sound (K := KOf c) (P := P) hr he hmk hF ⟨fi, hfi, hok.1.2⟩ ⟨fi, hfi, hok.2⟩ hx fn'
      obtain ⟨F0, C0, hfe, hF0, hC0⟩ := hxr.v hev
      rw [hev] at hT
      have hT : ((r.call g (ptrs first ++ [.v (.yield q.1)] ++ ptrs cap) q.2.2).bind _ : CRes).all Q := hT
      rw [T.all_bind] at hT
      have ptrsR : ∀ (l : List (Nat × Nat)) (vs : List Value), LRel (PtrR ν) l vs → LRel (YR ν2) (ptrs l) vs := by
        intro l
        induction l with
        | nil => intro vs hv; cases vs with
          | nil => trivial
          | cons _ _ => exact hv.elim
        | cons p l ih => intro vs hv; cases vs with
          | nil => exact hv.elim
          | cons v vs => exact ⟨PtrR.mono hext2.le hv.1, ih vs hv.2⟩
      have hargs : LRel (YR ν2) (ptrs first ++ [.v (.yield q.1)] ++ ptrs cap) ((F0 ++ #[Value.func (.yield l.blk) #[] #[]]) ++ C0).toList := by
        rw [Array.toList_append, Array.toList_append]
        have hy : LRel (YR ν2) [.v (.yield q.1)] (#[Value.func (.yield l.blk) #[] #[]] : Array Value).toList := ⟨⟨l, hl, rfl⟩, trivial⟩
        exact ((ptrsR _ _ hF0).append hy).append (ptrsR _ _ hC0)
      obtain ⟨hcf, hcalls⟩ := hrec.plain (nn - 1) ν2 q.2.2 w2 g _ _ _ hr2 hargs hT hprim
      refine ⟨l.blk, mark, w2, { target := .fn (.func g) C0, args := F0 ++ #[Value.func (.yield l.blk) #[] #[]] }, w2, g, _, w2, hen, ?_, fun f' _ => hF.fn f', hcf, hF.depth, hF.calls (hcalls.mono fun e w3 hR => ?_)⟩
      · unfold resolve
        have hmap : (#[Operand.const (.func (.yield l.blk) #[] #[])] : Array Operand).map a.eval = #[Value.func (.yield l.blk) #[] #[]] := by simp [Act.eval]
        simp only [hfe, hmap]
        rfl
      · cases e with
        | panicked ch => exact hR.elim
        | outgrown => exact hR.elim
        | returned v =>
          obtain ⟨x, h3, ν3, hQ3, _, hr3, hext3⟩ := hR
          simp only at hQ3
          cases hg3 : h3.get q.1 with
          | none => rw [hg3] at hQ3; exact hQ3.elim
          | some o3 =>
            rw [hg3] at hQ3
            cases o3 with
            | loop lr =>
              obtain ⟨hnb, hQ3⟩ := (guardT_all _ _).1 hQ3
              have hnb : lr.state ≠ .busy := of_decide_eq_true hnb
              have hl3 := hext3.le _ _ hl
              obtain ⟨r', hh, hlr⟩ := hr3.obj q.1 _ l hg3 hl3
              have hlt := hr3.lt hg3 hl3
              have hend : (Instr.endLoop l.blk).run P w3 = .ok lr.pending { w3 with heap := w3.heap.setIfInBounds l.blk (.loop { r' with state := .exhausted }) } := by
                unfold Instr.endLoop
                rw [rb (run_getLoop hh)]
                have hbz : (r'.state == .busy) = false := by
                  rw [hlr.state]
                  cases hs : lr.state with
                  | busy => exact absurd hs hnb
                  | _ => rfl
                simp only [hbz, Bool.false_eq_true, if_false]
                rw [rb (run_setObj hh (by simp) _), hlr.pending]
                rfl
              obtain ⟨hr4, hext4⟩ := hr3.putObj (o' := .loop { lr with state := .exhausted }) hg3 hl3 rfl rfl (ob := .loop { r' with state := .exhausted })
                ⟨_, set_here hlt _, ⟨rfl, hlr.pending, hlr.env, hlr.params, hlr.assign, hlr.body, hlr.defers, hlr.ka, hlr.kb, hlr.jump⟩⟩
              have hextA := (hext2.trans hr.dom hext3).trans hr.dom hext4
              have heA : EnvR ν3 q.2.1.t q.2.1.n a.tmps := by rw [ht, hn]; exact he.mono (Ren.le_trans hext2.le hext3.le)
              have hmkA : MarksR ν3 q.2.1.marks (mark ++ a.defers) := hmk2.mono hext3.le
              refine ⟨lr.pending, _, hend, ?_⟩
              cases hp : lr.pending with
              | none =>
                simp only [hp] at hQ3 hr4 hextA
                exact fin .normal _ _ ν3 { a with defers := mark ++ a.defers } _ hQ3 heA hr4 hextA hmkA
              | some j =>
                simp only [hp] at hQ3 hr4 hextA
                obtain ⟨ex, hj, hQ3⟩ := okO_some hQ3
                cases j with
                | ret => cases hj; exact wpIn_ret (fin .ret _ _ ν3 { a with defers := mark ++ a.defers } _ hQ3 heA hr4 hextA hmkA)
                | exit id => cases hj; exact wpIn_exit (fin (.exit id) _ _ ν3 { a with defers := mark ++ a.defers } _ hQ3 heA hr4 hextA hmkA)
                | goto t => cases hj; exact wpIn_goto (fin (.goto t) _ _ ν3 { a with defers := mark ++ a.defers } _ hQ3 heA hr4 hextA hmkA)
                | _ => cases hj
            | _ => exact hQ3.elim
    · cases hfp
end
end Go.Abs

/- Bodies; operations that call. -/
namespace Go.Abs
open Go Go.RowKit

section
variable {B : Base} {w0 : World} {P : Program} {c : Ctx} {F : Fence} {nn : Nat} {r : Rec} {fuel : Nat} {fn : FuncId} {rd : Option Nat}

theorem scopeN_succ (plans : Tr Plan) (n : Nat) (whole code : Code) (env : Env) (h : H) :
    scopeN c r fuel fn plans rd (n + 1) whole code env h = ((runC c r fuel fn plans rd (scopeN c r fuel fn plans rd n) code env h).bind fun p =>
      match p.1 with
      | .goto l =>
        match findLabel whole l with
        | some rest => scopeN c r fuel fn plans rd n whole rest p.2.1 p.2.2
        | none => .ret p
      | _ => .ret p) := rfl

theorem scopeN_sound (hc : CtxOk P c) (hm : P.follows .mixedOrders = true) {plans : Tr Plan} (hfn : ∃ fi, c.fi.get fn = some fi ∧ fi.plans = plans) (hop : ∀ ν, FenceOk F ν rd → OpSound (KOf c) B w0 P c F nn r) (hrec : RecSound (KOf c) B w0 P c r) :
    ∀ (m : Nat) (whole rest : Code) (_ : Exit → Act → World → Prop), codeOk c plans rest = true → codeOk c plans whole = true → CodeSound B w0 P c F nn r fuel fn plans rd (scopeN c r fuel fn plans rd m whole rest) (fun a w Qx => jumpsIn F nn P whole Qx m rest a w) := by
  intro m
  induction m with
  | zero => intro whole rest _ _ _ env h ν w a Q Qx hx; exact hx.elim
  | succ m ih =>
    intro whole rest _ hrest hwhole env h ν w a Q Qx hx hr he hmk hF fin
    rw [scopeN_succ, T.all_bind] at hx
    refine run_sound_code hc hm hfn hop hrec _ m (fun wh rs Qx h1 h2 => ih wh rs Qx h1 h2) rest hrest env h ν w a _ _ hx hr he hmk hF fun ex env' h' ν' a' w' q1 q2 q3 q4 q5 => ?_
    cases ex with
    | normal => exact fin .normal env' h' ν' a' w' q1 q2 q3 q4 q5
    | exit id => exact fin (.exit id) env' h' ν' a' w' q1 q2 q3 q4 q5
    | ret => exact fin .ret env' h' ν' a' w' q1 q2 q3 q4 q5
    | goto l =>
      simp only [exitOf, jumpPost]
      simp only at q1
      cases hl : findLabel whole l with
      | none => rw [hl] at q1; exact fin (.goto l) env' h' ν' a' w' q1 q2 q3 q4 q5
      | some rest2 =>
        rw [hl] at q1
        exact ih whole rest2 Qx (codeOk_label whole l rest2 hwhole hl) hwhole env' h' ν' w' a' Q Qx q1 q3 q2 q5 (hF.mono q4.le) (fin.weak hr.dom q4)

theorem body_sound (hc : CtxOk P c) (hm : P.follows .mixedOrders = true) {plans : Tr Plan} (hfn : ∃ fi, c.fi.get fn = some fi ∧ fi.plans = plans) (hop : ∀ ν, FenceOk F ν rd → OpSound (KOf c) B w0 P c F nn r) (hrec : RecSound (KOf c) B w0 P c r)
    {code : Code} (hok : codeOk c plans code = true) : CodeSound B w0 P c F nn r fuel fn plans rd (body c r fuel fn plans rd code) (fun a w Qx => code.wpIn F nn P Qx a w) :=
  run_sound_code hc hm hfn hop hrec _ fuel (scopeN_sound hc hm hfn hop hrec fuel) code hok

/-! ### Operations that do something -/
theorem ptrs_R {ν : Ren} : ∀ {l : List (Nat × Nat)} {vs : List Value}, LRel (PtrR ν) l vs → LRel (YR ν) (ptrs l) vs
  | [], [], _ => trivial
  | _ :: _, _ :: _, h => ⟨h.1, ptrs_R h.2⟩
  | [], _ :: _, h => h.elim
  | _ :: _, [], h => h.elim

theorem FenceOk.round {K : CodeP} {ν : Ren} (hF : FenceOk F ν rd) {m l : Nat} {f : FuncId} {tmps : Array Value} {assign body : Code} {w : World} {R : Ending → World → Prop} (h : RoundIn Fence.wide m P l f tmps assign body w R) : RoundIn F m P l f tmps assign body w R := by
  rcases hF with ⟨_, rfl⟩ | ⟨b, l, _, _, rfl⟩ <;> exact h

theorem opSound_of_rec (hc : CtxOk P c) (hrec : RecSound (KOf c) B w0 P c r) (ν0 : Ren) (hF : FenceOk F ν0 rd) : OpSound (KOf c) B w0 P c F nn r := by
  intro ν h w env a o Q hr he hk hx next Qx hn
  have hnd := notDefer_kind (c := c) (o := o.op) (by rw [hk]; simp)
  cases hcall : isCall o.op with
  | false =>
    obtain ⟨x, h', n, ν', w', hQ, hrun, hnx, hr', he'⟩ := does_sound hc hr he hcall hx
    unfold Oper.wpIn
    refine ⟨fun f _ => hF.fn f, ?_⟩
    rw [Oper.semAt_plain F a.eval o hnd, hrun]
    cases n with
    | value v => exact hn x h' v ν' w' hQ hnx hr' he'
    | skip =>
      have hnx : x = undefX := hnx
      subst hnx
      exact hn undefX h' undef ν' w' hQ (undef_XR ν') hr' he'
    | _ => exact hnx.elim
  | true =>
    have ret : ∀ (Q' : X × H → Prop) (e : Ending) (w' : World), (∀ p, Q' p → Q p) → RetEnd (KOf c) B w0 ν h w Q' e w' → (match e with
      | .returned v => next (a.put o.dst v) w'
      | .panicked chain => Qx (.panic chain) a w'
      | .outgrown => LetsOut Qx) := by
      intro Q' e w' hQ hR
      cases e with
      | returned v =>
        obtain ⟨x, h', ν', h1, h2, h3, h4⟩ := hR
        exact hn x h' v ν' w' (hQ _ h1) h2 h3 h4
      | panicked ch => exact hR.elim
      | outgrown => exact hR.elim
    obtain ⟨dst, op, type, pos, after, guard⟩ := o
    simp only at he hx hcall hnd hk
    cases op with
    | call c' =>
      obtain ⟨callee, args, ats⟩ := c'
      cases callee with
      | builtin b => cases hcall
      | invoke f m => exact hx.elim
      | value f =>
        obtain ⟨ys, hys, hx⟩ := okO_some hx
        have hl := evArgs_R _ _ hys (fun x hx => he x (by simp [Op.operands, Call.operands]; exact .inr (by simpa using hx)))
        have hfr := he f (by simp [Op.operands, Call.operands])
        have hargs : (args.map a.eval).toList = args.toList.map a.eval := by simp
        unfold callV at hx
        split at hx
        · rename_i g first cap hev
          obtain ⟨F0, C0, hfe, hF0, hC0⟩ := hfr.v hev
          have hvs : LRel (YR ν) (ptrs first ++ ys ++ ptrs cap) ((F0 ++ args.map a.eval) ++ C0).toList := by
            rw [Array.toList_append, Array.toList_append, hargs]
            exact ((ptrs_R hF0).append hl).append (ptrs_R hC0)
          have hexec : (execOp a.eval ⟨dst, .call ⟨.value f, args, ats⟩, type, pos, after, guard⟩).run P w = (callFunc g ((F0 ++ args.map a.eval) ++ C0)).run P w := by
            show (do let d ← resolve a.eval ⟨.value f, args, ats⟩ type; invoke d.target d.args : Sem Next).run P w = _
            unfold resolve
            simp only [hfe]
            rfl
          unfold Oper.wpIn
          refine ⟨fun f _ => hF.fn f, ?_⟩
          rw [Oper.semAt_plain F a.eval _ hnd, hexec]
          cases hp : c.prim g with
          | none =>
            obtain ⟨h1, h2⟩ := hrec.plain (nn - 1) ν h w g _ _ Q hr hvs hx hp
            rw [h1]
            exact ⟨hF.depth, hF.calls (h2.mono fun e w' hR => by
              cases e with
              | returned v => exact ret Q (.returned v) w' (fun _ h => h) hR
              | panicked ch => exact hR.elim
              | outgrown => exact hR.elim)⟩
          | some p =>
            rcases hrec.prim ν h w g _ _ Q p hr hvs hx hp (nn - 1) with ⟨h1, h2⟩ | ⟨v, w', h1, h2⟩
            · rw [h1]
              exact ⟨hF.depth, hF.calls (h2.mono fun e w' hR => by
              cases e with
              | returned v => exact ret Q (.returned v) w' (fun _ h => h) hR
              | panicked ch => exact hR.elim
              | outgrown => exact hR.elim)⟩
            · rw [h1]
              exact ret Q (.returned v) w' (fun _ h => h) h2
        · rename_i b hev
          obtain ⟨l, hl0, hfe⟩ := hfr.v hev
          have hvs : LRel (YR ν) ys (args.map a.eval).toList := by rw [hargs]; exact hl
          obtain ⟨f', tmps, assign, body, h1, h2⟩ := hrec.round (nn - 1) ν h w b l ys (args.map a.eval) Q hr hl0 hvs hx
          have hexec : (execOp a.eval ⟨dst, .call ⟨.value f, args, ats⟩, type, pos, after, guard⟩).run P w = (Instr.yield l.blk (args.map a.eval)).run P w := by
            show (do let d ← resolve a.eval ⟨.value f, args, ats⟩ type; invoke d.target d.args : Sem Next).run P w = _
            unfold resolve
            simp only [hfe]
            show (invoke (.fn (.yield l.blk) #[]) (#[] ++ args.map a.eval)).run P w = _
            rw [Array.empty_append]
            rfl
          unfold Oper.wpIn
          refine ⟨fun f _ => hF.fn f, ?_⟩
          rw [Oper.semAt_plain F a.eval _ hnd, hexec, h1]
          exact ⟨hF.depth, (FenceOk.round (K := KOf c) hF h2).mono fun e w' hR => by
              cases e with
              | returned v => exact ret Q (.returned v) w' (fun _ h => h) hR
              | panicked ch => exact hR.elim
              | outgrown => exact hR.elim⟩
        · exact hx.elim
    | _ => cases hcall
end
end Go.Abs

/- Calls: arguments, results, what is left at the end. -/
namespace Go.Abs
open Go Go.RowKit

/-! ### Arguments -/
theorem mkEnv_go_get : ∀ (ys : List Y) (i : Nat) (t : Tr X) (j : Nat), (mkEnv.go ys i t).get j = if i ≤ j ∧ j < i + ys.length then (ys[j - i]?).map X.y else t.get j
  | [], i, t, j => by
    rw [mkEnv.go, if_neg (by simp only [List.length_nil]; omega)]
  | y :: ys, i, t, j => by
    rw [mkEnv.go, mkEnv_go_get ys (Nat.succ i)]
    simp only [List.length_cons]
    by_cases h1 : Nat.succ i ≤ j ∧ j < Nat.succ i + ys.length
    · rw [if_pos h1, if_pos (by omega), show j - i = (j - Nat.succ i) + 1 by omega]
      simp
    · rw [if_neg h1, Tr.get_set]
      by_cases h2 : i = j
      · subst h2
        rw [if_pos rfl, if_pos (by omega)]
        simp
      · rw [if_neg h2, if_neg (by omega)]

theorem mkEnv_R {ν : Ren} {ys : List Y} {vs : Array Value} (h : LRel (YR ν) ys vs.toList) (n : Nat) : EnvR ν (mkEnv n ys).t (mkEnv n ys).n (vs ++ Array.replicate (n - vs.size) undef) := by
  have hlen := h.length
  have e9 : vs.toList.length = vs.size := by simp
  refine ⟨?_, fun i => ?_⟩
  · show ys.length + (n - ys.length) = _
    simp; omega
  · show XR ν (((mkEnv.go ys 0 .e).get i).getD undefX) _
    rw [mkEnv_go_get]
    by_cases hi : i < ys.length
    · rw [if_pos (by omega), Nat.sub_zero]
      have hy := List.getElem?_eq_getElem hi
      obtain ⟨v, hv, hr⟩ := h.get hy
      rw [hy]
      have : (vs ++ Array.replicate (n - vs.size) undef).getD i undef = v := by
        have hi2 : i < vs.size := by omega
        rw [Array.getD_eq_getD_getElem?, Array.getElem?_append_left hi2, ← Array.getElem?_toList, hv]
        rfl
      rw [this]
      exact hr
    · rw [if_neg (by omega), Tr.get_e]
      have : (vs ++ Array.replicate (n - vs.size) undef).getD i undef = undef := by
        have hi2 : vs.size ≤ i := by omega
        rw [Array.getD_eq_getD_getElem?, Array.getElem?_append_right hi2, Array.getElem?_replicate]
        split <;> rfl
      rw [this]
      exact undef_XR ν

section
variable {K : CodeP} {B : Base} {w0 w w' : World} {ν : Ren} {h : H} {P : Program} {c : Ctx}

/-! ### Results -/
theorem results_run (hc : CtxOk P c) (hr : HR K B w0 ν h w) {env : Env} {tmps : Array Value} (he : EnvR ν env.t env.n tmps) {fn : Func} {ys : List Y} (hx : resultsOf c env h fn.results.toList = some ys) :
    ∃ v, (results fn tmps).run P w = .ok v w ∧ XR ν (packR ys) v := by
  have key : ∀ (rs : List ResultVar) (ys : List Y), resultsOf c env h rs = some ys →
      ∃ vs : List Value, (rs.mapM fun
        | .tmp t => pure (tmps.getD t undef)
        | .cell a t => do loadVar t (← asAddr (tmps.getD a undef)) : Sem (List Value)).run P w = .ok vs w ∧ LRel (YR ν) ys vs := by
    intro rs
    induction rs with
    | nil => intro ys hx; cases hx; exact ⟨[], rfl, trivial⟩
    | cons rv rs ih =>
      intro ys hx
      unfold resultsOf at hx
      simp only [Option.bind_eq_some_iff, Option.map_eq_some_iff] at hx
      obtain ⟨y, hy, ys', hys, rfl⟩ := hx
      obtain ⟨vs, h1, h2⟩ := ih ys' hys
      have hone : ∃ v, (match rv with
        | .tmp t => pure (tmps.getD t undef)
        | .cell a t => do loadVar t (← asAddr (tmps.getD a undef)) : Sem Value).run P w = .ok v w ∧ YR ν y v := by
        cases rv with
        | tmp t =>
          unfold resultOf at hy
          simp only at hy
          have := he.get t
          cases hg : env.get t with
          | tup l => rw [hg] at hy; cases hy
          | y y' =>
            rw [hg] at hy this
            cases hy
            exact ⟨_, rfl, this⟩
        | cell a t =>
          unfold resultOf at hy
          simp only at hy
          split at hy
          · rename_i b o hg
            have := he.get a
            obtain ⟨l, hl, e⟩ := this.v hg
            obtain ⟨v, h3, h4⟩ := hr.loadVar (P := P) hc hl hy
            refine ⟨v, ?_, h4⟩
            simp only [e]
            rw [rb (s := asAddr (.pointer (some ⟨l.blk, l.base + o, none⟩))) (a := ⟨l.blk, l.base + o, none⟩) (w1 := w) rfl]
            exact h3
          · cases hy
      obtain ⟨v, h3, h4⟩ := hone
      refine ⟨v :: vs, ?_, h4, h2⟩
      rw [List.mapM_cons, rb h3, rb h1]
      rfl
  obtain ⟨vs, h1, h2⟩ := key _ _ hx
  have hm : (fn.results.mapM fun
        | .tmp t => pure (tmps.getD t undef)
        | .cell a t => do loadVar t (← asAddr (tmps.getD a undef)) : Sem (Array Value)).run P w = .ok vs.toArray w := by
    rw [Array.mapM_eq_mapM_toList, Sem.run_map, h1]
    rfl
  have hres : (results fn tmps).run P w = (pure (if h : vs.toArray.size = 1 then vs.toArray[0] else .tuple vs.toArray) : Sem Value).run P w := by
    unfold results
    exact rb hm _
  rw [hres]
  match ys, vs, h2 with
  | [y], [v], h2 => exact ⟨v, rfl, h2.1⟩
  | [], [], _ => exact ⟨_, rfl, #[], rfl, trivial⟩
  | y :: y' :: ys, v :: v' :: vs, h2 =>
    refine ⟨.tuple (v :: v' :: vs).toArray, ?_, _, rfl, by simpa using h2⟩
    rw [dif_neg (by simp)]
    rfl
  | [y], v :: v' :: vs, h2 => exact h2.2.elim
  | y :: y' :: ys, [v], h2 => exact h2.2.elim
  | [], _ :: _, h2 => exact h2.elim
  | _ :: _, [], h2 => exact h2.elim

/-! ### What is left at the end -/
/-- A block is given up, and holds whatever. -/
theorem HR.scrap (hr : HR K B w0 ν h w) {b : Nat} {o : O} {l : Loc} (hb : h.get b = some o) (hl : ν b = some l) (hw : writable o = true)
    (hother : ∀ k, k ≠ l.blk → w'.heap[k]? = w.heap[k]?) (hsz : w'.heap.size = w.heap.size) (hs : SameRest w w') :
    HR K B w0 ν (h.kill b) w' ∧ Ext ν h w ν (h.kill b) w' := by
  have hbn := hr.new b o l hb hl hw
  constructor
  · refine ⟨hr.dom, fun x y z hx hz => ?_, fun x x' y y' z z' hne hx hx' hz hz' hwr => ?_, fun x y z hx hz hwr => ?_, ?_, by rw [hsz]; exact hr.size, fun x y hx => ?_⟩
    · rw [H.get_kill] at hx
      split at hx
      · cases hx
      · rename_i e
        have hne : z.blk ≠ l.blk := fun he => hr.sep b x o y l z e hb hx hl hz hw he.symm
        exact (hr.obj x y z hx hz).mono (Ren.le_refl _) (hother _ hne)
    · rw [H.get_kill] at hx hx'
      split at hx
      · cases hx
      · split at hx'
        · cases hx'
        · exact hr.sep x x' y y' z z' hne hx hx' hz hz' hwr
    · rw [H.get_kill] at hx
      split at hx
      · cases hx
      · exact hr.new x y z hx hz hwr
    · exact hr.below.trans ⟨⟨hs.os, hs.tape, hs.output, by rw [hsz]; exact Nat.le_refl _, fun k hk => hother k (by omega)⟩, fun _ => hs.drawn⟩
    · rw [H.get_kill] at hx
      split at hx
      · cases hx
      · exact hr.wf x y hx
  · refine ⟨Ren.le_refl _, fun _ h _ => h, Nat.le_refl _, fun x _ hx => ?_, fun k _ hk => hother k fun e => hk ⟨b, o, l, hb, hl, hw, e.symm⟩, by rw [hsz]; exact Nat.le_refl _, fun x y h1 h2 => (by rw [h1] at h2; cases h2), fun x y _ hx => ?_⟩
    · left
      rw [H.get_kill]
      split
      · rename_i e; subst e; rw [hl] at hx; cases hx
      · rfl
    · rw [H.get_kill] at hx
      split at hx
      · cases hx
      · exact ⟨y, hx, rfl⟩

theorem shut_cells {h' : H} : ∀ {bs : List Nat} {h : H}, shutMarks h bs = some h' → ∀ b, getCells h' b = getCells h b
  | [], h, hs, b => by cases hs; rfl
  | x :: bs, h, hs, b => by
    unfold shutMarks at hs
    split at hs
    · rename_i hg
      rw [shut_cells hs b]
      unfold getCells
      rw [H.get_kill]
      by_cases e : x = b
      · subst e; rw [if_pos rfl, hg]
      · rw [if_neg e]
    · cases hs

theorem results_shut {env : Env} {h' : H} {bs : List Nat} (hs : shutMarks h bs = some h') : ∀ rs : List ResultVar, resultsOf c env h' rs = resultsOf c env h rs
  | [] => rfl
  | r :: rs => by
    unfold resultsOf
    rw [results_shut hs rs]
    have : resultOf c env h' r = resultOf c env h r := by
      cases r with
      | tmp t => rfl
      | cell a t =>
        unfold resultOf
        simp only
        split
        · simp only [loadY, shut_cells hs]
        · rfl
    rw [this]

/-- The blocks of deferred calls are shut one by one. -/
theorem leaves_sound {F : Fence} {nn : Nat} {fn : Func} {tmps : Array Value} {R : Ending → World → Prop} {h' : H} :
    ∀ (bs : List Nat) (ds : List Deferred) (h : H) (w : World), MarksR ν bs ds → HR K B w0 ν h w → shutMarks h bs = some h' →
      (∀ w', HR K B w0 ν h' w' → Ext ν h w ν h' w' → ∃ v, (results fn tmps).run P w' = .ok v w' ∧ R (.returned v) w') → LeavesInM F nn P fn tmps R ds .returning w
  | [], [], h, w, _, hr, hs, fin => by
    cases hs
    exact fin w hr (Ext.refl _ _ _)
  | b :: bs, d :: ds, h, w, hm, hr, hs, fin => by
    unfold shutMarks at hs
    split at hs
    · rename_i hg
      obtain ⟨⟨l, hl, rfl⟩, hm⟩ := hm
      have hh : w.heap[l.blk]? = some (.deferred (some [])) := hr.obj b _ l hg hl
      have hlt := hr.lt hg hl
      obtain ⟨k1, k2⟩ := hr.scrap (w' := { w with heap := w.heap.setIfInBounds l.blk (.deferred none) }) hg hl rfl (fun k hk => by
        show (w.heap.setIfInBounds l.blk _)[k]? = _
        rw [Array.getElem?_setIfInBounds, if_neg (fun e => hk e.symm)]) (by simp) ⟨rfl, rfl, rfl, by first | exact Nat.le_refl _ | exact Nat.le_succ _⟩
      refine ⟨by simp, .inl ⟨l.blk, { w with heap := w.heap.setIfInBounds l.blk (.deferred none) }, rfl, ?_, ?_⟩⟩
      · unfold Instr.takeDeferred
        rw [rb (run_getObj hh (by simp))]
        simp only
        rw [rb (run_setObj hh (by simp) _)]
        rfl
      · exact leaves_sound bs ds (h.kill b) _ hm k1 hs fun w' q1 q2 => fin w' q1 (k2.trans hr.dom q2)
    · cases hs
  | [], _ :: _, _, _, hm, _, _, _ => hm.elim
  | _ :: _, [], _, _, hm, _, _, _ => hm.elim
end
end Go.Abs

/- All outcomes made one. -/
namespace Go.Abs
open Go Go.RowKit

/-- What one memory tells, the other tells. -/
def Tells (h g : H) : Prop := g.next ≤ h.next ∧ ∀ b o, h.get b = some o → g.get b = some o

theorem Tells.refl (h : H) : Tells h h := ⟨Nat.le_refl _, fun _ _ h => h⟩
theorem Tells.trans {a b d : H} (h : Tells a b) (k : Tells b d) : Tells a d := ⟨Nat.le_trans k.1 h.1, fun x o hx => k.2 x o (h.2 x o hx)⟩

theorem sameO_eq {a b : O} (h : sameO a b = true) : a = b := by
  unfold sameO at h
  split at h
  · rename_i a r b s
    rw [Bool.and_eq_true] at h
    have h1 : a = b := of_decide_eq_true h.1
    have h2 : r = s := by simpa using h.2
    rw [h1, h2]
  · rename_i a n b m
    rw [Bool.and_eq_true] at h
    have h1 : a = b := of_decide_eq_true h.1
    have h2 : n = m := Nat.eq_of_beq_eq_true h.2
    rw [h1, h2]
  · rfl
  · cases h

theorem joinTr_get : ∀ (t u : Tr O) (b : Nat) (o : O), (joinTr t u).get b = some o → t.get b = some o ∧ u.get b = some o := by
  intro t
  induction t with
  | e => intro u b o h; cases h
  | n x l r ihl ihr =>
    intro u b o
    cases u with
    | e => intro h; cases h
    | n y l' r' =>
      have hj : joinTr (.n x l r) (.n y l' r') = .n (match x, y with | some a, some b => bif sameO a b then some a else none | _, _ => none) (joinTr l l') (joinTr r r') := rfl
      rw [hj]
      intro h
      rw [Tr.get_n] at h
      rw [Tr.get_n, Tr.get_n]
      by_cases h0 : b = 0
      · simp only [h0, if_true] at h ⊢
        cases x with
        | none => cases h
        | some a =>
          cases y with
          | none => cases h
          | some a' =>
            simp only at h
            cases hs : sameO a a' with
            | false => rw [hs] at h; cases h
            | true =>
              rw [hs] at h
              cases h
              exact ⟨rfl, by rw [sameO_eq hs]⟩
      · simp only [h0, if_false] at h ⊢
        by_cases h1 : b % 2 = 1
        · simp only [h1, if_true] at h ⊢
          exact ihl l' _ o h
        · simp only [h1, if_false] at h ⊢
          exact ihr r' _ o h

theorem leaves_all {α : Type} : ∀ (t : T α) (L : List α), leaves t = some L → t.all fun p => p ∈ L := by
  intro t
  induction t with
  | ret a => intro L h; cases h; exact List.mem_singleton.2 rfl
  | fail => intro L h; cases h
  | ask n k ih =>
    intro L h i hi
    have key : ∀ (m : Nat) (L : List α), (Nat.rec (motive := fun _ => Option (List α)) (some []) (fun i r => r.bind fun l => (leaves (k i)).map (· ++ l)) m) = some L → ∀ i, i < m → ∃ Li, leaves (k i) = some Li ∧ ∀ p ∈ Li, p ∈ L := by
      intro m
      induction m with
      | zero => intro L _ i hi; omega
      | succ m ihm =>
        intro L h i hi
        simp only [Option.bind_eq_some_iff, Option.map_eq_some_iff] at h
        obtain ⟨l0, h0, lm, hm, rfl⟩ := h
        by_cases him : i = m
        · subst him
          exact ⟨lm, hm, fun p hp => List.mem_append_left _ hp⟩
        · obtain ⟨Li, h1, h2⟩ := ihm l0 h0 i (by omega)
          exact ⟨Li, h1, fun p hp => List.mem_append_right _ (h2 p hp)⟩
    obtain ⟨Li, h1, h2⟩ := key n L h i hi
    exact T.all_mono h2 (k i) (ih i Li h1)

theorem joinAll_spec {x : X} : ∀ (l : List (X × H)) (h h' : H), joinAll x h l = some h' → Tells h' h ∧ ∀ p ∈ l, p.1 = x ∧ Tells h' p.2
  | [], h, h', hj => by cases hj; exact ⟨Tells.refl _, fun p hp => by cases hp⟩
  | (y, g) :: l, h, h', hj => by
    unfold joinAll at hj
    cases hx : decide (x = y) with
    | false => rw [hx] at hj; cases hj
    | true =>
      rw [hx] at hj
      have hxy := of_decide_eq_true hx
      obtain ⟨h1, h2⟩ := joinAll_spec l _ h' hj
      have t1 : Tells { next := max h.next g.next, tr := joinTr h.tr g.tr } h := ⟨Nat.le_max_left _ _, fun b o hb => (joinTr_get _ _ b o hb).1⟩
      have t2 : Tells { next := max h.next g.next, tr := joinTr h.tr g.tr } g := ⟨Nat.le_max_right _ _, fun b o hb => (joinTr_get _ _ b o hb).2⟩
      refine ⟨h1.trans t1, fun p hp => ?_⟩
      rcases List.mem_cons.1 hp with rfl | hp
      · exact ⟨hxy.symm, h1.trans t2⟩
      · exact h2 p hp

theorem joinRes_all {t : Res} {Q : X × H → Prop} (h : (joinRes t).all Q) : t.all fun p => ∃ h', Q (p.1, h') ∧ Tells h' p.2 := by
  cases t with
  | ret p => exact ⟨p.2, h, Tells.refl _⟩
  | fail => exact h.elim
  | ask n k =>
    have h : (match leaves (T.ask n k) with
      | some ((x, h) :: rest) => okO (joinAll x h rest) fun h' => .ret (x, h')
      | _ => .fail : Res).all Q := h
    cases hl : leaves (T.ask n k) with
    | none => rw [hl] at h; exact h.elim
    | some L =>
      rw [hl] at h
      cases L with
      | nil => exact h.elim
      | cons p rest =>
        obtain ⟨x, h0⟩ := p
        obtain ⟨h', hj, hQ⟩ := okO_some h
        obtain ⟨h1, h2⟩ := joinAll_spec rest h0 h' hj
        refine T.all_mono (fun p hp => ?_) _ (leaves_all _ _ hl)
        rcases List.mem_cons.1 hp with rfl | hp
        · exact ⟨h', hQ, h1⟩
        · obtain ⟨e1, e2⟩ := h2 p hp
          exact ⟨h', by rw [e1]; exact hQ, e2⟩

section
variable {K : CodeP} {B : Base} {w0 w w' : World} {ν ν' : Ren} {h h' g : H}

theorem HR.tells (hr : HR K B w0 ν g w) (ht : Tells h g) : HR K B w0 ν h w :=
  ⟨fun b l hb => Nat.lt_of_lt_of_le (hr.dom b l hb) ht.1, fun b o l hb hl => hr.obj b o l (ht.2 b o hb) hl, fun b b' o o' l l' hne hb hb' => hr.sep b b' o o' l l' hne (ht.2 b o hb) (ht.2 b' o' hb'),
    fun b o l hb => hr.new b o l (ht.2 b o hb), hr.below, hr.size, fun b o hb => Nat.lt_of_lt_of_le (hr.wf b o (ht.2 b o hb)) ht.1⟩

theorem Ext.tells (e : Ext ν h w ν' g w') (ht : Tells h' g) : Ext ν h w ν' h' w' where
  le := e.le
  newdom := e.newdom
  next := Nat.le_trans e.next ht.1
  phantom := fun b hb hn => by
    cases hg : h'.get b with
    | none => exact .inr rfl
    | some o =>
      have h1 := ht.2 b o hg
      rcases e.phantom b hb hn with e1 | e1
      · rw [h1] at e1; exact .inl e1
      · rw [h1] at e1; cases e1
  frame := e.frame
  size := e.size
  fresh := e.fresh
  live := fun b o' hb ho => e.live b o' hb (ht.2 b o' ho)

theorem RetEnd.tells {Q : X × H → Prop} {e : Ending} (h1 : RetEnd K B w0 ν h w (fun p => ∃ h', Q (p.1, h') ∧ Tells h' p.2) e w') : RetEnd K B w0 ν h w Q e w' := by
  cases e with
  | returned v =>
    obtain ⟨x, g, ν', ⟨h', hQ, ht⟩, hx, hr, he⟩ := h1
    exact ⟨x, h', ν', hQ, hx, hr.tells ht, he.tells ht⟩
  | panicked ch => exact h1.elim
  | outgrown => exact h1.elim
end
end Go.Abs

/- Calls, as deep as asked. -/
namespace Go.Abs
open Go Go.RowKit

/-- The table of functions tells the program's. -/
def FiOk (P : Program) (c : Ctx) : Prop :=
  ∀ (f : FuncId) (fi : FI), c.fi.get f = some fi → ∃ fn : Func, P.funcs[f]? = some fn ∧ fn.body = some fi.body ∧ fn.ntmps = fi.ntmps ∧ fn.results.toList = fi.results ∧ (fn.name == "runtime.NumGoroutine") = false ∧ codeOk c fi.plans fi.body = true

/-- The functions that are taken by what they come to. -/
def PrimOk (K : CodeP) (B : Base) (w0 : World) (P : Program) (c : Ctx) : Prop :=
  ∀ g p, c.prim g = some p → ∀ m ν h w ys (vs : Array Value) (Q : X × H → Prop), HR K B w0 ν h w → LRel (YR ν) ys vs.toList → (p ys h).all Q →
    ((callFunc g vs).run P w = .ok (.enter g vs) w ∧ CallsIn Fence.wide m P g vs w (RetEnd K B w0 ν h w Q)) ∨
    ∃ v w', (callFunc g vs).run P w = .ok (.value v) w' ∧ RetEnd K B w0 ν h w Q (.returned v) w'

section
variable {B : Base} {w0 : World} {P : Program} {c : Ctx} {r : Rec} {fuel : Nat}

theorem callFunc_enter {g : FuncId} {fn : Func} {code : Code} (hf : P.funcs[g]? = some fn) (hb : fn.body = some code) (hn : (fn.name == "runtime.NumGoroutine") = false) (vs : Array Value) (w : World) :
    (callFunc g vs).run P w = .ok (.enter g vs) w := by
  unfold callFunc
  rw [rb (s := program) (a := P) (w1 := w) rfl]
  simp only [hf, hn, Bool.false_eq_true, if_false, hb, Option.isNone_some]
  rfl

noncomputable def callTree (c : Ctx) (fuel : Nat) (r : Rec) (f : FuncId) (fi : FI) (args : List Y) (h : H) : Res :=
  (body c r fuel f fi.plans none fi.body (mkEnv fi.ntmps args) h).bind fun p =>
      match p.1 with
      | .exit _ => .fail
      | .goto _ => .fail
      | _ =>
        okO (resultsOf c p.2.1 p.2.2 fi.results) fun ys =>
        okO (shutMarks p.2.2 p.2.1.marks) fun h' => .ret (packR ys, h')

theorem tree_sound (hc : CtxOk P c) (hm : P.follows .mixedOrders = true) (hfi : FiOk P c) (hrec : RecSound (KOf c) B w0 P c r) {m : Nat} {ν : Ren} {h : H} {w : World} {g : FuncId} {fi : FI} (hg : c.fi.get g = some fi) {ys : List Y} {vs : Array Value} {Q : X × H → Prop}
    (hr : HR (KOf c) B w0 ν h w) (hv : LRel (YR ν) ys vs.toList) (hx : (callTree c fuel r g fi ys h).all Q) : CallsIn Fence.wide m P g vs w (RetEnd (KOf c) B w0 ν h w Q) := by
  obtain ⟨fn, hf, hb, hnt, hres, _, hok⟩ := hfi g fi hg
  refine callsIn_of_wp_marks hf hb trivial ?_
  unfold callTree at hx
  rw [T.all_bind] at hx
  have hF : FenceOk Fence.wide ν none := .inl ⟨rfl, rfl⟩
  have he := mkEnv_R hv fi.ntmps
  rw [← hnt] at he
  refine body_sound (fn := g) (rd := none) hc hm ⟨fi, hg, rfl⟩ (fun ν hF => opSound_of_rec hc hrec ν hF) hrec hok (mkEnv fi.ntmps ys) h ν w _ _ _ hx hr (by rw [hnt] at he ⊢; exact he) trivial hF ?_
  intro ex env' h' ν' a' w' q1 q2 q3 q4 q5
  have fin : (okO (resultsOf c env' h' fi.results) fun ys => okO (shutMarks h' env'.marks) fun h' => (.ret (packR ys, h') : Res)).all Q → LeavesInM Fence.wide m P fn a'.tmps (RetEnd (KOf c) B w0 ν h w Q) a'.defers .returning w' := by
    intro q1
    obtain ⟨zs, hz, q1⟩ := okO_some q1
    obtain ⟨h2, hs, hQ⟩ := okO_some q1
    refine leaves_sound (fn := fn) env'.marks a'.defers h' w' q5 q3 hs fun w2 k1 k2 => ?_
    have hz2 : resultsOf c env' h2 fn.results.toList = some zs := by rw [hres, results_shut hs]; exact hz
    obtain ⟨v, hrun, hxr⟩ := results_run hc k1 q2 hz2
    exact ⟨v, hrun, packR zs, h2, ν', hQ, hxr, k1, q4.trans hr.dom k2⟩
  cases ex with
  | normal => exact fin q1
  | ret => exact fin q1
  | exit id => exact q1.elim
  | goto l => exact q1.elim

theorem callF_plain (hc : CtxOk P c) (hm : P.follows .mixedOrders = true) (hfi : FiOk P c) (hrec : RecSound (KOf c) B w0 P c r) {m : Nat} {ν : Ren} {h : H} {w : World} {g : FuncId} {ys : List Y} {vs : Array Value} {Q : X × H → Prop}
    (hr : HR (KOf c) B w0 ν h w) (hv : LRel (YR ν) ys vs.toList) (hx : (callF c fuel r g ys h).all Q) (hp : c.prim g = none) :
    (callFunc g vs).run P w = .ok (.enter g vs) w ∧ CallsIn Fence.wide m P g vs w (RetEnd (KOf c) B w0 ν h w Q) := by
  have hx : (match c.prim g with
    | some p => p ys h
    | none => okO (c.fi.get g) fun fi => bif fi.join then joinRes (callTree c fuel r g fi ys h) else callTree c fuel r g fi ys h : Res).all Q := hx
  rw [hp] at hx
  obtain ⟨fi, hg, hx⟩ := okO_some hx
  obtain ⟨fn, hf, hb, _, _, hnm, _⟩ := hfi g fi hg
  refine ⟨callFunc_enter hf hb hnm vs w, ?_⟩
  rcases (bif_all _ _ _).1 hx with ⟨_, hx⟩ | ⟨_, hx⟩
  · exact (tree_sound hc hm hfi hrec hg hr hv (joinRes_all hx)).mono fun e w' hR => RetEnd.tells hR
  · exact tree_sound hc hm hfi hrec hg hr hv hx

theorem callF_prim (hpr : PrimOk (KOf c) B w0 P c) {ν : Ren} {h : H} {w : World} {g : FuncId} {ys : List Y} {vs : Array Value} {Q : X × H → Prop} {p : List Y → H → T (X × H)}
    (hr : HR (KOf c) B w0 ν h w) (hv : LRel (YR ν) ys vs.toList) (hx : (callF c fuel r g ys h).all Q) (hp : c.prim g = some p) (m : Nat) :
    ((callFunc g vs).run P w = .ok (.enter g vs) w ∧ CallsIn Fence.wide m P g vs w (RetEnd (KOf c) B w0 ν h w Q)) ∨
    ∃ v w', (callFunc g vs).run P w = .ok (.value v) w' ∧ RetEnd (KOf c) B w0 ν h w Q (.returned v) w' := by
  have hx : (match c.prim g with
    | some p => p ys h
    | none => okO (c.fi.get g) fun fi => bif fi.join then joinRes (callTree c fuel r g fi ys h) else callTree c fuel r g fi ys h : Res).all Q := hx
  rw [hp] at hx
  exact hpr g p hp m ν h w ys vs Q hr hv hx
end
end Go.Abs

/- Rounds; calls n deep. -/
namespace Go.Abs
open Go Go.RowKit

section
variable {B : Base} {w0 : World} {P : Program} {c : Ctx} {r : Rec} {fuel : Nat}

theorem putParams_R {ν : Ren} : ∀ (ps : List Nat) (ys : List Y) (vs : List Value) (env env' : Env) (tmps : Array Value), putParams ps ys env = some env' → LRel (YR ν) ys vs → EnvR ν env.t env.n tmps →
    ps.length = vs.length ∧ EnvR ν env'.t env'.n ((ps.zip vs).foldl (fun tmps (p : Nat × Value) => tmps.setIfInBounds p.1 p.2) tmps) ∧ env'.marks = env.marks
  | [], [], [], env, env', tmps, h, _, he => by cases h; exact ⟨rfl, he, rfl⟩
  | p :: ps, y :: ys, v :: vs, env, env', tmps, h, hv, he => by
    have h : putParams ps ys (env.put p (.y y)) = some env' := h
    have he2 : EnvR ν (env.putD (some p) (.y y)).t (env.putD (some p) (.y y)).n (Act.put ⟨tmps, []⟩ (some p) v).tmps := EnvR.put (a := ⟨tmps, []⟩) he hv.1
    obtain ⟨h1, h2, h3⟩ := putParams_R ps ys vs _ env' _ h hv.2 he2
    exact ⟨by simp [h1], h2, by rw [h3]; exact Env.marks_put _ _ _⟩
  | [], [], _ :: _, _, _, _, _, hv, _ => hv.elim
  | _ :: _, _ :: _, [], _, _, _, _, hv, _ => hv.elim
  | [], _ :: _, _, _, _, _, h, _, _ => by cases h
  | _ :: _, [], _, _, _, _, h, _, _ => by cases h

theorem run_beginRound {w : World} {l : Nat} {r' : Loop} (h : w.heap[l]? = some (.loop r')) (hs : r'.state = .ready) : (Instr.beginRound l).run P w = .ok () { w with heap := w.heap.setIfInBounds l (.loop { r' with state := .busy }) } := by
  unfold Instr.beginRound
  rw [rb (run_getLoop h), rb (run_setObj h (by simp) _)]
  simp only [hs]
  rfl

theorem run_endRound {w : World} {l : Nat} {r' : Loop} (h : w.heap[l]? = some (.loop r')) (j : Option Code) : (Instr.endRound l j).run P w = .ok (.bool j.isNone) { w with heap := w.heap.setIfInBounds l (.loop { r' with state := if j.isNone then .ready else .done, pending := j }) } := by
  unfold Instr.endRound
  rw [rb (run_getLoop h), rb (run_setObj h (by simp) _)]
  rfl

theorem round_sound (hc : CtxOk P c) (hm : P.follows .mixedOrders = true) (hrec : RecSound (KOf c) B w0 P c r) (m : Nat) (ν : Ren) (h : H) (w : World) (b : Nat) (l : Loc) (ys : List Y) (vs : Array Value) (Q : X × H → Prop)
    (hr : HR (KOf c) B w0 ν h w) (hl : ν b = some l) (hv : LRel (YR ν) ys vs.toList) (hx : (roundF c fuel r b ys h).all Q) :
    ∃ f tmps assign body, (Instr.yield l.blk vs).run P w = .ok (.round l.blk f tmps assign body) w ∧ RoundIn Fence.wide m P l.blk f tmps assign body w (RetEnd (KOf c) B w0 ν h w Q) := by
  unfold roundF at hx
  cases hg : h.get b with
  | none => rw [hg] at hx; exact hx.elim
  | some o =>
    rw [hg] at hx
    cases o with
    | loop lr =>
      simp only at hx
      obtain ⟨fi, hfi, hx⟩ := okO_some hx
      obtain ⟨env, henv, hx⟩ := okO_some hx
      rw [T.all_bind] at hx
      obtain ⟨r', hh, hlr⟩ := hr.obj b _ l hg hl
      obtain ⟨hlen, henvR, hmk⟩ := putParams_R _ _ _ _ env r'.tmps henv hv hlr.env
      obtain ⟨fi1, hfi1, hoka⟩ := hlr.ka
      rw [hfi] at hfi1; cases hfi1
      obtain ⟨fi2, hfi2, hokb⟩ := hlr.kb
      rw [hfi] at hfi2; cases hfi2
      have hps : r'.params.size = vs.size := by
        rw [← hlr.params] at hlen
        simpa using hlen
      refine ⟨r'.fn, (r'.params.zip vs).foldl (fun tmps (t, a) => tmps.setIfInBounds t a) r'.tmps, r'.assign, r'.body, ?_, ?_⟩
      · unfold Instr.yield
        rw [rb (run_getLoop hh)]
        simp only [hps, ne_eq, not_true_eq_false, if_false]
        rfl
      · refine roundIn_of_wpIn trivial ?_
        have hF : FenceOk (Fence.wide.inRound l.blk) ν (some b) := .inr ⟨b, l, rfl, hl, rfl⟩
        rw [hlr.assign, hlr.body]
        have hzip : (r'.params.zip vs).foldl (fun tmps (t, a) => tmps.setIfInBounds t a) r'.tmps = (lr.params.zip vs.toList).foldl (fun tmps (p : Nat × Value) => tmps.setIfInBounds p.1 p.2) r'.tmps := by
          rw [← hlr.params, ← Array.foldl_toList, Array.toList_zip]
        rw [hzip]
        refine body_sound (fn := lr.fn) (rd := some b) hc hm ⟨fi, hfi, rfl⟩ (fun ν hF => opSound_of_rec hc hrec ν hF) hrec hoka env h ν w _ _ _ hx hr henvR (by rw [hmk]; trivial) hF ?_
        intro ex env1 h1 ν1 a1 w1 q1 q2 q3 q4 q5
        cases ex with
        | normal =>
          simp only at q1
          have hl1 := q4.le _ _ hl
          cases hg1 : h1.get b with
          | none => rw [hg1] at q1; exact q1.elim
          | some o1 =>
            rw [hg1] at q1
            cases o1 with
            | loop lr1 =>
              simp only at q1
              cases hst : lr1.state with
              | ready =>
                rw [hst] at q1
                simp only at q1
                rw [T.all_bind] at q1
                obtain ⟨r1, hh1, hlr1⟩ := q3.obj b _ l hg1 hl1
                have hlt1 := q3.lt hg1 hl1
                obtain ⟨k1, k2⟩ := q3.putObj (o' := .loop { lr1 with state := .busy }) hg1 hl1 rfl rfl (ob := .loop { r1 with state := .busy })
                  ⟨_, set_here hlt1 _, ⟨rfl, hlr1.pending, hlr1.env, hlr1.params, hlr1.assign, hlr1.body, hlr1.defers, hlr1.ka, hlr1.kb, hlr1.jump⟩⟩
                refine ⟨_, run_beginRound hh1 (by rw [hlr1.state]; exact hst), ?_⟩
                refine body_sound (fn := lr.fn) (rd := some b) hc hm ⟨fi, hfi, rfl⟩ (fun ν hF => opSound_of_rec hc hrec ν hF) hrec hokb env1 _ ν1 _ a1 _ _ q1 k1 q2 q5 (hF.mono q4.le) ?_
                intro ex2 env2 h2 ν2 a2 w2 p1 p2 p3 p4 p5
                simp only at p1
                have hl2 := p4.le _ _ hl1
                cases hg2 : h2.get b with
                | none => rw [hg2] at p1; exact p1.elim
                | some o2 =>
                  rw [hg2] at p1
                  cases o2 with
                  | loop lr2 =>
                    obtain ⟨r2, hh2, hlr2⟩ := p3.obj b _ l hg2 hl2
                    have hlt2 := p3.lt hg2 hl2
                    obtain ⟨s1, s2⟩ := p3.putObj (o' := .loop { lr2 with state := bif (jumpOf ex2).isNone then .ready else .done, pending := jumpOf ex2 }) hg2 hl2 rfl rfl
                      (ob := .loop { r2 with state := if (jumpOf ex2).isNone then .ready else .done, pending := jumpOf ex2 })
                      ⟨_, set_here hlt2 _, ⟨by cases (jumpOf ex2).isNone <;> rfl, rfl, hlr2.env, hlr2.params, hlr2.assign, hlr2.body, hlr2.defers, hlr2.ka, hlr2.kb, fun j hj => by
                        have hj : jumpOf ex2 = some j := hj
                        cases ex2 <;> cases hj <;> exact ⟨_, rfl⟩⟩⟩
                    have hret : RetEnd (KOf c) B w0 ν h w Q (.returned (.bool (jumpOf ex2).isNone)) { w2 with heap := w2.heap.setIfInBounds l.blk (.loop { r2 with state := if (jumpOf ex2).isNone then .ready else .done, pending := jumpOf ex2 }) } :=
                      ⟨_, _, ν2, p1, rfl, s1, ((q4.trans hr.dom k2).trans hr.dom p4).trans hr.dom s2⟩
                    cases ex2 with
                    | normal => exact ⟨_, _, run_endRound hh2 none, hret⟩
                    | ret => exact ⟨_, _, run_endRound hh2 (some .ret), hret⟩
                    | exit id => exact ⟨_, _, run_endRound hh2 (some (.exit id)), hret⟩
                    | goto t => exact ⟨_, _, run_endRound hh2 (some (.goto t)), hret⟩
                  | _ => exact p1.elim
              | _ => rw [hst] at q1; exact q1.elim
            | _ => exact q1.elim
        | exit id => exact q1.elim
        | goto t => exact q1.elim
        | ret => exact q1.elim
    | _ => exact hx.elim

/-- **Calls, n deep at most, are as the interpreter says.** -/
theorem recN_sound (hc : CtxOk P c) (hm : P.follows .mixedOrders = true) (hfi : FiOk P c) (hpr : PrimOk (KOf c) B w0 P c) : ∀ n, RecSound (KOf c) B w0 P c (recN c fuel n)
  | 0 => ⟨fun _ _ _ _ _ _ _ _ _ _ hx => hx.elim, fun _ _ _ _ _ _ _ _ _ _ hx => hx.elim, fun _ _ _ _ _ _ _ _ _ _ _ _ hx => hx.elim⟩
  | n + 1 => by
    have ih := recN_sound hc hm hfi hpr n
    exact ⟨fun m ν h w g ys vs Q hr hv hx hp => callF_plain hc hm hfi ih hr hv hx hp, fun ν h w g ys vs Q p hr hv hx hp m => callF_prim hpr hr hv hx hp m,
      fun m ν h w b l ys vs Q hr hl hv hx => round_sound hc hm ih m ν h w b l ys vs Q hr hl hv hx⟩
end
end Go.Abs

/- The tables, looked at. -/
namespace Go.Abs
open Go Go.RowKit

noncomputable def trAll {α : Type} (p : Nat → α → Bool) (t : Tr α) : Nat → Nat → Bool :=
  Tr.rec (motive := fun _ => Nat → Nat → Bool) (fun _ _ => true)
    (fun x _ _ il ir a b => (match x with | some x => p b x | none => true) && il (2 * a) (a + b) && ir (2 * a) (2 * a + b)) t

noncomputable def nodeOk {α : Type} (p : Nat → α → Bool) (b : Nat) : Option α → Bool
  | some x => p b x
  | none => true

theorem trAll_get {α : Type} {p : Nat → α → Bool} : ∀ (t : Tr α) (a b j : Nat) (x : α), trAll p t a b = true → t.get j = some x → p (a * j + b) x = true
  | .e, _, _, _, _, _, h => by cases h
  | .n y l r, a, b, j, x, h, hg => by
    have h : (nodeOk p b y && trAll p l (2 * a) (a + b) && trAll p r (2 * a) (2 * a + b)) = true := h
    simp only [Bool.and_eq_true] at h
    rw [Tr.get_n] at hg
    by_cases h0 : j = 0
    · subst h0
      rw [if_pos rfl] at hg
      subst hg
      have := h.1.1
      rw [Nat.mul_zero, Nat.zero_add]
      exact this
    · rw [if_neg h0] at hg
      by_cases h1 : j % 2 = 1
      · rw [if_pos h1] at hg
        have := trAll_get l (2 * a) (a + b) (j / 2) x h.1.2 hg
        have e : 2 * a * (j / 2) + (a + b) = a * j + b := by
          have hj : j = 2 * (j / 2) + 1 := by omega
          generalize j / 2 = k at hj
          subst hj
          rw [Nat.mul_add, Nat.mul_comm 2 a, Nat.mul_assoc]
          omega
        rw [e] at this
        exact this
      · rw [if_neg h1] at hg
        have := trAll_get r (2 * a) (2 * a + b) (j / 2 - 1) x h.2 hg
        have e : 2 * a * (j / 2 - 1) + (2 * a + b) = a * j + b := by
          obtain ⟨k, hk⟩ : ∃ k, j = 2 * k + 2 := ⟨j / 2 - 1, by omega⟩
          subst hk
          rw [show (2 * k + 2) / 2 - 1 = k by omega, Nat.mul_add, Nat.mul_comm 2 a, Nat.mul_assoc]
          omega
        rw [e] at this
        exact this

noncomputable def tiCheck (P : Program) (t : Tr TI) : Bool := trAll (fun i x => decide (tiOf P i = some x)) t 1 0

theorem ctxOk_of {P : Program} {c : Ctx} (h : tiCheck P c.ti = true) : CtxOk P c :=
  ⟨fun t i hg => by
    have := trAll_get c.ti 1 0 t i h hg
    rw [Nat.one_mul, Nat.add_zero] at this
    exact of_decide_eq_true this⟩
end Go.Abs

/- The table of functions, out of the program. -/
namespace Go.Abs
open Go Go.RowKit

/-- What the table adds to the program's text: whether outcomes are joined, and the plans. -/
structure FX where
  join : Bool
  plans : Tr Plan

noncomputable def fiAt (P : Program) (i : Nat) (x : FX) : Option FI :=
  match P.funcs[i]? with
  | some fn =>
    match fn.body with
    | some b => bif fn.name == "runtime.NumGoroutine" then none else some ⟨b, fn.ntmps, fn.results.toList, x.join, x.plans⟩
    | none => none
  | none => none

noncomputable def mapTr {α β : Type} (f : Nat → α → Option β) (t : Tr α) : Nat → Nat → Tr β :=
  Tr.rec (motive := fun _ => Nat → Nat → Tr β) (fun _ _ => .e)
    (fun x _ _ il ir a b => .n (x.bind (f b)) (il (2 * a) (a + b)) (ir (2 * a) (2 * a + b))) t

theorem mapTr_get {α β : Type} {f : Nat → α → Option β} : ∀ (t : Tr α) (a b j : Nat) (y : β), (mapTr f t a b).get j = some y → ∃ x, f (a * j + b) x = some y
  | .e, _, _, _, _, h => by cases h
  | .n x l r, a, b, j, y, h => by
    have hm : mapTr f (.n x l r) a b = .n (x.bind (f b)) (mapTr f l (2 * a) (a + b)) (mapTr f r (2 * a) (2 * a + b)) := rfl
    rw [hm, Tr.get_n] at h
    by_cases h0 : j = 0
    · subst h0
      rw [if_pos rfl] at h
      obtain ⟨z, _, hz⟩ := Option.bind_eq_some_iff.1 h
      exact ⟨z, by rw [Nat.mul_zero, Nat.zero_add]; exact hz⟩
    · rw [if_neg h0] at h
      by_cases h1 : j % 2 = 1
      · rw [if_pos h1] at h
        obtain ⟨z, hz⟩ := mapTr_get l (2 * a) (a + b) (j / 2) y h
        refine ⟨z, ?_⟩
        have e : 2 * a * (j / 2) + (a + b) = a * j + b := by
          have hj : j = 2 * (j / 2) + 1 := by omega
          generalize j / 2 = k at hj
          subst hj
          rw [Nat.mul_add, Nat.mul_comm 2 a, Nat.mul_assoc]
          omega
        rw [e] at hz
        exact hz
      · rw [if_neg h1] at h
        obtain ⟨z, hz⟩ := mapTr_get r (2 * a) (2 * a + b) (j / 2 - 1) y h
        refine ⟨z, ?_⟩
        have e : 2 * a * (j / 2 - 1) + (2 * a + b) = a * j + b := by
          obtain ⟨k, hk⟩ : ∃ k, j = 2 * k + 2 := ⟨j / 2 - 1, by omega⟩
          subst hk
          rw [show (2 * k + 2) / 2 - 1 = k by omega, Nat.mul_add, Nat.mul_comm 2 a, Nat.mul_assoc]
          omega
        rw [e] at hz
        exact hz

theorem fiOk_of {P : Program} {c : Ctx} {t : Tr FX} (h : c.fi = mapTr (fiAt P) t 1 0) (hk : trAll (fun _ fi => codeOk c fi.plans fi.body) c.fi 1 0 = true) : FiOk P c := by
  intro f fi hg
  have hok := trAll_get c.fi 1 0 f fi hk hg
  rw [h] at hg
  obtain ⟨x, hx⟩ := mapTr_get t 1 0 f fi hg
  rw [Nat.one_mul, Nat.add_zero] at hx
  unfold fiAt at hx
  cases hf : P.funcs[f]? with
  | none => rw [hf] at hx; cases hx
  | some fn =>
    rw [hf] at hx
    simp only at hx
    cases hb : fn.body with
    | none => rw [hb] at hx; cases hx
    | some b =>
      rw [hb] at hx
      simp only at hx
      cases hn : (fn.name == "runtime.NumGoroutine") with
      | true => rw [hn] at hx; cases hx
      | false =>
        rw [hn] at hx
        cases hx
        exact ⟨fn, rfl, hb, rfl, rfl, hn, hok⟩
end Go.Abs

/- Memory below is as it was: for library calls taken by what they come to; calls of closed arguments, each run once. -/
namespace Go.Abs
open Go Go.RowKit

theorem HR.above {K : CodeP} {B : Base} {w0 w w' : World} {ν : Ren} {h : H} (hr : HR K B w0 ν h w) (hb : Bel ⟨w.heap.size, B.track⟩ w w') : HR K B w0 ν h w' ∧ Ext ν h w ν h w' := by
  obtain ⟨⟨h1, h2, h3, h4, h5⟩, h6⟩ := hb
  refine ⟨⟨hr.dom, fun b o l hb hl => (hr.obj b o l hb hl).mono (Ren.le_refl _) (h5 _ (hr.lt hb hl)), hr.sep, hr.new, hr.below.trans ⟨⟨h1, h2, h3, h4, fun k hk => h5 k (Nat.lt_of_lt_of_le hk hr.size)⟩, h6⟩, by have := hr.size; omega, hr.wf⟩,
    ⟨Ren.le_refl _, fun _ h _ => h, Nat.le_refl _, fun _ _ _ => .inl rfl, fun k hk _ => h5 k hk, h4, fun b l e1 e2 => (by rw [e1] at e2; cases e2), fun b o' _ hb => ⟨o', hb, rfl⟩⟩⟩

/-- One function is taken by what it comes to. -/
def PrimOne (K : CodeP) (B : Base) (w0 : World) (P : Program) (g : FuncId) (p : List Y → H → Res) : Prop :=
  ∀ m ν h w ys (vs : Array Value) (Q : X × H → Prop), HR K B w0 ν h w → LRel (YR ν) ys vs.toList → (p ys h).all Q →
    ((callFunc g vs).run P w = .ok (.enter g vs) w ∧ CallsIn Fence.wide m P g vs w (RetEnd K B w0 ν h w Q)) ∨
    ∃ v w', (callFunc g vs).run P w = .ok (.value v) w' ∧ RetEnd K B w0 ν h w Q (.returned v) w'

theorem KOf_prim (c : Ctx) (p : FuncId → Option (List Y → H → T (X × H))) : KOf { c with prim := p } = KOf c := rfl

theorem CtxOk.prim {P : Program} {c : Ctx} (h : CtxOk P c) (p : FuncId → Option (List Y → H → T (X × H))) : CtxOk P { c with prim := p } := ⟨h.ti⟩
theorem FiOk.prim {P : Program} {c : Ctx} (h : FiOk P c) (p : FuncId → Option (List Y → H → T (X × H))) : FiOk P { c with prim := p } := h

theorem prim_split {f g : FuncId} {q p : List Y → H → Res} {rest : Option (List Y → H → Res)} (h : (bif Nat.beq f g then some q else rest) = some p) : (f = g ∧ q = p) ∨ rest = some p := by
  cases hb : Nat.beq f g with
  | true => rw [hb] at h; cases h; exact .inl ⟨Nat.eq_of_beq_eq_true hb, rfl⟩
  | false => rw [hb] at h; exact .inr h

section
variable {K : CodeP} {B : Base} {w0 : World} {P : Program} {c : Ctx} {r : Rec}

theorem RecSound.one (hrec : RecSound K B w0 P c r) (g : FuncId) : PrimOne K B w0 P g (r.call g) := by
  intro m ν h w ys vs Q hr hv hx
  cases hp : c.prim g with
  | none => exact .inl (hrec.plain m ν h w g ys vs Q hr hv hx hp)
  | some p => exact hrec.prim ν h w g ys vs Q p hr hv hx hp m

/-! ### Values without addresses -/
def plainV : V → Bool
  | .bool _ => true
  | .int _ _ => true
  | .str _ => true
  | .nilp => true
  | .nils => true
  | .nilm => true
  | .nilf => true
  | _ => false
def plainY : Y → Bool
  | .v x => plainV x
  | .agg cs => cs.all plainV
def plainX : X → Bool
  | .y y => plainY y
  | .tup ys => ys.all plainY

theorem LRel.all {α β : Type} {R S : α → β → Prop} {p : α → Bool} (hp : ∀ a b, p a = true → R a b → S a b) : ∀ {l : List α} {m : List β}, l.all p = true → LRel R l m → LRel S l m
  | [], [], _, _ => trivial
  | a :: l, b :: m, h, hl => by
    simp only [List.all_cons, Bool.and_eq_true] at h
    exact ⟨hp a b h.1 hl.1, LRel.all hp h.2 hl.2⟩
  | [], _ :: _, _, hl => hl.elim
  | _ :: _, [], _, hl => hl.elim

theorem plainV_R {ν ν' : Ren} (x : V) (v : Value) (h : plainV x = true) (hv : VR ν x v) : VR ν' x v := by
  cases x <;> first | exact hv | cases h
theorem plainY_R {ν ν' : Ren} (y : Y) (v : Value) (h : plainY y = true) (hv : YR ν y v) : YR ν' y v := by
  cases y with
  | v x => exact plainV_R x v h hv
  | agg cs => obtain ⟨c, e, hl⟩ := hv; exact ⟨c, e, LRel.all plainV_R h hl⟩
theorem plainX_R {ν ν' : Ren} (x : X) (v : Value) (h : plainX x = true) (hv : XR ν x v) : XR ν' x v := by
  cases x with
  | y y => exact plainY_R y v h hv
  | tup ys => obtain ⟨vs, e, hl⟩ := hv; exact ⟨vs, e, LRel.all plainY_R h hl⟩

theorem sameV_eq {a b : V} (h : sameV a b = true) : a = b ∧ plainV b = true := by
  unfold sameV at h
  split at h <;> first | exact ⟨rfl, rfl⟩ | skip
  · rename_i k a l b
    rw [Bool.and_eq_true] at h
    have h1 : k = l := of_decide_eq_true h.1
    have h2 := h.2
    rw [intEq_eq] at h2
    have h2 : a = b := of_decide_eq_true h2
    subst h1; subst h2
    exact ⟨rfl, rfl⟩
  · rename_i a b
    rw [bytesEq_eq] at h
    have h : a = b := by simpa using h
    subst h
    exact ⟨rfl, rfl⟩
  · cases h
theorem sameVs_eq : ∀ {l m : List V}, sameVs l m = true → l = m ∧ m.all plainV = true
  | [], [], _ => ⟨rfl, rfl⟩
  | a :: l, b :: m, h => by
    have h : (sameV a b && sameVs l m) = true := h
    rw [Bool.and_eq_true] at h
    obtain ⟨e1, p1⟩ := sameV_eq h.1
    obtain ⟨e2, p2⟩ := sameVs_eq h.2
    exact ⟨by rw [e1, e2], by rw [List.all_cons, p1, p2]; rfl⟩
  | [], _ :: _, h => by cases h
  | _ :: _, [], h => by cases h
theorem sameY_eq {a b : Y} (h : sameY a b = true) : a = b ∧ plainY b = true := by
  cases a <;> cases b
  · obtain ⟨e, p⟩ := sameV_eq h; exact ⟨by rw [e], p⟩
  · cases h
  · cases h
  · obtain ⟨e, p⟩ := sameVs_eq h; exact ⟨by rw [e], p⟩
theorem sameYs_eq : ∀ {l m : List Y}, sameYs l m = true → l = m ∧ m.all plainY = true
  | [], [], _ => ⟨rfl, rfl⟩
  | a :: l, b :: m, h => by
    have h : (sameY a b && sameYs l m) = true := h
    rw [Bool.and_eq_true] at h
    obtain ⟨e1, p1⟩ := sameY_eq h.1
    obtain ⟨e2, p2⟩ := sameYs_eq h.2
    exact ⟨by rw [e1, e2], by rw [List.all_cons, p1, p2]; rfl⟩
  | [], _ :: _, h => by cases h
  | _ :: _, [], h => by cases h

theorem findMemo_some : ∀ {tbl : List (List Y × X)} {ys : List Y} {x : X}, findMemo tbl ys = some x → (ys, x) ∈ tbl ∧ ys.all plainY = true
  | e :: l, ys, x, h => by
    unfold findMemo at h
    cases hs : sameYs e.1 ys with
    | true =>
      rw [hs] at h
      cases h
      obtain ⟨e1, p⟩ := sameYs_eq hs
      exact ⟨by rw [← e1]; exact List.mem_cons_self, p⟩
    | false =>
      rw [hs] at h
      obtain ⟨h1, h2⟩ := findMemo_some (tbl := l) h
      exact ⟨List.mem_cons_of_mem _ h1, h2⟩

def MemoOk (call : List Y → H → Res) (tbl : List (List Y × X)) : Prop := ∀ e ∈ tbl, plainX e.2 = true ∧ closedRet (call e.1 emptyH) e.2 = true

theorem HR.empty (K : CodeP) (t : Bool) (w : World) : HR K ⟨w.heap.size, t⟩ w (fun _ => none) emptyH w where
  dom := fun _ _ h => by cases h
  obj := fun _ _ _ h _ => by cases h
  sep := fun _ _ _ _ _ _ _ h => by cases h
  new := fun _ _ _ h => by cases h
  below := Bel.refl _ _
  size := Nat.le_refl _
  wf := fun _ _ h => by cases h

theorem memo_ok {g : FuncId} {tbl : List (List Y × X)} {tk : Bool} (hrec : ∀ n w0, RecSound K ⟨n, tk⟩ w0 P c r) (ht : MemoOk (r.call g) tbl) (n : Nat) (w0 : World) : PrimOne K ⟨n, tk⟩ w0 P g (memoP tbl (r.call g)) := by
  intro m ν h w ys vs Q hr hv hx
  unfold memoP at hx
  cases hf : findMemo tbl ys with
  | none => rw [hf] at hx; exact (hrec n w0).one g m ν h w ys vs Q hr hv hx
  | some x =>
    rw [hf] at hx
    have hx : Q (x, h) := hx
    obtain ⟨hmem, hpl⟩ := findMemo_some hf
    obtain ⟨hpx, hcl⟩ := ht _ hmem
    have hrun : (r.call g ys emptyH).all (fun p => p.1 = x) := by
      unfold closedRet at hcl
      split at hcl
      · rename_i p hp
        simp only at hp
        rw [hp]
        show p.1 = x
        exact of_decide_eq_true hcl
      · cases hcl
    have fin : ∀ e w', RetEnd K ⟨w.heap.size, tk⟩ w (fun _ => none) emptyH w (fun p => p.1 = x) e w' → RetEnd K ⟨n, tk⟩ w0 ν h w Q e w' := by
      intro e w' hR
      cases e with
      | returned v =>
        obtain ⟨x', h', ν', e1, hxr, hr', _⟩ := hR
        have e1 : x' = x := e1
        subst e1
        obtain ⟨k1, k2⟩ := hr.above hr'.below
        exact ⟨x', h, ν, hx, plainX_R _ _ hpx hxr, k1, k2⟩
      | _ => exact hR.elim
    rcases (hrec w.heap.size w).one g m (fun _ => none) emptyH w ys vs _ (HR.empty K tk w) (LRel.all plainY_R hpl hv) hrun with ⟨h1, h2⟩ | ⟨v, w', h1, h2⟩
    · exact .inl ⟨h1, h2.mono fin⟩
    · exact .inr ⟨v, w', h1, fin _ _ h2⟩
end
end Go.Abs

/- A function whose way hangs on a row's capacity, which is open: run with the least one, and with a greater one; both ends made one. -/
namespace Go.Abs
open Go Go.RowKit

section
variable {K : CodeP} {B : Base} {w0 w w' : World} {ν : Ren} {h : H} {P : Program}

theorem HR.bump (hr : HR K B w0 ν h w) {n : Nat} (hn : h.next ≤ n) : HR K B w0 ν { h with next := n } w ∧ Ext ν h w ν { h with next := n } w :=
  ⟨⟨fun b l hl => Nat.lt_of_lt_of_le (hr.dom b l hl) hn, hr.obj, hr.sep, hr.new, hr.below, hr.size, fun b o ho => Nat.lt_of_lt_of_le (hr.wf b o ho) hn⟩,
   ⟨Ren.le_refl _, fun _ h _ => h, hn, fun _ _ _ => .inl rfl, fun _ _ _ => rfl, Nat.le_refl _, fun b l h1 h2 => (by rw [h1] at h2; cases h2), fun b o' _ hb => ⟨o', hb, rfl⟩⟩⟩

/-- A row goes on under a new name. -/
theorem HR.renameRow (hr : HR K B w0 ν h w) {b o len cap opn : Nat} {cs content : List V} {v : Value} (hg : h.get b = some (.cells cs false)) (hv : VR ν (.slice b o len cap opn) v) (hopn : opn ≠ 0)
    (hsub : Abs.sub cs o (len * opn) = some content) :
    ∃ ν', HR K B w0 ν' ((h.kill b).new (.cells content false)) w ∧ Ext ν h w ν' ((h.kill b).new (.cells content false)) w ∧ VR ν' (.slice h.next 0 len len opn) v := by
  obtain ⟨l, a, cap', hl, rfl, hle, ha, hcap⟩ := hv
  rw [if_neg hopn] at hcap
  obtain ⟨cc, t, fr, h1, h2, h3⟩ := hr.obj b _ l hg hl
  obtain ⟨h4, h5, h6⟩ := h3 rfl
  obtain ⟨hin, rfl⟩ := sub_some hsub
  have hmul : len * opn ≤ cap' * opn := Nat.mul_le_mul_right _ hle
  obtain ⟨m1, m2⟩ := hr.move (l' := ⟨l.blk, l.base + o, l.tot - o⟩) (o' := .cells ((cs.drop o).take (len * opn)) false) (w' := w) hg hl rfl rfl (fun _ _ => rfl) rfl (SameRest.refl w) (by
    refine ⟨cc, t, fr, h1, fun i y hy => ?_, fun _ => ⟨?_, ?_, fun i hi => ?_⟩⟩
    · rw [List.getElem?_take] at hy
      split at hy
      · rw [List.getElem?_drop] at hy
        obtain ⟨u, v1, v2⟩ := h2 (o + i) y hy
        exact ⟨u, by rw [← v1]; congr 1; show l.base + o + i = _; omega, v2.mono (ren_le hr.free)⟩
      · cases hy
    · simp only [List.length_take, List.length_drop]
      omega
    · show l.base + o + (l.tot - o) ≤ cc.size
      omega
    · have hi : i < l.tot - o := hi
      have := h6 (o + i) (by omega)
      show ¬ (fr.1 ≤ l.base + o + i ∧ l.base + o + i < fr.2)
      intro hh
      exact this ⟨by omega, by omega⟩)
  refine ⟨_, m1, m2, _, a, cap', ren_self _ _ _, rfl, hle, ?_, ?_⟩
  · rcases ha with ha | ha
    · exact .inl ha
    · exact .inr (by rw [ha]; rfl)
  · rw [if_neg hopn]
    exact ⟨hle, by show 0 + cap' * opn = l.tot - o; omega⟩

theorem joinRow_some {xa xb : X} {ha hb : H} {Q : X × H → Prop} (hx : (joinRow xa ha xb hb).all Q) :
    ∃ ba oa la ca pa bb ob cb csa csb d, xa = .y (.v (.slice ba oa la ca pa)) ∧ xb = .y (.v (.slice bb ob la cb pa)) ∧ ha.get ba = some (.cells csa false) ∧ hb.get bb = some (.cells csb false) ∧
      sub csa oa (la * pa) = some d ∧ sub csb ob (la * pa) = some d ∧ pa ≠ 0 ∧
      Q (.y (.v (.slice (max ha.next hb.next) 0 la la pa)), { next := Nat.succ (max ha.next hb.next), tr := (((joinTr ha.tr hb.tr).set ba none).set bb none).set (max ha.next hb.next) (some (.cells d false)) }) := by
  unfold joinRow at hx
  split at hx
  · rename_i ba oa la ca pa bb ob lb cb pb
    split at hx
    · rename_i csa csb g1 g2
      split at hx
      · rename_i da db s1 s2
        obtain ⟨hg, hQ⟩ := (guardT_all _ _).1 hx
        simp only [Bool.and_eq_true] at hg
        have e1 := Nat.eq_of_beq_eq_true hg.1.1.1
        have e2 := Nat.eq_of_beq_eq_true hg.1.1.2
        have e3 := Nat.le_of_ble_eq_true hg.1.2
        have e4 : da = db := of_decide_eq_true hg.2
        subst e1; subst e2; subst e4
        exact ⟨ba, oa, la, ca, pa, bb, ob, cb, csa, csb, da, rfl, rfl, g1, g2, s1, s2, by omega, hQ⟩
      · exact hx.elim
    · exact hx.elim
  · exact hx.elim

/-- One of the two ends, as the joined one. -/
theorem RetEnd.row {ν0 : Ren} {h0 g : H} {w0' : World} {Q : X × H → Prop} {e : Ending} {b o len cap opn n b2 : Nat} {cs d : List V} {tr : Tr O}
    (hg : g.get b = some (.cells cs false)) (hsub : sub cs o (len * opn) = some d) (hopn : opn ≠ 0) (hn : g.next ≤ n) (hdom : ∀ b l, ν0 b = some l → b < h0.next)
    (htr : ∀ k x, tr.get k = some x → k ≠ b → g.tr.get k = some x) (hb : b = b2 ∨ ∀ k x, (tr.set b2 none).get k = some x → k ≠ b)
    (hQ : Q (.y (.v (.slice n 0 len len opn)), { next := Nat.succ n, tr := (tr.set b2 none).set n (some (.cells d false)) }))
    (hR : RetEnd K B w0 ν0 h0 w0' (fun p => p = (.y (.v (.slice b o len cap opn)), g)) e w') : RetEnd K B w0 ν0 h0 w0' Q e w' := by
  cases e with
  | returned v =>
    obtain ⟨x', h', ν', e1, hx, hr, he⟩ := hR
    cases e1
    obtain ⟨k1, k2⟩ := hr.bump hn
    obtain ⟨ν2, m1, m2, m3⟩ := k1.renameRow (b := b) (o := o) (len := len) (cap := cap) (opn := opn) (cs := cs) (content := d) (v := v) hg hx hopn hsub
    refine RetEnd.tells (e := .returned v) ⟨.y (.v (.slice n 0 len len opn)), (({ next := n, tr := g.tr } : H).kill b).new (.cells d false), ν2, ⟨_, hQ, Nat.le_refl _, fun k x hk => ?_⟩, m3, m1, (he.trans hdom k2).trans hdom m2⟩
    have hk : ((tr.set b2 none).set n (some (.cells d false))).get k = some x := hk
    rw [H.get_new, H.get_kill, H.next_kill]
    rw [Tr.get_set] at hk
    show (if n = k then _ else _) = _
    split at hk
    · rename_i e; rw [if_pos e]; exact hk
    · rename_i e
      rw [if_neg e]
      have hkb : k ≠ b := by
        rcases hb with hb | hb
        · intro e2
          rw [Tr.get_set, if_pos (by rw [← hb, e2])] at hk
          cases hk
        · exact hb k x hk
      rw [if_neg (fun e2 => hkb e2.symm)]
      rw [Tr.get_set] at hk
      split at hk
      · cases hk
      · exact htr k x hk hkb
  | panicked ch => exact hR.elim
  | outgrown => exact hR.elim

theorem opt_some {α : Type} {t : T α} {a : α} (h : t.opt = some a) : t = .ret a := by
  cases t with
  | ret b => cases h; rfl
  | fail => cases h
  | ask n k => cases h

theorem fork_ok {g : FuncId} {call : List Y → H → Res} (hone : PrimOne K B w0 P g call) : PrimOne K B w0 P g (forkP call) := by
  intro m ν h w ys vs Q hr hv hx
  unfold forkP at hx
  cases hc : call ys h with
  | ret a => rw [hc] at hx; exact hone m ν h w ys vs Q hr hv (by rw [hc]; exact hx)
  | ask n k => rw [hc] at hx; exact hone m ν h w ys vs Q hr hv (by rw [hc]; exact hx)
  | fail =>
    rw [hc] at hx
    simp only at hx
    split at hx
    · rename_i b o n cap opn rest
      obtain ⟨hg, hx⟩ := (guardT_all _ _).1 hx
      simp only [Bool.and_eq_true] at hg
      have ho := Nat.le_of_ble_eq_true hg.1
      have hcn := Nat.le_of_ble_eq_true hg.2
      split at hx
      · rename_i p q hp hq
        have hp := opt_some hp
        have hq := opt_some hq
        obtain ⟨ba, oa, la, ca, pa, bb, ob, cb, csa, csb, d, e1, e2, g1, g2, s1, s2, hpa, hQ⟩ := joinRow_some hx
        obtain ⟨vs1, vr, hvs⟩ : ∃ v vr, vs.toList = v :: vr := by
          cases hl : vs.toList with
          | nil => rw [hl] at hv; exact hv.elim
          | cons v vr => exact ⟨v, vr, rfl⟩
        rw [hvs] at hv
        obtain ⟨l, a, cap', hl, rfl, hle, ha, hcap⟩ := hv.1
        rw [if_neg (by omega)] at hcap
        by_cases hroom : n + 1 ≤ cap'
        · have hv' : LRel (YR ν) (.v (.slice b o n (Nat.succ n) opn) :: rest) vs.toList := by
            rw [hvs]
            exact ⟨⟨l, a, cap', hl, rfl, hle, ha, by rw [if_neg (by omega)]; exact ⟨hroom, hcap.2⟩⟩, hv.2⟩
          have fin : ∀ e w', RetEnd K B w0 ν h w (fun r => r = q) e w' → RetEnd K B w0 ν h w Q e w' := fun e w' hR => by
            have eq : q = (.y (.v (.slice bb ob la cb pa)), q.2) := by rw [← e2]
            rw [eq] at hR
            refine RetEnd.row (tr := (joinTr p.2.tr q.2.tr).set ba none) g2 s2 hpa (Nat.le_max_right _ _) hr.dom (fun k x hk _ => ?_) (.inl rfl) hQ hR
            rw [Tr.get_set] at hk
            split at hk
            · cases hk
            · exact (joinTr_get _ _ _ _ hk).2
          rcases hone m ν h w _ vs (fun r => r = q) hr hv' (by rw [hq]; exact rfl) with ⟨h1, h2⟩ | ⟨v, w', h1, h2⟩
          · exact .inl ⟨h1, h2.mono fin⟩
          · exact .inr ⟨v, w', h1, fin _ _ h2⟩
        · have hv' : LRel (YR ν) (.v (.slice b o n n 0) :: rest) vs.toList := by
            rw [hvs]
            exact ⟨⟨l, a, cap', hl, rfl, hle, ha, by rw [if_pos rfl]; omega⟩, hv.2⟩
          have fin : ∀ e w', RetEnd K B w0 ν h w (fun r => r = p) e w' → RetEnd K B w0 ν h w Q e w' := fun e w' hR => by
            have eq : p = (.y (.v (.slice ba oa la ca pa)), p.2) := by rw [← e1]
            rw [eq] at hR
            refine RetEnd.row (tr := (joinTr p.2.tr q.2.tr).set ba none) g1 s1 hpa (Nat.le_max_left _ _) hr.dom (fun k x hk hkb => ?_) (.inr fun k x hk e => ?_) hQ hR
            · rw [Tr.get_set] at hk
              split at hk
              · cases hk
              · exact (joinTr_get _ _ _ _ hk).1
            · subst e
              rw [Tr.get_set] at hk
              split at hk
              · cases hk
              · rw [Tr.get_set, if_pos rfl] at hk
                cases hk
          rcases hone m ν h w _ vs (fun r => r = p) hr hv' (by rw [hp]; exact rfl) with ⟨h1, h2⟩ | ⟨v, w', h1, h2⟩
          · exact .inl ⟨h1, h2.mono fin⟩
          · exact .inr ⟨v, w', h1, fin _ _ h2⟩
      · exact hx.elim
    · exact hx.elim
end
end Go.Abs

/- Functions of Go's library that are taken by what they come to. -/
namespace Go.Abs
open Go Go.RowKit

section
variable {K : CodeP} {B : Base} {w0 w : World} {ν : Ren} {h : H} {P : Program}

/-- A function without a body: how it runs. -/
def ExternOf (P : Program) (g : FuncId) (e : Array Value → Sem Value) : Prop := ∀ args w, (callFunc g args).run P w = ((e args).run P w).andThen fun v w' => .ok (.value v) w'

theorem extern_one {g : FuncId} {e : Array Value → Sem Value} {p : List Y → H → Res} (he : ExternOf P g e)
    (hs : ∀ ν h w ys (vs : Array Value) (Q : X × H → Prop), HR K B w0 ν h w → LRel (YR ν) ys vs.toList → (p ys h).all Q → ∃ v w', (e vs).run P w = .ok v w' ∧ RetEnd K B w0 ν h w Q (.returned v) w') : PrimOne K B w0 P g p := by
  intro m ν h w ys vs Q hr hv hx
  obtain ⟨v, w', h1, h2⟩ := hs ν h w ys vs Q hr hv hx
  exact .inr ⟨v, w', by rw [he, h1]; rfl, h2⟩

theorem LRel.two {α β : Type} {R : α → β → Prop} {a b : α} {vs : Array β} (h : LRel R [a, b] vs.toList) : ∃ u v, vs = #[u, v] ∧ R a u ∧ R b v := by
  obtain ⟨l⟩ := vs
  match l, h with
  | [u, v], h => exact ⟨u, v, rfl, h.1, h.2.1⟩
  | [], h => exact h.elim
  | [_], h => exact h.2.elim
  | _ :: _ :: _ :: _, h => exact h.2.2.elim

theorem byte_beq {b : Nat} (hb : b < 256) (x : UInt8) : (x == (Int.ofNat b).toNat.toUInt8) = Nat.beq x.toNat b := by
  have e : (Int.ofNat b).toNat.toUInt8.toNat = b := by
    show b.toUInt8.toNat = b
    simp [Nat.toUInt8, Nat.mod_eq_of_lt hb]
  rw [Bool.eq_iff_iff, beq_iff_eq]
  constructor
  · rintro rfl; rw [e]; exact Nat.beq_refl _
  · intro h
    have h := Nat.eq_of_beq_eq_true h
    apply UInt8.toNat_inj.1
    rw [e, h]

theorem idxB_eq {b : Nat} (hb : b < 256) : ∀ (l : List UInt8) (i : Nat), idxB b l i = if Lib.indexByte l (Int.ofNat b).toNat.toUInt8 = -1 then -1 else (i : Int) + Lib.indexByte l (Int.ofNat b).toNat.toUInt8
  | [], i => rfl
  | x :: l, i => by
    unfold idxB Lib.indexByte
    rw [byte_beq hb]
    cases hx : Nat.beq x.toNat b with
    | true => simp
    | false =>
      simp only [cond_false, Bool.false_eq_true, if_false]
      rw [idxB_eq hb l (Nat.succ i)]
      have := Lib.indexByte_ge l (Int.ofNat b).toNat.toUInt8
      generalize Lib.indexByte l (Int.ofNat b).toNat.toUInt8 = q at this ⊢
      by_cases hm : q = -1
      · subst hm; rfl
      · have hne : (q == -1) = false := by simpa using hm
        rw [if_neg hm, hne]
        simp only [Bool.false_eq_true, if_false]
        rw [if_neg (by omega)]
        omega

theorem idx_ok {g : FuncId} (he : ExternOf P g Extern.BytealgIndexByte.indexByte) : PrimOne K B w0 P g idxP := by
  refine extern_one he fun ν h w ys vs Q hr hv hx => ?_
  unfold idxP at hx
  split at hx
  · rename_i s b
    obtain ⟨hb, hQ⟩ := (guardT_all _ _).1 hx
    have hb : b < 256 := Nat.lt_of_succ_le (Nat.le_of_ble_eq_true hb)
    obtain ⟨u, v, rfl, e1, e2⟩ := LRel.two hv
    cases e1; cases e2
    refine ⟨_, w, Lib.run_indexByteString _ _ w, _, h, ν, hQ, ?_, hr, Ext.refl _ _ _⟩
    show Value.int .i64 (Lib.indexByte s _) = .int .i64 (idxB b s 0)
    congr 1
    rw [idxB_eq hb]
    split
    · rename_i e; exact e
    · omega
  · exact hx.elim

theorem cntB_eq {b : Nat} (hb : b < 256) : ∀ (l : List UInt8) (n : Nat), cntB b l n = n + Lib.countByte l (Int.ofNat b).toNat.toUInt8
  | [], n => rfl
  | x :: l, n => by
    unfold cntB Lib.countByte
    rw [List.count_cons, byte_beq hb, cntB_eq hb l, cntB_eq hb l]
    unfold Lib.countByte
    cases Nat.beq x.toNat b <;> simp <;> omega

theorem cnt_ok {g : FuncId} (he : ExternOf P g Extern.BytealgCount.count) : PrimOne K B w0 P g cntP := by
  refine extern_one he fun ν h w ys vs Q hr hv hx => ?_
  unfold cntP at hx
  split at hx
  · rename_i s b
    obtain ⟨hb, hQ⟩ := (guardT_all _ _).1 hx
    have hb : b < 256 := Nat.lt_of_succ_le (Nat.le_of_ble_eq_true hb)
    obtain ⟨u, v, rfl, e1, e2⟩ := LRel.two hv
    cases e1; cases e2
    refine ⟨_, w, Lib.run_countString _ _ w, _, h, ν, hQ, ?_, hr, Ext.refl _ _ _⟩
    show Value.int .i64 ((Lib.countByte s _ : Nat) : Int) = .int .i64 (Int.ofNat (cntB b s 0))
    rw [cntB_eq hb, Nat.zero_add]
    rfl
  · exact hx.elim

/-! ### strings.Join -/
theorem joinL_some {sep : List UInt8} : ∀ {cs : List V} {l : List UInt8}, joinL sep cs = some l → ∃ strs : List (List UInt8), cs = strs.map V.str ∧ l = Lib.join strs sep
  | [], l, h => by cases h; exact ⟨[], rfl, rfl⟩
  | [.str x], l, h => by cases h; exact ⟨[x], rfl, (Lib.join_one _ _).symm⟩
  | .str x :: y :: r, l, h => by
    have h : (joinL sep (y :: r)).map (fun l => x ++ (sep ++ l)) = some l := h
    rw [Option.map_eq_some_iff] at h
    obtain ⟨l0, h0, rfl⟩ := h
    obtain ⟨strs, e1, e2⟩ := joinL_some h0
    match strs, e1, e2 with
    | s :: r', e1, e2 =>
      refine ⟨x :: s :: r', by rw [List.map_cons, ← e1], ?_⟩
      rw [e2, Lib.join_cons, Lib.join_cons]
      simp [Lib.joinTail, List.append_assoc]
    | [], e1, e2 => cases e1

theorem join_ok (hB : B.track = false) {g : FuncId} {fn : Func} {code : Code} (hf : P.funcs[g]? = some fn) (hb : fn.body = some code) (hn : (fn.name == "runtime.NumGoroutine") = false)
    (j0 : ∀ (a : Option Addr) (c : Nat) (sep : ByteArray) (w : World), Calls P g #[.slice a 0 c, .string sep] w fun e w' => e = .returned (.string ⟨#[]⟩) ∧ w' = w)
    (j1 : ∀ (bk o c : Nat) (xs : List ByteArray) (sep : ByteArray) (w : World) (_ : ∀ (j : Nat) x, xs[j]? = some x → w.cell? ⟨bk, o + j, none⟩ = some (.string x)) (_ : bk < w.heap.size) (_ : xs.length ≤ 140737488355328) (_ : xs.length ≤ c)
      (_ : (Lib.join (xs.map (·.data.toList)) sep.data.toList).length ≤ 140737488355328),
      Calls P g #[.slice (some ⟨bk, o, none⟩) xs.length c, .string sep] w fun e w' => e = .returned (.string ⟨(Lib.join (xs.map (·.data.toList)) sep.data.toList).toArray⟩) ∧ Below w.heap.size w w') : PrimOne K B w0 P g joinP := by
  intro m ν h w ys vs Q hr hv hx
  refine .inl ⟨callFunc_enter hf hb hn vs w, callsIn_wide.2 ?_⟩
  unfold joinP at hx
  have none_ : ∀ (a : Option Addr) (c : Nat) (sep : List UInt8), Q (.y (.v (.str [])), h) → Calls P g #[.slice a 0 c, .string ⟨⟨sep⟩⟩] w (RetEnd K B w0 ν h w Q) := fun a c sep hQ =>
    (j0 a c _ w).mono fun e w' ⟨e1, e2⟩ => by subst e1; subst e2; exact ⟨_, h, ν, hQ, rfl, hr, Ext.refl _ _ _⟩
  split at hx
  · rename_i sep
    obtain ⟨u, v, rfl, e1, e2⟩ := LRel.two hv
    cases e1; cases e2
    exact none_ _ _ _ hx
  · rename_i b o n cap opn sep
    obtain ⟨u, v, rfl, e1, e2⟩ := LRel.two hv
    obtain rfl : v = .string ⟨⟨sep⟩⟩ := e2
    obtain ⟨l, a, cap', hl, rfl, hle, ha, _⟩ := e1
    obtain ⟨cs0, hcs, hx⟩ := okO_some hx
    obtain ⟨cs, hsub, hx⟩ := okO_some hx
    obtain ⟨t, hj, hx⟩ := okO_some hx
    obtain ⟨hg, hQ⟩ := (guardT_all _ _).1 hx
    simp only [Bool.and_eq_true] at hg
    have g1 := Nat.le_of_ble_eq_true hg.1
    have g2 := Nat.le_of_ble_eq_true hg.2
    obtain ⟨strs, rfl, rfl⟩ := joinL_some hj
    obtain ⟨hin, hsub⟩ := sub_some hsub
    have hlen : strs.length = n := by
      have := congrArg List.length hsub
      simp only [List.length_map, List.length_take, List.length_drop] at this
      omega
    by_cases h0 : cap' = 0
    · have hn0 : n = 0 := by omega
      subst hn0
      have : strs = [] := List.eq_nil_of_length_eq_zero hlen
      subst this
      exact none_ _ _ _ hQ
    · obtain rfl := ha.resolve_left h0
      obtain ⟨ro, hgb⟩ := getCells_some hcs
      have hmap : (strs.map fun s => (⟨⟨s⟩⟩ : ByteArray)).map (·.data.toList) = strs := by
        rw [List.map_map]
        exact (List.map_congr_left fun s _ => rfl).trans (List.map_id strs)
      have hc := j1 l.blk (l.base + o) cap' (strs.map fun s => (⟨⟨s⟩⟩ : ByteArray)) ⟨⟨sep⟩⟩ w (fun j x hx => by
        rw [List.getElem?_map, Option.map_eq_some_iff] at hx
        obtain ⟨s, hs, rfl⟩ := hx
        have hjn : j < n := by rw [← hlen]; exact (List.getElem?_eq_some_iff.1 hs).1
        have hcj : cs0[o + j]? = some (.str s) := by
          have : (strs.map V.str)[j]? = some (.str s) := by rw [List.getElem?_map, hs]; rfl
          rw [hsub, List.getElem?_take, if_pos hjn, List.getElem?_drop] at this
          exact this
        obtain ⟨v, v1, v2⟩ := hr.cells hcs hl (o + j) _ hcj
        rw [Nat.add_assoc, v1]
        exact congrArg some v2) (hr.lt hgb hl) (by rw [List.length_map, hlen]; exact g2) (by rw [List.length_map, hlen]; exact hle) (by rw [hmap]; exact g1)
      rw [List.length_map, hlen, hmap] at hc
      refine hc.mono fun e w' ⟨e1, e2⟩ => ?_
      subst e1
      obtain ⟨k1, k2⟩ := hr.above ⟨e2, fun t => by rw [hB] at t; cases t⟩
      exact ⟨_, h, ν, hQ, rfl, k1, k2⟩
  · exact hx.elim

/-! ### slices.overlaps -/
theorem stringish_run (a : Addr) (t : TypeId × Nat) (hs : w.shape? a.block = some t) : ∃ q, (stringish a).run P w = .ok q w := by
  unfold stringish
  cases hf : w.frozen? a with
  | true => exact ⟨true, by simp [frozen, Sem.run, hf]⟩
  | false => exact ⟨w.frozen? ⟨a.block, t.2, none⟩, by simp [frozen, shape, Sem.run, hf, hs]⟩

theorem mayBeOne_run (a b : Addr) (ta tb : TypeId × Nat) (ha : w.shape? a.block = some ta) (hb : w.shape? b.block = some tb) : ∃ q, (mayBeOne a b).run P w = .ok q w := by
  obtain ⟨qa, h1⟩ := stringish_run (P := P) a ta ha
  obtain ⟨qb, h2⟩ := stringish_run (P := P) b tb hb
  unfold mayBeOne
  exact ⟨(qa && qb) || (qa && (match some ta with | some (_, 0) => true | _ => false)) || (qb && (match some tb with | some (_, 0) => true | _ => false)), by
    simp only [Sem.run_bind, h1, h2, Result.andThen_ok, Sem.run_pure, shape, Sem.run, ha, hb]
    rfl⟩

theorem noView_run (a : Addr) (ta : TypeId × Nat) (ha : w.shape? a.block = some ta) : (noView a).run P w = .ok () w := by
  simp [noView, viewAt, shape, Sem.run, ha]

theorem overlaps_ok {g : FuncId} {tS tR e : TypeId} (he : ExternOf P g (Extern.SlicesOverlaps.overlaps #[tS, tS] #[tR])) (ht : P.underlying tS = some (.slice e)) (size : Nat) (hz : ∀ w, (Go.sizeOf e).run P w = .ok size w) : PrimOne K B w0 P g overlapsP := by
  refine extern_one he fun ν h w ys vs Q hr hv hx => ?_
  unfold overlapsP at hx
  split at hx
  · rename_i a oa la ca pa b ob lb cb pb
    obtain ⟨u, v, rfl, e1, e2⟩ := LRel.two hv
    obtain ⟨l, aa, capa, hl, rfl, hle, haa, _⟩ := e1
    obtain ⟨l2, ab, capb, hl2, rfl, hle2, hab, _⟩ := e2
    split at hx
    · rename_i csa csb ro ga gb
      obtain ⟨ho, hx⟩ := (guardT_all _ _).1 hx
      have ho : oa < csa.length := Nat.lt_of_succ_le (Nat.le_of_ble_eq_true ho)
      have hQ : ∀ bb : Bool, Q (.y (.v (.bool bb)), h) := fun bb => by
        cases bb with
        | false => exact hx 0 (by omega)
        | true => exact hx 1 (by omega)
      suffices hs : ∃ (bb : Bool) (w' : World), (Extern.SlicesOverlaps.overlaps #[tS, tS] #[tR] #[.slice (some aa) la capa, .slice (some ab) lb capb]).run P w = .ok (.bool bb) w' ∧ (w' = w ∨ w' = w.drew) by
        obtain ⟨bb, w', h1, h2⟩ := hs
        refine ⟨_, w', h1, .y (.v (.bool bb)), h, ν, hQ bb, rfl, ?_⟩
        rcases h2 with rfl | rfl
        · exact ⟨hr, Ext.refl _ _ _⟩
        · exact ⟨hr.same rfl ⟨rfl, rfl, rfl, by first | exact Nat.le_refl _ | exact Nat.le_succ _⟩, Ext.same rfl⟩
      change ∃ (bb : Bool) (w' : World), Sem.run P (α := Value) (do
        let some t := (#[tS, tS] : Array TypeId)[0]? | stuck "slices.overlaps: no parameter types"
        let .slice elem ← underlying t | stuck "slices.overlaps: slice type expected"
        let size ← sizeOf elem
        match (some aa : Option Addr), (some ab : Option Addr) with
        | some a, some b =>
          if la = 0 ∨ lb = 0 ∨ size = 0 then pure (Value.bool false)
          else if a.block != b.block && (← frozen a) && (← frozen b) then unsupported .addressObserved
          else do
            if a.block != b.block then do
              noView a; noView b
              if ← mayBeOne a b then return Value.bool ((← choose (.extern "sameAddr.stringBytes" 2)) == 1)
            pure (Value.bool (a.block == b.block && a.off < b.off + lb * size && b.off < a.off + la * size))
        | _, _ => pure (Value.bool false)) w = .ok (.bool bb) w' ∧ (w' = w ∨ w' = w.drew)
      by_cases h0 : la = 0 ∨ lb = 0 ∨ size = 0
      · exact ⟨false, w, by simp [run_underlying ht, hz, h0], .inl rfl⟩
      · obtain rfl := haa.resolve_left (by omega)
        obtain rfl := hab.resolve_left (by omega)
        obtain ⟨cc, tt, fr, q1, q2, q3⟩ := hr.obj a _ l ga hl
        obtain ⟨q4, q5, q6⟩ := q3 rfl
        obtain ⟨cc2, tt2, fr2, p1, _, _⟩ := hr.obj b _ l2 gb hl2
        have hsa : w.shape? l.blk = some (tt, cc.size) := by simp [World.shape?, q1]
        have hsb : w.shape? l2.blk = some (tt2, cc2.size) := by simp [World.shape?, p1]
        have hfa : w.frozen? ⟨l.blk, l.base + oa, none⟩ = false := by
          have := q6 oa (by omega)
          simp only [World.frozen?, q1, Bool.and_eq_false_iff, decide_eq_false_iff_not]
          by_cases hf : fr.1 ≤ l.base + oa
          · exact .inr fun hh => this ⟨hf, hh⟩
          · exact .inl hf
        by_cases hbl : l.blk = l2.blk
        · have hnb : (l.blk != l2.blk) = false := by simpa using hbl
          refine ⟨l.blk == l2.blk && decide (l.base + oa < l2.base + ob + lb * size) && decide (l2.base + ob < l.base + oa + la * size), w, ?_, .inl rfl⟩
          simp [run_underlying ht, hz, h0, hnb]
        · have hnb : (l.blk != l2.blk) = true := by simpa using hbl
          have hnb' : (l.blk == l2.blk) = false := by simpa using hbl
          obtain ⟨q, hq⟩ := mayBeOne_run (P := P) ⟨l.blk, l.base + oa, none⟩ ⟨l2.blk, l2.base + ob, none⟩ _ _ hsa hsb
          have n1 := noView_run (P := P) ⟨l.blk, l.base + oa, none⟩ _ hsa
          have n2 := noView_run (P := P) ⟨l2.blk, l2.base + ob, none⟩ _ hsb
          cases q with
          | false => exact ⟨false, w, by simp [run_underlying ht, hz, h0, hnb, hnb', frozen, Sem.run, hfa, n1, n2, hq], .inl rfl⟩
          | true => exact ⟨_, w.drew, by simp [run_underlying ht, hz, h0, hnb, hnb', frozen, Sem.run, hfa, n1, n2, hq, choose]; rfl, .inr rfl⟩
    · exact hx.elim
  · exact hx.elim
end
end Go.Abs

/- From a closed run to a call in whatever memory; arguments of which nothing is known. -/
namespace Go.Abs
open Go Go.RowKit

theorem okWide_one {P : Program} {w : World} {r : Reach} {base : Nat} {t : TypeId} {v : Value} (h : Cell.okWide P w r base t v) : v.oneCell' = true := by
  cases v with
  | agg cs =>
    exfalso
    unfold Cell.okWide Cell.ok at h
    cases hu : P.underlying t with
    | none => rw [hu] at h; exact h
    | some d => rw [hu] at h; cases d <;> exact h
  | tuple cs =>
    exfalso
    unfold Cell.okWide Cell.ok at h
    cases hu : P.underlying t with
    | none => rw [hu] at h; exact h
    | some d => rw [hu] at h; cases d <;> exact h
  | _ => rfl

theorem bads_R (ν : Ren) : ∀ {l : List Value}, (∀ v ∈ l, v.oneCell' = true) → LRel (VR ν) (List.replicate l.length .bad) l
  | [], _ => trivial
  | v :: l, h => ⟨h v List.mem_cons_self, bads_R ν fun u hu => h u (List.mem_cons_of_mem _ hu)⟩

/-- A struct or an array of which nothing is known. -/
theorem bad_agg (ν : Ren) {P : Program} {w : World} {r : Reach} {base n : Nat} {t : TypeId} {cs : Array Value} (h : Row.okWide P w r base t cs) (hn : cs.size = n) : YR ν (.agg (List.replicate n .bad)) (.agg cs) := by
  refine ⟨cs, rfl, ?_⟩
  have e : n = cs.toList.length := by rw [← hn]; simp
  rw [e]
  refine bads_R ν fun v hv => ?_
  obtain ⟨i, hi⟩ := List.mem_iff_getElem?.1 hv
  obtain ⟨ts, _, _, hall⟩ := h
  obtain ⟨u, _, hu⟩ := hall i v (by rw [← Array.getElem?_toList]; exact hi)
  exact okWide_one hu

theorem bad_one (ν : Ren) {P : Program} {w : World} {r : Reach} {base : Nat} {t : TypeId} {v : Value} (h : Cell.okWide P w r base t v) : YR ν (.v .bad) v := okWide_one h

/-- No text starts a goroutine: so no call does. -/
theorem goes_none {P : Program} {c : OpenClaim} (h : P.funcs.any Func.goes = false) (hs : c.start = .entering) : false = c.goesBy P := by
  have h1 : ∀ g : Nat, (P.funcs[g]?).any Func.goes = false := fun g => by
    cases hg : P.funcs[g]? with
    | none => rfl
    | some fn =>
      obtain ⟨hlt, he⟩ := Array.getElem?_eq_some_iff.1 hg
      cases hf : fn.goes with
      | false => exact hf
      | true =>
        have : P.funcs.any Func.goes = true := Array.any_eq_true.2 ⟨g, hlt, by rw [he]; exact hf⟩
        rw [h] at this; cases this
  have h2 : ∀ f, P.goes f = false := fun f => by
    unfold Program.goes
    have e : ((P.closure f).any fun g => (P.funcs[g]?).any Func.goes) = false := by
      rw [show (fun g => (P.funcs[g]?).any Func.goes) = fun _ => false from funext h1]
      exact List.any_eq_false.2 fun _ _ => by simp
    rw [e, h, Bool.and_false]
    rfl
  unfold OpenClaim.goesBy Program.goesAt Program.goesFrom
  rw [hs]
  cases P.funcNamed c.func with
  | none => rfl
  | some f => simp [h2 f]

theorem and_both {a b : Bool} (h : a = true) (k : b = true) : (a && b) = true := by rw [h, k]; rfl

/-- A closed run is a call's, in whatever memory. -/
theorem run_walk {P : Program} {c : Ctx} {r : Rec} {K : CodeP} (hrec : ∀ n w0, RecSound K ⟨n, false⟩ w0 P c r) {g : FuncId} {ys : List Y} {x : X} (hcl : closedRet (r.call g ys emptyH) x = true) (hp : c.prim g = none) {vs : Array Value} {w : World}
    (hv : LRel (YR (fun _ => none)) ys vs.toList) : Calls P g vs w fun e w' => (∃ v ν, e = .returned v ∧ XR ν x v) ∧ Below w.heap.size w w' := by
  have hrun : (r.call g ys emptyH).all (fun p => p.1 = x) := by
    unfold closedRet at hcl
    split at hcl
    · rename_i p hp
      rw [hp]
      show p.1 = x
      exact of_decide_eq_true hcl
    · cases hcl
  have := ((hrec w.heap.size w).plain 0 (fun _ => none) emptyH w g ys vs _ (HR.empty K false w) hv hrun hp).2
  refine (callsIn_wide.1 this).mono fun e w' hR => ?_
  cases e with
  | returned v =>
    obtain ⟨x', h', ν', e1, hxr, hr', _⟩ := hR
    have e1 : x' = x := e1
    subst e1
    exact ⟨⟨v, ν', rfl, hxr⟩, hr'.below.bel⟩
  | panicked ch => exact hR.elim
  | outgrown => exact hR.elim
end Go.Abs

/- A closed call whose end is a pointer: taken by a pointer of which nothing is known but that it is none that is nil. -/
namespace Go.Abs
open Go Go.RowKit

def blindP (ys : List Y) (h : H) : Res :=
  match ys with
  | [] => .ret (.y (.v (.ptr h.next 0)), { h with next := h.next + 1 })
  | _ => .fail

def closedPtr (t : Res) : Bool :=
  match t with
  | .ret (.y (.v (.ptr _ _)), _) => true
  | _ => false

section
variable {K : CodeP} {B : Base} {w0 w : World} {ν : Ren} {h : H} {P : Program} {c : Ctx} {r : Rec}

/-- The next name stands for a place of which nothing is told. -/
theorem HR.alias (hr : HR K B w0 ν h w) (l : Loc) : HR K B w0 (ren ν h.next l) { h with next := h.next + 1 } w := by
  have hle := ren_le (l := l) hr.free
  have hne : ∀ b o, ({ h with next := h.next + 1 } : H).get b = some o → b ≠ h.next := fun b o hb => by have := hr.wf b o hb; omega
  refine ⟨fun b l' hl => ?_, fun b o l' hb hl => ?_, fun b b' o o' l1 l2 hn hb hb' hl hl' hw => ?_, fun b o l' hb hl hw => ?_, hr.below, hr.size, fun b o hb => Nat.lt_succ_of_lt (hr.wf b o hb)⟩
  · unfold ren at hl
    show b < h.next + 1
    split at hl
    · omega
    · have := hr.dom b l' hl; omega
  · rw [ren_ne (hne b o hb)] at hl
    exact (hr.obj b o l' hb hl).mono hle rfl
  · rw [ren_ne (hne b o hb)] at hl
    rw [ren_ne (hne b' o' hb')] at hl'
    exact hr.sep b b' o o' l1 l2 hn hb hb' hl hl' hw
  · rw [ren_ne (hne b o hb)] at hl
    exact hr.new b o l' hb hl hw

theorem blind_ok {tk : Bool} {g : FuncId} (hrec : ∀ n w0, RecSound K ⟨n, tk⟩ w0 P c r) (ht : closedPtr (r.call g [] emptyH) = true) (n : Nat) (w0 : World) : PrimOne K ⟨n, tk⟩ w0 P g blindP := by
  intro m ν h w ys vs Q hr hv hx
  cases ys with
  | cons y ys => exact hx.elim
  | nil =>
    have hx : Q (.y (.v (.ptr h.next 0)), { h with next := h.next + 1 }) := hx
    have hrun : (r.call g [] emptyH).all (fun p => ∃ b o, p.1 = .y (.v (.ptr b o))) := by
      unfold closedPtr at ht
      split at ht
      · rename_i b o g' hp
        rw [hp]
        exact ⟨b, o, rfl⟩
      · cases ht
    have fin : ∀ e w', RetEnd K ⟨w.heap.size, tk⟩ w (fun _ => none) emptyH w (fun p => ∃ b o, p.1 = .y (.v (.ptr b o))) e w' → RetEnd K ⟨n, tk⟩ w0 ν h w Q e w' := by
      intro e w' hR
      cases e with
      | returned v =>
        obtain ⟨x', h', ν', ⟨b, o, e1⟩, hxr, hr', he'⟩ := hR
        have e1 : x' = .y (.v (.ptr b o)) := e1
        subst e1
        obtain ⟨l, hl, e2⟩ := hxr
        obtain ⟨k1, k2⟩ := hr.above hr'.below
        have hfr : w.heap.size ≤ l.blk := by
          rcases he'.fresh b l rfl hl with h1 | ⟨b1, o1, l1, h1, _⟩
          · exact h1
          · cases h1
        refine ⟨.y (.v (.ptr h.next 0)), _, ren ν h.next ⟨l.blk, l.base + o, 0⟩, hx, ⟨_, ren_self _ _ _, e2⟩, k1.alias _, ?_⟩
        refine ⟨ren_le hr.free, fun x hx hlt => ?_, Nat.le_succ _, fun _ _ _ => .inl rfl, k2.frame, k2.size, fun x y h1 h2 => ?_, fun x o' _ hx => ⟨o', hx, rfl⟩⟩
        · rw [ren_ne (by omega)]; exact hx
        · unfold ren at h2
          split at h2
          · cases h2
            exact .inl hfr
          · rw [h1] at h2; cases h2
      | panicked ch => exact hR.elim
      | outgrown => exact hR.elim
    rcases (hrec w.heap.size w).one g m (fun _ => none) emptyH w [] vs _ (HR.empty K tk w) (LRel.all plainY_R rfl hv) hrun with ⟨h1, h2⟩ | ⟨v, w', h1, h2⟩
    · exact .inl ⟨h1, h2.mono fin⟩
    · exact .inr ⟨v, w', h1, fin _ _ h2⟩
end
end Go.Abs

/- Symbolic runs: laws by which `simp' carries code out. What follows is held in a form that `simp' does not look into (its type hangs on it). -/
namespace Go.Abs
open Go

inductive Tok {α : Sort _} (a : α) : Type where
  | mk

/-- All ends of a run are good (d: it has just one, at once). -/
def Al (d : Bool) {α : Type} (Q : α → Prop) (_ : Tok Q) (t : T α) : Prop := bif d then ∃ p, t.opt = some p ∧ Q p else T.all Q t
abbrev A (d : Bool) {α : Type} (Q : α → Prop) (t : T α) : Prop := Al d Q .mk t
theorem A_all {α : Type} {Q : α → Prop} {t : T α} : A false Q t ↔ t.all Q := Iff.rfl
theorem A_opt {α : Type} {Q : α → Prop} {t : T α} : A true Q t ↔ ∃ p, t.opt = some p ∧ Q p := Iff.rfl

/-- What follows, if there is a value. -/
def Vl {α : Type} (K : α → Prop) (_ : Tok K) (x : Option α) : Prop :=
  match x with
  | some v => K v
  | none => False
theorem Vl_some {α : Type} (K : α → Prop) (k : Tok K) (v : α) : Vl K k (some v) = K v := rfl
theorem Vl_none {α : Type} (K : α → Prop) (k : Tok K) : Vl K k none = False := rfl
/-- One of two ways, by a truth. -/
def Cd (a b : Prop) (_ : Tok a) (_ : Tok b) (x : X) : Prop :=
  match x with
  | .y (.v (.bool true)) => a
  | .y (.v (.bool false)) => b
  | _ => False
theorem Cd_true (a b : Prop) (p : Tok a) (q : Tok b) : Cd a b p q (.y (.v (.bool true))) = a := rfl
theorem Cd_false (a b : Prop) (p : Tok a) (q : Tok b) : Cd a b p q (.y (.v (.bool false))) = b := rfl
theorem Cd_bool (a b : Prop) (p : Tok a) (q : Tok b) (x : Bool) : Cd a b p q (.y (.v (.bool x))) = if x = true then a else b := by cases x <;> rfl
def Gd (a b : Prop) (_ : Tok a) (_ : Tok b) (x : Option Bool) : Prop :=
  match x with
  | some true => a
  | some false => b
  | none => False
theorem Gd_some (a b : Prop) (p : Tok a) (q : Tok b) (x : Bool) : Gd a b p q (some x) = if x = true then a else b := by cases x <;> rfl
theorem Gd_true (a b : Prop) (p : Tok a) (q : Tok b) : Gd a b p q (some true) = a := rfl
theorem Gd_false (a b : Prop) (p : Tok a) (q : Tok b) : Gd a b p q (some false) = b := rfl

/-! ### Outcomes -/
section
variable {d : Bool} {α β : Type} {Q : β → Prop} (k : Tok Q)
theorem A_ret (a : β) : Al d Q k (.ret a) = Q a := by
  cases d
  · rfl
  · exact propext ⟨fun ⟨p, h, hq⟩ => by cases h; exact hq, fun h => ⟨a, rfl, h⟩⟩
theorem A_fail : Al d Q k .fail = False := by
  cases d
  · rfl
  · exact propext ⟨fun ⟨p, h, hq⟩ => (by cases h), False.elim⟩
theorem A_bind (t : T α) (f : α → T β) : Al d Q k (t.bind f) = A d (fun a => A d Q (f a)) t := by
  cases d
  · exact propext (T.all_bind t f Q)
  · apply propext
    cases t with
    | ret a => exact ⟨fun h => ⟨a, rfl, h⟩, fun ⟨p, h, hq⟩ => by cases h; exact hq⟩
    | fail => exact ⟨fun ⟨p, h, hq⟩ => (by cases h), fun ⟨p, h, hq⟩ => (by cases h)⟩
    | ask n g => exact ⟨fun ⟨p, h, hq⟩ => (by cases h), fun ⟨p, h, hq⟩ => (by cases h)⟩
theorem A_mono {R : β → Prop} (hm : ∀ a, R a → Q a) {t : T β} (h : A d R t) : A d Q t := by
  cases d
  · exact T.all_mono hm t h
  · obtain ⟨p, h1, h2⟩ := h
    exact ⟨p, h1, hm p h2⟩
theorem A_okO (x : Option α) (f : α → T β) : Al d Q k (okO x f) = Vl (fun a => A d Q (f a)) .mk x := by
  cases x
  · exact A_fail k
  · rfl
theorem A_guard (b : Bool) (t : T β) : Al d Q k (guardT b t) = (b = true ∧ A d Q t) := by
  cases b
  · show Al d Q k .fail = _
    rw [A_fail]; simp
  · show Al d Q k t = _
    simp
def kvO (x : X) : Option V :=
  match x with
  | .y (.v v) => some v
  | _ => none
theorem kvO_v (v : V) : kvO (.y (.v v)) = some v := rfl
theorem A_kv (x : X) (f : V → T β) : Al d Q k (x.kv f) = Vl (fun v => A d Q (f v)) .mk (kvO x) := by
  cases x with
  | tup l => exact A_fail k
  | y y => cases y with
    | v v => rfl
    | agg l => exact A_fail k
def kO (x : X) : Option Y :=
  match x with
  | .y y => some y
  | _ => none
theorem kO_y (y : Y) : kO (.y y) = some y := rfl
theorem A_k (x : X) (f : Y → T β) : Al d Q k (x.k f) = Vl (fun v => A d Q (f v)) .mk (kO x) := by
  cases x with
  | y y => rfl
  | tup l => exact A_fail k
def knatO (v : V) : Option Nat :=
  match v with
  | .int _ (.ofNat n) => some n
  | _ => none
theorem knatO_nat (kd : IntKind) (n : Nat) : knatO (.int kd (n : Int)) = some n := rfl
theorem knatO_lit (kd : IntKind) (n : Nat) : knatO (.int kd (OfNat.ofNat n)) = some n := rfl
theorem knatO_0 (kd : IntKind) : knatO (.int kd 0) = some 0 := rfl
theorem A_knat (v : V) (f : Nat → T β) : Al d Q k (v.knat f) = Vl (fun n => A d Q (f n)) .mk (knatO v) := by
  cases v with
  | int kd n => cases n with
    | ofNat n => rfl
    | negSucc n => exact A_fail k
  | _ => exact A_fail k
end

/-! ### Code -/
def seqQ (d : Bool) (b : Env → H → CRes) (Q : Ex × Env × H → Prop) (p : Ex × Env × H) : Prop :=
  match p.1 with
  | .normal => A d Q (b p.2.1 p.2.2)
  | _ => Q p
def blockQ (id : Nat) (Q : Ex × Env × H → Prop) (p : Ex × Env × H) : Prop :=
  match p.1 with
  | .exit id' => if id' = id then Q (.normal, p.2) else Q p
  | _ => Q p
def loopQ (I : Nat → Env → H → Prop) (n : Nat) (Q : Ex × Env × H → Prop) (p : Ex × Env × H) : Prop :=
  match p.1 with
  | .normal => ∃ m, m < n ∧ I m p.2.1 p.2.2
  | _ => Q p

section
variable {d : Bool} {c : Ctx} {r : Rec} {fuel : Nat} {fn : FuncId} {plans : Tr Plan} {rd : Option Nat} {go : Code → Code → Env → H → CRes} {Q : Ex × Env × H → Prop} (k : Tok Q) {env : Env} {h : H} {b : Env → H → CRes}

theorem seqQ_normal : seqQ d b Q (.normal, env, h) = A d Q (b env h) := rfl
theorem seqQ_exit (i : Nat) : seqQ d b Q (.exit i, env, h) = Q (.exit i, env, h) := rfl
theorem seqQ_goto (i : Nat) : seqQ d b Q (.goto i, env, h) = Q (.goto i, env, h) := rfl
theorem seqQ_ret : seqQ d b Q (.ret, env, h) = Q (.ret, env, h) := rfl
theorem blockQ_normal (id : Nat) : blockQ id Q (.normal, env, h) = Q (.normal, env, h) := rfl
theorem blockQ_exit (id i : Nat) : blockQ id Q (.exit i, env, h) = if i = id then Q (.normal, env, h) else Q (.exit i, env, h) := rfl
theorem blockQ_exit_eq (id : Nat) : blockQ id Q (.exit id, env, h) = Q (.normal, env, h) := if_pos rfl
theorem blockQ_exit_ne (id i : Nat) (hi : i ≠ id) : blockQ id Q (.exit i, env, h) = Q (.exit i, env, h) := if_neg hi
theorem blockQ_goto (id i : Nat) : blockQ id Q (.goto i, env, h) = Q (.goto i, env, h) := rfl
theorem blockQ_ret (id : Nat) : blockQ id Q (.ret, env, h) = Q (.ret, env, h) := rfl
theorem loopQ_normal (I : Nat → Env → H → Prop) (n : Nat) : loopQ I n Q (.normal, env, h) = ∃ m, m < n ∧ I m env h := rfl
theorem loopQ_exit (I : Nat → Env → H → Prop) (n i : Nat) : loopQ I n Q (.exit i, env, h) = Q (.exit i, env, h) := rfl
theorem loopQ_goto (I : Nat → Env → H → Prop) (n i : Nat) : loopQ I n Q (.goto i, env, h) = Q (.goto i, env, h) := rfl
theorem loopQ_ret (I : Nat → Env → H → Prop) (n : Nat) : loopQ I n Q (.ret, env, h) = Q (.ret, env, h) := rfl

theorem all_skip : Al d Q k (runC c r fuel fn plans rd go .skip env h) = Q (.normal, env, h) := A_ret k _
theorem all_seq (a b : Code) : Al d Q k (runC c r fuel fn plans rd go (.seq a b) env h) = A d (seqQ d (runC c r fuel fn plans rd go b) Q) (runC c r fuel fn plans rd go a env h) := by
  have e : runC c r fuel fn plans rd go (.seq a b) env h = (runC c r fuel fn plans rd go a env h).bind fun p =>
      match p.1 with
      | .normal => runC c r fuel fn plans rd go b p.2.1 p.2.2
      | _ => .ret p := rfl
  rw [e, A_bind]
  have e2 : (fun p : Ex × Env × H => A d Q (match p.1 with
      | .normal => runC c r fuel fn plans rd go b p.2.1 p.2.2
      | _ => .ret p)) = seqQ d (runC c r fuel fn plans rd go b) Q := by
    funext p
    obtain ⟨ex, env', h'⟩ := p
    cases ex with
    | normal => rfl
    | _ => exact A_ret _ _
  exact congrArg (fun q => A d q (runC c r fuel fn plans rd go a env h)) e2
theorem all_block (id : Nat) (a : Code) : Al d Q k (runC c r fuel fn plans rd go (.block id a) env h) = A d (blockQ id Q) (runC c r fuel fn plans rd go a env h) := by
  have e : runC c r fuel fn plans rd go (.block id a) env h = (runC c r fuel fn plans rd go a env h).bind fun p =>
      match p.1 with
      | .exit id' => bif Nat.beq id' id then .ret (.normal, p.2) else .ret p
      | _ => .ret p := rfl
  rw [e, A_bind]
  have e2 : (fun p : Ex × Env × H => A d Q (match p.1 with
      | .exit id' => bif Nat.beq id' id then .ret (.normal, p.2) else .ret p
      | _ => .ret p)) = blockQ id Q := by
    funext p
    obtain ⟨ex, env', h'⟩ := p
    cases ex with
    | exit i =>
      show A d Q (bif Nat.beq i id then (.ret (.normal, env', h') : CRes) else .ret (.exit i, env', h')) = if i = id then Q (.normal, env', h') else Q (.exit i, env', h')
      rw [beq_dec]
      by_cases hi : i = id <;> simp [hi, A_ret]
    | _ => exact A_ret _ _
  exact congrArg (fun q => A d q (runC c r fuel fn plans rd go a env h)) e2
theorem all_cond (x : Operand) (a b : Code) : Al d Q k (runC c r fuel fn plans rd go (.cond x a b) env h) = Cd (A d Q (runC c r fuel fn plans rd go a env h)) (A d Q (runC c r fuel fn plans rd go b env h)) .mk .mk (env.ev x) := by
  have e : runC c r fuel fn plans rd go (.cond x a b) env h = match env.ev x with
      | .y (.v (.bool true)) => runC c r fuel fn plans rd go a env h
      | .y (.v (.bool false)) => runC c r fuel fn plans rd go b env h
      | _ => .fail := rfl
  rw [e]
  unfold Cd
  generalize env.ev x = v
  cases v with
  | tup l => exact A_fail k
  | y y =>
    cases y with
    | agg l => exact A_fail k
    | v v =>
      cases v with
      | bool p => cases p <;> rfl
      | _ => exact A_fail k
theorem all_exit (i : Nat) : Al d Q k (runC c r fuel fn plans rd go (.exit i) env h) = Q (.exit i, env, h) := A_ret k _
theorem all_codeRet : Al d Q k (runC c r fuel fn plans rd go .ret env h) = Q (.ret, env, h) := A_ret k _
theorem all_region (id : Nat) (ops : Array Oper) : Al d Q k (runC c r fuel fn plans rd go (.region id ops false) env h) = A d (fun p => Q (.normal, p.1, p.2)) (runOps c r ops.toList ops.toList env h) := by
  have e : runC c r fuel fn plans rd go (.region id ops false) env h = (runOps c r ops.toList ops.toList env h).bind fun p => .ret (.normal, p.1, p.2) := rfl
  rw [e, A_bind]
  exact congrArg (fun q => A d q (runOps c r ops.toList ops.toList env h)) (funext fun p => A_ret _ _)
theorem all_loopCode (a : Code) : Al d Q k (runC c r fuel fn plans rd go (.loop a) env h) = A d Q (loopC (runC c r fuel fn plans rd go a) fuel env h) := rfl

/-- A loop, by what holds ahead of each round, and a measure. -/
theorem all_loop {body : Env → H → CRes} (I : Nat → Env → H → Prop) (step : ∀ n env h, I n env h → A d (loopQ I n Q) (body env h)) :
    ∀ (n fuel : Nat) (env : Env) (h : H), I n env h → n < fuel → A d Q (loopC body fuel env h) := by
  intro n
  induction n using Nat.strongRecOn with
  | ind n ih =>
    intro fuel env h hI hf
    obtain ⟨fuel, rfl⟩ : ∃ m, fuel = m + 1 := ⟨fuel - 1, by omega⟩
    show A d Q ((body env h).bind fun p => match p.1 with | .normal => loopC body fuel p.2.1 p.2.2 | _ => .ret p)
    rw [A, A_bind]
    refine A_mono (fun p hp => ?_) (step n env h hI)
    obtain ⟨ex, env', h'⟩ := p
    cases ex with
    | normal =>
      obtain ⟨m, hm, hI'⟩ : ∃ m, m < n ∧ I m env' h' := hp
      exact ih m hm fuel env' h' hI' (by omega)
    | _ => exact (A_ret (d := d) .mk _).mpr hp
end
end Go.Abs

/- Symbolic runs: operations. -/
namespace Go.Abs
open Go

def wantY (x : X) (want : Bool) : Option Bool :=
  match x with
  | .y (.v (.bool b)) => some (b == want)
  | .y (.v .bad) => none
  | _ => some false
theorem wantY_bool (b want : Bool) : wantY (.y (.v (.bool b))) want = some (b == want) := rfl
noncomputable def wantX (d : Option Oper) (env : Env) (want : Bool) : Option Bool :=
  match d with
  | some oj => match oj.dst with
    | some d => wantY (env.get d) want
    | none => some false
  | none => some false
theorem wantX_some (d : Nat) (op : Op) (ty : TypeId) (pos : String) (after : Array Edge) (g : Option (Nat × Bool)) (env : Env) (want : Bool) : wantX (some ⟨some d, op, ty, pos, after, g⟩) env want = wantY (env.get d) want := rfl
section
variable {d : Bool} {c : Ctx} {r : Rec} {env : Env} {h : H} {ops l : List Oper} {K : Env × H → Prop}

theorem wantedV_eq (dst : Option Tmp) (op : Op) (ty : TypeId) (pos : String) (after : Array Edge) (j : Nat) (want : Bool) : wantedV ops env ⟨dst, op, ty, pos, after, some (j, want)⟩ = wantX ops[j]? env want := by
  unfold wantedV wantX
  simp only
  cases ops[j]? with
  | none => rfl
  | some oj =>
    simp only
    cases oj.dst with
    | none => rfl
    | some d =>
      simp only
      unfold wantY
      generalize env.get d = x
      cases x with
      | tup l => rfl
      | y y =>
        cases y with
        | agg l => rfl
        | v v => cases v with
          | bool b => cases b <;> cases want <;> rfl
          | _ => rfl

variable (k : Tok K)
theorem ops_nil : Al d K k (runOps c r ops [] env h) = K (env, h) := A_ret k _
theorem ops_cons (dst : Option Tmp) (op : Op) (ty : TypeId) (pos : String) (after : Array Edge) :
    Al d K k (runOps c r ops (⟨dst, op, ty, pos, after, none⟩ :: l) env h) = A d (fun p => A d K (runOps c r ops l (env.putD dst p.1) p.2)) (runOp c r env h op) := by
  rw [runOps_cons]
  show Al d K k ((runOp c r env h op).bind fun p => runOps c r ops l (env.putD dst p.1) p.2) = _
  rw [A_bind]
theorem ops_guard (dst : Option Tmp) (op : Op) (ty : TypeId) (pos : String) (after : Array Edge) (j : Nat) (want : Bool) :
    Al d K k (runOps c r ops (⟨dst, op, ty, pos, after, some (j, want)⟩ :: l) env h) =
      Gd (A d (fun p => A d K (runOps c r ops l (env.putD dst p.1) p.2)) (runOp c r env h op)) (A d K (runOps c r ops l (env.putD dst undefX) h)) .mk .mk (wantX ops[j]? env want) := by
  rw [runOps_cons, wantedV_eq]
  cases hb : wantX ops[j]? env want with
  | none => exact A_fail k
  | some b =>
    cases b with
    | true =>
      show Al d K k ((runOp c r env h op).bind fun p => runOps c r ops l (env.putD dst p.1) p.2) = _
      rw [A_bind]
      rfl
    | false => rfl

theorem putD_some (i : Nat) (x : X) : env.putD (some i) x = env.put i x := rfl
theorem putD_none (x : X) : env.putD none x = env := rfl
theorem ev_tmp (i : Nat) : env.ev (.tmp i) = env.get i := rfl
theorem ev_func (f : FuncId) : env.ev (.func f) = .y (.v (.func f [] [])) := rfl
theorem get_put_eq (i : Nat) (x : X) (hi : i < env.n) : (env.put i x).get i = x := by rw [Env.get_put _ _ _ _ hi, if_pos rfl]
theorem get_put_ne (i j : Nat) (x : X) (hij : i ≠ j) : (env.put i x).get j = env.get j := by
  by_cases hi : i < env.n
  · rw [Env.get_put _ _ _ _ hi, if_neg hij]
  · rw [Env.put_out _ _ _ hi]
theorem ev_bool (b : Bool) : env.ev (.const (.bool b)) = .y (.v (.bool b)) := rfl
theorem ev_int (k : IntKind) (n : Int) : env.ev (.const (.int k n)) = .y (.v (.int k n)) := rfl
theorem ev_str (s : ByteArray) : env.ev (.const (.string s)) = .y (.v (.str s.data.toList)) := rfl
theorem ev_nils : env.ev (.const (.slice none 0 0)) = .y (.v .nils) := rfl
theorem ev_nilp : env.ev (.const (.pointer none)) = .y (.v .nilp) := rfl
theorem ev_nilm : env.ev (.const (.map none)) = .y (.v .nilm) := rfl
theorem ev_nilf : env.ev (.const .nilFunc) = .y (.v .nilf) := rfl

end

/-! ### What operations give, on values -/
section
variable (c : Ctx) (t : Nat)
theorem bin_int (op : BinOp) (k : IntKind) (a b : Int) (hs : isShift op = false) : binOp c op t (.v (.int k a)) (.v (.int k b)) = intOp op k a b := by
  show (bif isShift op then shiftOp op k a b else bif IntKind.beqV k k then intOp op k a b else none) = _
  rw [hs]; simp [IntKind.beqV]
theorem bin_lss (k : IntKind) (a b : Int) : binOp c .lss t (.v (.int k a)) (.v (.int k b)) = some (.bool (decide (a < b))) := by rw [bin_int _ _ _ _ _ _ rfl]; simp [intOp, intLt_eq]
theorem bin_leq (k : IntKind) (a b : Int) : binOp c .leq t (.v (.int k a)) (.v (.int k b)) = some (.bool (decide (a ≤ b))) := by
  rw [bin_int _ _ _ _ _ _ rfl]; simp only [intOp, intLt_eq]
  rw [← decide_not]; congr 2; simp
theorem bin_gtr (k : IntKind) (a b : Int) : binOp c .gtr t (.v (.int k a)) (.v (.int k b)) = some (.bool (decide (b < a))) := by rw [bin_int _ _ _ _ _ _ rfl]; simp [intOp, intLt_eq]
theorem bin_geq (k : IntKind) (a b : Int) : binOp c .geq t (.v (.int k a)) (.v (.int k b)) = some (.bool (decide (b ≤ a))) := by
  rw [bin_int _ _ _ _ _ _ rfl]; simp only [intOp, intLt_eq]
  rw [← decide_not]; congr 2; simp
theorem bin_eql (k : IntKind) (a b : Int) : binOp c .eql t (.v (.int k a)) (.v (.int k b)) = some (.bool (decide (a = b))) := by
  rw [bin_int _ _ _ _ _ _ rfl]; simp only [intOp, intEq_eq]
  congr 2
theorem bin_neq (k : IntKind) (a b : Int) : binOp c .neq t (.v (.int k a)) (.v (.int k b)) = some (.bool (decide (a ≠ b))) := by
  rw [bin_int _ _ _ _ _ _ rfl]; simp only [intOp, intEq_eq]
  congr 2; by_cases hab : a = b <;> simp [hab]
theorem bin_add (k : IntKind) (a b : Int) : binOp c .add t (.v (.int k a)) (.v (.int k b)) = some (.int k (k.wrap (a + b))) := by rw [bin_int _ _ _ _ _ _ rfl]; simp only [intOp, wrapV_eq]
theorem bin_sub (k : IntKind) (a b : Int) : binOp c .sub t (.v (.int k a)) (.v (.int k b)) = some (.int k (k.wrap (a - b))) := by rw [bin_int _ _ _ _ _ _ rfl]; simp only [intOp, wrapV_eq]
theorem bin_mul (k : IntKind) (a b : Int) : binOp c .mul t (.v (.int k a)) (.v (.int k b)) = some (.int k (k.wrap (a * b))) := by rw [bin_int _ _ _ _ _ _ rfl]; simp only [intOp, wrapV_eq]
theorem bin_str_add (a b : List UInt8) (hl : a.length + b.length ≤ 9223372036854775807) : binOp c .add t (.v (.str a)) (.v (.str b)) = some (.str (a ++ b)) := by
  show strOp .add a b = _
  simp only [strOp, Nat.ble_eq_true_of_le hl, cond_true]
theorem bin_str_eql (a b : List UInt8) : binOp c .eql t (.v (.str a)) (.v (.str b)) = some (.bool (decide (a = b))) := by
  show strOp .eql a b = _
  simp only [strOp, bytesEq_eq]
  congr 2
  by_cases hab : a = b <;> simp [hab]
theorem bin_str_neq (a b : List UInt8) : binOp c .neq t (.v (.str a)) (.v (.str b)) = some (.bool (decide (a ≠ b))) := by
  show strOp .neq a b = _
  simp only [strOp, bytesEq_eq]
  congr 2; by_cases hab : a = b <;> simp [hab]
end

theorem wrap_in {n : Int} (h1 : -9223372036854775808 ≤ n) (h2 : n < 9223372036854775808) : IntKind.wrap .i64 n = n := by rw [IntKind.wrap_i64]; omega

/-! ### The set of laws -/
attribute [go_sem ↓] all_seq all_block all_region all_cond all_loopCode all_skip all_exit all_codeRet ops_cons ops_nil ops_guard A_ret A_bind A_okO A_guard A_kv A_k A_knat
  seqQ_normal seqQ_exit seqQ_ret seqQ_goto blockQ_normal blockQ_exit_eq blockQ_ret blockQ_goto loopQ_normal loopQ_exit loopQ_ret loopQ_goto
attribute [go_sem] A_ret A_fail A_bind A_okO A_guard A_kv A_k A_knat blockQ_exit_ne Vl_some Cd_true Cd_false Gd_true Gd_false kvO_v kO_y knatO_nat knatO_0 putD_some putD_none ev_tmp ev_func ev_str ev_int ev_bool ev_nils ev_nilp ev_nilm ev_nilf get_put_eq get_put_ne Env.n_put Env.marks_put
  bin_lss bin_leq bin_gtr bin_geq bin_eql bin_neq bin_add bin_sub bin_mul bin_str_add bin_str_eql bin_str_neq wantX_some wantY_bool
attribute [go_sem] runOp kindOf calmOp laysOp readOp doesOp rV rY
end Go.Abs

/- Symbolic runs: calls, memory, regions of open order. -/
namespace Go.Abs
open Go

/-! ### Calls -/
theorem mkEnv_n (n : Nat) (ys : List Y) : (mkEnv n ys).n = ys.length + (n - ys.length) := rfl
theorem mkEnv_marks (n : Nat) (ys : List Y) : (mkEnv n ys).marks = [] := rfl
def argX (y : Option Y) : X :=
  match y with
  | some y => .y y
  | none => undefX
theorem argX_some (y : Y) : argX (some y) = .y y := rfl
theorem mkEnv_get (n : Nat) (ys : List Y) (i : Nat) : (mkEnv n ys).get i = argX ys[i]? := by
  show ((mkEnv.go ys 0 .e).get i).getD undefX = _
  rw [mkEnv_go_get]
  by_cases h : 0 ≤ i ∧ i < 0 + ys.length
  · rw [if_pos h, Nat.sub_zero, List.getElem?_eq_getElem (by omega)]
    rfl
  · rw [if_neg h, List.getElem?_eq_none (by omega)]
    rfl

theorem call_eq (c : Ctx) (fuel n : Nat) (g : FuncId) (ys : List Y) (h : H) : (recN c fuel (n + 1)).call g ys h =
    match c.prim g with
    | some p => p ys h
    | none => okO (c.fi.get g) fun fi => bif fi.join then joinRes (callTree c fuel (recN c fuel n) g fi ys h) else callTree c fuel (recN c fuel n) g fi ys h := rfl

/-- What stands behind a body's end. -/
noncomputable def endX (c : Ctx) (results : List ResultVar) (p : Ex × Env × H) : Res :=
  match p.1 with
  | .exit _ => .fail
  | .goto _ => .fail
  | _ =>
    okO (resultsOf c p.2.1 p.2.2 results) fun ys =>
    okO (shutMarks p.2.2 p.2.1.marks) fun h' => .ret (packR ys, h')
theorem tree_eq (c : Ctx) (fuel : Nat) (r : Rec) (f : FuncId) (fi : FI) (ys : List Y) (h : H) : callTree c fuel r f fi ys h = (body c r fuel f fi.plans none fi.body (mkEnv fi.ntmps ys) h).bind (endX c fi.results) := rfl
section
variable (c : Ctx) (rs : List ResultVar) (env : Env) (h : H)
theorem endX_ret : endX c rs (.ret, env, h) = okO (resultsOf c env h rs) fun ys => okO (shutMarks h env.marks) fun h' => .ret (packR ys, h') := rfl
theorem endX_normal : endX c rs (.normal, env, h) = okO (resultsOf c env h rs) fun ys => okO (shutMarks h env.marks) fun h' => .ret (packR ys, h') := rfl
theorem resultsOf_nil : resultsOf c env h [] = some [] := rfl
theorem resultsOf_cons (r : ResultVar) : resultsOf c env h (r :: rs) = (resultOf c env h r).bind fun y => (resultsOf c env h rs).map (y :: ·) := rfl
theorem resultOf_tmp (t : Tmp) : resultOf c env h (.tmp t) = kO (env.get t) := by
  show (match env.get t with | .y y => some y | .tup _ => none) = kO (env.get t)
  generalize env.get t = x
  cases x <;> rfl
theorem resultOf_cell (a : Tmp) (t : TypeId) : resultOf c env h (.cell a t) = match env.get a with | .y (.v (.ptr b o)) => loadY c h t b o | _ => none := rfl
theorem shut_nil : shutMarks h [] = some h := rfl
theorem packR_one (y : Y) : packR [y] = .y y := rfl
theorem packR_two (a b : Y) : packR [a, b] = .tup [a, b] := rfl
theorem packR_nil : packR [] = .tup [] := rfl
end

theorem body_eq (c : Ctx) (r : Rec) (fuel : Nat) (fn : FuncId) (plans : Tr Plan) (rd : Option Nat) (code : Code) (env : Env) (h : H) : body c r fuel fn plans rd code env h = runC c r fuel fn plans rd (scopeN c r fuel fn plans rd fuel) code env h := rfl

/-! ### Memory -/
section
variable (h : H) (b k : Nat) (o o' : O)
theorem get_new_eq : (h.new o).get h.next = some o := by rw [H.get_new, if_pos rfl]
theorem getPut_eq : (h.put b o).get b = some o := by rw [H.get_put, if_pos rfl]
theorem get_empty : emptyH.get b = none := rfl
theorem next_empty : emptyH.next = 0 := rfl
theorem getCells_eq : getCells h b = match h.get b with | some (.cells cs _) => some cs | _ => none := rfl
end

attribute [go_sem] call_eq tree_eq body_eq endX_ret endX_normal resultsOf_nil resultsOf_cons resultOf_tmp resultOf_cell shut_nil packR_one packR_two packR_nil mkEnv_n mkEnv_marks mkEnv_get argX_some H.get_new H.get_put H.get_kill H.next_new H.next_put H.next_kill get_empty next_empty getCells_eq
section
variable (c : Ctx) (t : Nat)
theorem bin_eql_nilp_nilp  : binOp c .eql t (.v .nilp) (.v .nilp) = (eqY c t (.v .nilp) (.v .nilp)).map .bool := rfl
theorem bin_neq_nilp_nilp  : binOp c .neq t (.v .nilp) (.v .nilp) = (eqY c t (.v .nilp) (.v .nilp)).map fun b => .bool !b := rfl
theorem bin_eql_nilp_ptr  (b2 o2 : Nat) : binOp c .eql t (.v .nilp) (.v (.ptr b2 o2)) = (eqY c t (.v .nilp) (.v (.ptr b2 o2))).map .bool := rfl
theorem bin_neq_nilp_ptr  (b2 o2 : Nat) : binOp c .neq t (.v .nilp) (.v (.ptr b2 o2)) = (eqY c t (.v .nilp) (.v (.ptr b2 o2))).map fun b => .bool !b := rfl
theorem bin_eql_ptr_nilp (b o : Nat) : binOp c .eql t (.v (.ptr b o)) (.v .nilp) = (eqY c t (.v (.ptr b o)) (.v .nilp)).map .bool := rfl
theorem bin_neq_ptr_nilp (b o : Nat) : binOp c .neq t (.v (.ptr b o)) (.v .nilp) = (eqY c t (.v (.ptr b o)) (.v .nilp)).map fun b => .bool !b := rfl
theorem bin_eql_nils_nils  : binOp c .eql t (.v .nils) (.v .nils) = (eqY c t (.v .nils) (.v .nils)).map .bool := rfl
theorem bin_neq_nils_nils  : binOp c .neq t (.v .nils) (.v .nils) = (eqY c t (.v .nils) (.v .nils)).map fun b => .bool !b := rfl
theorem bin_eql_sl_nils (b o n cap opn : Nat) : binOp c .eql t (.v (.slice b o n cap opn)) (.v .nils) = (eqY c t (.v (.slice b o n cap opn)) (.v .nils)).map .bool := rfl
theorem bin_neq_sl_nils (b o n cap opn : Nat) : binOp c .neq t (.v (.slice b o n cap opn)) (.v .nils) = (eqY c t (.v (.slice b o n cap opn)) (.v .nils)).map fun b => .bool !b := rfl
theorem bin_eql_nilm_nilm  : binOp c .eql t (.v .nilm) (.v .nilm) = (eqY c t (.v .nilm) (.v .nilm)).map .bool := rfl
theorem bin_neq_nilm_nilm  : binOp c .neq t (.v .nilm) (.v .nilm) = (eqY c t (.v .nilm) (.v .nilm)).map fun b => .bool !b := rfl
theorem bin_eql_map_nilm (b : Nat) : binOp c .eql t (.v (.map b)) (.v .nilm) = (eqY c t (.v (.map b)) (.v .nilm)).map .bool := rfl
theorem bin_neq_map_nilm (b : Nat) : binOp c .neq t (.v (.map b)) (.v .nilm) = (eqY c t (.v (.map b)) (.v .nilm)).map fun b => .bool !b := rfl
theorem bin_eql_bool_bool (x y : Bool) : binOp c .eql t (.v (.bool x)) (.v (.bool y)) = (eqY c t (.v (.bool x)) (.v (.bool y))).map .bool := rfl
theorem bin_neq_bool_bool (x y : Bool) : binOp c .neq t (.v (.bool x)) (.v (.bool y)) = (eqY c t (.v (.bool x)) (.v (.bool y))).map fun b => .bool !b := rfl
end
attribute [go_sem] eqY eqV bin_eql_nilp_nilp bin_neq_nilp_nilp bin_eql_nilp_ptr bin_neq_nilp_ptr bin_eql_ptr_nilp bin_neq_ptr_nilp bin_eql_nils_nils bin_neq_nils_nils bin_eql_sl_nils bin_neq_sl_nils bin_eql_nilm_nilm bin_neq_nilm_nilm bin_eql_map_nilm bin_neq_map_nilm bin_eql_bool_bool bin_neq_bool_bool
theorem ble_dec (a b : Nat) : Nat.ble a b = decide (a ≤ b) := by
  rw [Bool.eq_iff_iff, decide_eq_true_iff]
  exact ⟨Nat.le_of_ble_eq_true, Nat.ble_eq_true_of_le⟩
theorem opt_ret {α : Type} (a : α) : (T.ret a).opt = some a := rfl
theorem bif_id (b : Bool) : (bif b then true else false) = b := by cases b <;> rfl

attribute [go_sem] callV ptrs evArgs evParts evPtrs loadY fieldOff partOf placeOf fillAll buildable setAt Y.cells Abs.sub putCells zeroY mapT entriesOf getMap sliceLen isMapT isSliceT elemT isU8 isIntT isSeqT toText
  blt_dec beq_dec ble_dec opt_ret Option.bind Option.map Option.getD List.headD List.length_cons List.length_nil List.take_succ_cons List.take_zero List.drop_succ_cons List.drop_zero List.cons_append List.nil_append List.append_nil List.getElem?_cons_zero List.getElem?_cons_succ List.map_cons List.map_nil
  cond_true cond_false decide_true decide_false BEq.rfl Bool.not_true Bool.not_false Bool.true_and Bool.and_true Bool.false_and Bool.and_false Bool.true_or Bool.false_or Bool.or_true Bool.or_false ne_eq not_false_eq_true not_true_eq_false true_and and_true if_true if_false reduceIte ite_true ite_false
  Nat.zero_add Nat.add_zero Nat.mul_one Nat.zero_mul Nat.mul_zero Int.ofNat_eq_natCast decide_eq_true_eq Nat.succ_eq_add_one
end Go.Abs

/- Symbolic runs: regions of open order. -/
namespace Go.Abs
open Go

section
variable {α β : Type} {K : β → Prop} (k : Tok K)
theorem Vl_bind (x : Option α) (f : α → Option β) : Vl K k (x.bind f) = Vl (fun a => Vl K .mk (f a)) .mk x := by cases x <;> rfl
theorem Vl_map (x : Option α) (f : α → β) : Vl K k (x.map f) = Vl (fun a => K (f a)) .mk x := by cases x <;> rfl
theorem Vl_bif (b : Bool) (q : β) : Vl K k (bif b then some q else none) = (b = true ∧ K q) := by cases b <;> simp [Vl]
theorem Vl_opt (t : T β) : Vl K k t.opt = A true K t := by
  cases t with
  | ret a => exact propext ⟨fun h => ⟨a, rfl, h⟩, fun ⟨p, h, hq⟩ => by cases h; exact hq⟩
  | fail => exact propext ⟨False.elim, fun ⟨p, h, _⟩ => by cases h⟩
  | ask n g => exact propext ⟨False.elim, fun ⟨p, h, _⟩ => by cases h⟩
end

section
variable {d : Bool} {c : Ctx} {r : Rec} {fuel : Nat} {fn : FuncId} {plans : Tr Plan} {rd : Option Nat} {go : Code → Code → Env → H → CRes} {Q : Ex × Env × H → Prop} (k : Tok Q) {env : Env} {h : H}
theorem all_draw (id : Nat) (ops : Array Oper) : Al d Q k (runC c r fuel fn plans rd go (.region id ops true) env h) = Vl (fun p => Vl (fun q => Q (.normal, q.1, q.2)) .mk (drawRegion c r p ops.toList env h)) .mk (plans.get id) := by
  have e : runC c r fuel fn plans rd go (.region id ops true) env h = okO (plans.get id) fun p => okO (drawRegion c r p ops.toList env h) fun q => .ret (.normal, q) := rfl
  rw [e, A_okO]
  have e2 : (fun p => A d Q (okO (drawRegion c r p ops.toList env h) fun q => (.ret (.normal, q) : CRes))) = fun p => Vl (fun q => Q (.normal, q.1, q.2)) .mk (drawRegion c r p ops.toList env h) := funext fun p => by
    rw [A, A_okO]
    exact congrArg (fun K => Vl K .mk (drawRegion c r p ops.toList env h)) (funext fun q => A_ret _ _)
  exact congrArg (fun K => Vl K .mk (plans.get id)) e2
variable {p : Plan} {ops l : List Oper} {base i : Nat}
theorem drwEq : drawRegion c r p ops env h = (drawOps c r ops h.next ops 0 env { h with next := h.next + ops.length }).bind fun q =>
    bif stable c p ops q.1 (snapsOf c q.1 0 q.2.2) h.next q.1 0 then some q.2 else none := rfl
theorem drwNil : drawOps c r ops base [] i env h = some ([], env, h) := rfl
theorem drwCons (o : Oper) : drawOps c r ops base (o :: l) i env h = (drawStep c r ops base i env h o).bind fun p =>
    (drawOps c r ops base l (i + 1) (env.putD o.dst p.1) p.2).map fun (q : List Step × Env × H) => (⟨o, env, h, p.1, p.2⟩ :: q.1, q.2) := rfl
theorem wanted_none (dst : Option Tmp) (op : Op) (ty : TypeId) (pos : String) (after : Array Edge) : wantedV ops env ⟨dst, op, ty, pos, after, none⟩ = some true := rfl
theorem put_next (h : H) (n b : Nat) (o : O) : ({ h with next := n } : H).put b o = { h.put b o with next := n } := rfl
theorem get_next (h : H) (n b : Nat) : ({ h with next := n } : H).get b = h.get b := rfl
theorem mk_get (n b : Nat) (t : Tr O) : (H.mk n t).get b = t.get b := rfl
theorem tr_get (h : H) (b : Nat) : h.tr.get b = h.get b := rfl
noncomputable def dStepK (kd : Kind) (c : Ctx) (r : Rec) (base i : Nat) (env : Env) (h : H) (op : Op) : Option (X × H) :=
  match kd with
  | .does => (doesOp c r env h op).opt
  | .reads => (readOp c h env op).map fun x => (x, h)
  | .calm => (calmOp c env op).opt.map fun x => (x, h)
  | .lays => (laysOp c env (base + i) op).opt.map fun p => (.y (.v p.1), h.put (base + i) p.2)
end
section
variable {c : Ctx} {r : Rec} {env : Env} {h : H} {p : Plan} {ops l : List Oper} {base i : Nat}
theorem Vl_drw {K : Env × H → Prop} (k : Tok K) : Vl K k (drawRegion c r p ops env h) = Vl (fun q => Vl K .mk (bif stable c p ops q.1 (snapsOf c q.1 0 q.2.2) h.next q.1 0 then some q.2 else none)) .mk (drawOps c r ops h.next ops 0 env { h with next := h.next + ops.length }) := by
  rw [drwEq, Vl_bind]
theorem Vl_dnil {K : List Step × Env × H → Prop} (k : Tok K) : Vl K k (drawOps c r ops base [] i env h) = K ([], env, h) := rfl
theorem Vl_dcons {K : List Step × Env × H → Prop} (k : Tok K) (dst : Option Tmp) (op : Op) (ty : TypeId) (pos : String) (after : Array Edge) :
    Vl K k (drawOps c r ops base (⟨dst, op, ty, pos, after, none⟩ :: l) i env h) =
      Vl (fun p => Vl (fun q => K (⟨⟨dst, op, ty, pos, after, none⟩, env, h, p.1, p.2⟩ :: q.1, q.2)) .mk (drawOps c r ops base l (i + 1) (env.putD dst p.1) p.2)) .mk (dStepK (kindOf c op) c r base i env h op) := by
  rw [drwCons, Vl_bind]
  have e : drawStep c r ops base i env h ⟨dst, op, ty, pos, after, none⟩ = dStepK (kindOf c op) c r base i env h op := by
    show (some true).bind _ = _
    show (match kindOf c op with | .does => _ | .reads => _ | .calm => _ | .lays => _) = _
    cases kindOf c op <;> rfl
  rw [e]
  exact congrArg (fun K => Vl K .mk (dStepK (kindOf c op) c r base i env h op)) (funext fun p => Vl_map _ _ _)
theorem Vl_dguard {K : List Step × Env × H → Prop} (k : Tok K) (dst : Option Tmp) (op : Op) (ty : TypeId) (pos : String) (after : Array Edge) (j : Nat) (want : Bool) :
    Vl K k (drawOps c r ops base (⟨dst, op, ty, pos, after, some (j, want)⟩ :: l) i env h) =
      Gd (Vl (fun p => Vl (fun q => K (⟨⟨dst, op, ty, pos, after, some (j, want)⟩, env, h, p.1, p.2⟩ :: q.1, q.2)) .mk (drawOps c r ops base l (i + 1) (env.putD dst p.1) p.2)) .mk (dStepK (kindOf c op) c r base i env h op))
        (Vl (fun q => K (⟨⟨dst, op, ty, pos, after, some (j, want)⟩, env, h, undefX, h⟩ :: q.1, q.2)) .mk (drawOps c r ops base l (i + 1) (env.putD dst undefX) h)) .mk .mk (wantX ops[j]? env want) := by
  rw [drwCons, Vl_bind]
  have e : drawStep c r ops base i env h ⟨dst, op, ty, pos, after, some (j, want)⟩ = (wantX ops[j]? env want).bind fun b => bif b then dStepK (kindOf c op) c r base i env h op else some (undefX, h) := by
    show (wantedV ops env _).bind _ = _
    rw [wantedV_eq]
    cases wantX ops[j]? env want with
    | none => rfl
    | some b =>
      cases b with
      | false => rfl
      | true =>
        show (match kindOf c op with | .does => _ | .reads => _ | .calm => _ | .lays => _) = _
        cases kindOf c op <;> rfl
  rw [e]
  cases wantX ops[j]? env want with
  | none => rfl
  | some b =>
    cases b with
    | false => exact Vl_map .mk _ _
    | true => exact congrArg (fun K => Vl K .mk (dStepK (kindOf c op) c r base i env h op)) (funext fun p => Vl_map _ _ _)
section
variable {K : X × H → Prop} (k : Tok K) (op : Op)
theorem Vl_does : Vl K k (dStepK .does c r base i env h op) = A true K (doesOp c r env h op) := Vl_opt k _
theorem Vl_reads : Vl K k (dStepK .reads c r base i env h op) = Vl (fun x => K (x, h)) .mk (readOp c h env op) := Vl_map k _ _
theorem Vl_calm : Vl K k (dStepK .calm c r base i env h op) = A true (fun x => K (x, h)) (calmOp c env op) := (Vl_map k _ _).trans (Vl_opt _ _)
theorem Vl_lays : Vl K k (dStepK .lays c r base i env h op) = A true (fun p => K (.y (.v p.1), h.put (base + i) p.2)) (laysOp c env (base + i) op) := (Vl_map k _ _).trans (Vl_opt _ _)
end
end
/-- One end alone: an equation. -/
theorem eq_of_A {α : Type} {t : T α} {a : α} (h : A true (fun p => p = a) t) : t = .ret a := by
  obtain ⟨p, h1, h2⟩ := h
  have h2 : p = a := h2
  subst h2
  cases t with
  | ret b => cases h1; rfl
  | fail => cases h1
  | ask n k => cases h1

def loop1Q (d : Bool) (body : Env → H → CRes) (f : Nat) (Q : Ex × Env × H → Prop) (p : Ex × Env × H) : Prop :=
  match p.1 with
  | .normal => A d Q (loopC body f p.2.1 p.2.2)
  | _ => Q p
section
variable {d : Bool} {Q : Ex × Env × H → Prop} (k : Tok Q) (body : Env → H → CRes) (f : Nat) (env : Env) (h : H)
/-- One round of a loop. -/
theorem loop_round : Al d Q k (loopC body (f + 1) env h) = A d (loop1Q d body f Q) (body env h) := by
  show Al d Q k ((body env h).bind fun p => match p.1 with | .normal => loopC body f p.2.1 p.2.2 | _ => .ret p) = _
  rw [A_bind]
  have e : (fun p : Ex × Env × H => A d Q (match p.1 with | .normal => loopC body f p.2.1 p.2.2 | _ => .ret p)) = loop1Q d body f Q := by
    funext p
    obtain ⟨ex, env', h'⟩ := p
    cases ex with
    | normal => rfl
    | _ => exact A_ret _ _
  exact congrArg (fun q => A d q (body env h)) e
theorem loop1Q_normal : loop1Q d body f Q (.normal, env, h) = A d Q (loopC body f env h) := rfl
theorem loop1Q_exit (i : Nat) : loop1Q d body f Q (.exit i, env, h) = Q (.exit i, env, h) := rfl
theorem loop1Q_ret : loop1Q d body f Q (.ret, env, h) = Q (.ret, env, h) := rfl
theorem loop1Q_goto (i : Nat) : loop1Q d body f Q (.goto i, env, h) = Q (.goto i, env, h) := rfl
end
theorem beqT (b : Bool) : (b == true) = b := by cases b <;> rfl
theorem beqF (b : Bool) : (b == false) = !b := by cases b <;> rfl
attribute [go_sem] beqT beqF
theorem knatO_lit2 (kd : IntKind) (n : Nat) : knatO (.int kd (no_index (@OfNat.ofNat Int n instOfNat))) = some (@OfNat.ofNat Nat n (instOfNatNat n)) := rfl
attribute [go_sem] knatO_lit2 Int.cast_ofNat_Int
theorem rep_0 (l : List V) : rep l 0 = [] := rfl
theorem rep_1 (l : List V) : rep l 1 = l ++ [] := rfl
theorem rep_2 (l : List V) : rep l 2 = l ++ (l ++ []) := rfl
theorem rep_3 (l : List V) : rep l 3 = l ++ (l ++ (l ++ [])) := rfl
attribute [go_sem] rep_0 rep_1 rep_2 rep_3
attribute [go_sem ↓] all_draw Vl_bind Vl_map Vl_bif Vl_opt Vl_drw Vl_dnil Vl_dcons Vl_dguard Vl_does Vl_reads Vl_calm Vl_lays
attribute [go_sem] wanted_none wantedV_eq stable snapsOf stableAt lookAt planOf blockOf mk_get tr_get Vl_opt Vl_bif Vl_map Vl_bind
end Go.Abs

/- From a symbolic run to a call in whatever memory; arguments that are whole numbers. -/
namespace Go.Abs
open Go Go.RowKit
theorem okWide_int {P : Program} {w : World} {r : Reach} {base : Nat} {t : TypeId} {v : Value} {k : IntKind} (h : Cell.okWide P w r base t v) (hu : P.underlying t = some (.int k)) : ∃ n, v = .int k n ∧ k.has n := by
  unfold Cell.okWide Cell.ok at h
  rw [hu] at h
  cases v <;> first | exact h.elim | skip
  obtain ⟨rfl, h⟩ := h
  exact ⟨_, rfl, h⟩
theorem row_ints4 {P : Program} {w : World} {r : Reach} {base : Nat} {t e : TypeId} {cs : Array Value} {k : IntKind} (h : Row.okWide P w r base t cs) (hc : P.cellTypes P.depth t = some [e, e, e, e]) (hu : P.underlying e = some (.int k)) (hn : cs.size = 4) :
    ∃ a b c d, cs = #[.int k a, .int k b, .int k c, .int k d] := by
  obtain ⟨ts, h1, _, hall⟩ := h
  rw [hc] at h1
  cases h1
  obtain ⟨l⟩ := cs
  match l, hn with
  | [v0, v1, v2, v3], _ =>
    obtain ⟨u0, e0, k0⟩ := hall 0 v0 rfl
    obtain ⟨u1, e1, k1⟩ := hall 1 v1 rfl
    obtain ⟨u2, e2, k2⟩ := hall 2 v2 rfl
    obtain ⟨u3, e3, k3⟩ := hall 3 v3 rfl
    cases e0; cases e1; cases e2; cases e3
    obtain ⟨a, rfl, _⟩ := okWide_int k0 hu
    obtain ⟨b, rfl, _⟩ := okWide_int k1 hu
    obtain ⟨c, rfl, _⟩ := okWide_int k2 hu
    obtain ⟨d, rfl, _⟩ := okWide_int k3 hu
    exact ⟨a, b, c, d, rfl⟩
/-- A symbolic run is a call's, in whatever memory. -/
theorem all_walk {P : Program} {c : Ctx} {r : Rec} {K : CodeP} (hrec : ∀ n w0, RecSound K ⟨n, false⟩ w0 P c r) {g : FuncId} {ys : List Y} {x : X} (hcl : A false (fun p => p.1 = x) (r.call g ys emptyH)) (hp : c.prim g = none) {vs : Array Value} {w : World}
    (hv : LRel (YR (fun _ => none)) ys vs.toList) : Calls P g vs w fun e w' => (∃ v ν, e = .returned v ∧ XR ν x v) ∧ Below w.heap.size w w' := by
  have := ((hrec w.heap.size w).plain 0 (fun _ => none) emptyH w g ys vs _ (HR.empty K false w) hv hcl hp).2
  refine (callsIn_wide.1 this).mono fun e w' hR => ?_
  cases e with
  | returned v =>
    obtain ⟨x', h', ν', e1, hxr, hr', _⟩ := hR
    have e1 : x' = x := e1
    subst e1
    exact ⟨⟨v, ν', rfl, hxr⟩, hr'.below.bel⟩
  | panicked ch => exact hR.elim
  | outgrown => exact hR.elim
end Go.Abs

